/- json's reader: word, four, sign, escape. json's reader: sign, escape. json's reader: escape. -/
import Derived.Test.YtlbilofnbhhmjaaGreatDoorSmall
import Derived.Laws.BitsLemmas
import Derived.Laws.BitsAllLaws
import Derived.Lib.IndexBytes
namespace Go.Proofs.YtlbilofnbhhmjaaGreatDoor
section
open Go.RowKit
set_option linter.unusedVariables false
set_option linter.unusedSimpArgs false
/-- What a method of the reader does that reads something: it hands out what was read and stands behind it, or panics with the place and the error; of old memory the reader's own block alone turns. -/
def Does {α : Type} (r : R α) (val : α → Value) (b : Nat) (s : ByteArray) (w : World) (e : Ending) (w' : World) : Prop :=
  w.grownBy w' (some b) ∧ match r with
    | .ok a j => e = .returned (val a) ∧ Rd w' b s j
    | .no j er => e = .panicked (oops j er)
theorem word_any (b i : Nat) (s wd : ByteArray) (w : World) (hr : Rd w b s i) (hs : s.size ≤ 1099511627776) (hi : i ≤ s.size) (hw : wd.size ≤ 1000) (hz : ∀ k, k < wd.size → ch wd k ≠ 0) :
    Calls Tryz.prog 45 #[.pointer (some ⟨b, 0, none⟩), .string wd] w (Does (word s wd i) (fun _ => .tuple #[]) b s w) := by
  obtain ⟨RES, hR⟩ : ∃ r, word s wd i = r := ⟨_, rfl⟩
  rw [hR]
  have HR := Lib.hid hR
  have Hr := Lib.hid hr
  have HZ := Lib.hid hz
  clear hR hr hz
  go_enter Tryz.func45, Tryz.ntmps45
  go_wp2_with fail
  go_loopw [7] (fun v wr => ∃ k : Nat, k ≤ wd.size ∧ i + k ≤ s.size ∧ v = .int .i64 k ∧ Hid (wordAt s wd (wd.size - k) (i + k) = RES) ∧ Hid (Rd wr b s (i + k)) ∧ Hid (w.grownBy wr (some b))) (fun v _ => wd.size - (intOf v).toNat)
  case atStart => exact ⟨0, by omega, hi, rfl, HR, Hr, Lib.hid (grown_refl _ _)⟩
  case round =>
    obtain ⟨k, hk, hik, rfl, Hw, Hrd, HG⟩ := hrel
    by_cases hlt : k < wd.size
    · have hc := (ch_in hlt).symm
      have HS : Hid ((if ch s (i + k) = ch wd k then wordAt s wd (wd.size - (k + 1)) (i + k + 1) else .no (i + k) 130) = RES) := Lib.hid (by
        rw [← Hw.out, show wd.size - k = (wd.size - (k + 1)) + 1 by omega, wordAt, show wd.size - (wd.size - (k + 1) + 1) = k by omega])
      by_cases he : ch s (i + k) = ch wd k
      · have hb : (ch s (i + k) != ch wd k) = false := by simp [he]
        have hlt2 : i + k < s.size := ch_pos (by rw [he]; exact HZ.out k hlt)
        have HS2 : Hid (wordAt s wd (wd.size - (k + 1)) (i + k + 1) = RES) := Lib.hid (by rw [← HS.out, if_pos he])
        clear he
        go_wp2_with fail
        go_quiet ((go_at_call 41; exact Calls.quiet_of (next_q b (i + k) s _ (Hrd.out.drewN _) hs (by omega))))
        have Hrd1 := Lib.hid (Hrd.out.drewN nq)
        have HG1 := Lib.hid (grown_drewN HG.out nq)
        generalize hw1 : wr.drewN nq = w1 at Hrd1 HG1
        clear hw1
        have c1 := Hrd1.out.i
        have d1 := Hrd1.out.free 1
        have e1 : (((i + k : Nat) : Int)) + 1 = ((i + k + 1 : Nat) : Int) := by omega
        go_wp2_with fail
        go_roundw
        case rel => exact ⟨k + 1, by omega, by omega, by go_num, HS2, Lib.hid (Hrd1.out.set (i + k + 1)), Lib.hid (grown_set HG1.out (.inl rfl) _ _)⟩
        case measure => simp [intOf]; omega
      · have hb : (ch s (i + k) != ch wd k) = true := by simpa using he
        have HS2 : Hid (R.no (i + k) 130 = RES) := Lib.hid (by rw [← HS.out, if_neg he])
        clear he
        go_wp2_with fail
        go_quiet ((go_at_call 41; exact Calls.quiet_of (next_q b (i + k) s _ (Hrd.out.drewN _) hs (by omega))))
        have Hrd1 := Lib.hid (Hrd.out.drewN nq)
        have HG1 := Lib.hid (grown_drewN HG.out nq)
        generalize hw1 : wr.drewN nq = w1 at Hrd1 HG1
        clear hw1
        have c1 := Hrd1.out.i
        go_wp2_with (go_at_call 29; refine (fail_any ((i + k : Nat) : Int) 130 w1).mono ?_; rintro e w2 ⟨rfl, rfl⟩)
        exact ⟨rfl, by rw [← HS2.out]; exact ⟨HG1.out, rfl⟩⟩
    · have HS2 : Hid (R.ok () (i + k) = RES) := Lib.hid (by rw [← Hw.out, show wd.size - k = 0 by omega]; rfl)
      go_wp2_with fail
      go_end0
      rw [← HS2.out]
      exact ⟨HG.out, rfl, Hrd.out⟩
theorem hexv_range {c d : Int} (h : hexv c = some d) : 0 ≤ d ∧ d ≤ 15 ∧ c ≠ 0 := by
  unfold hexv at h
  split at h
  · cases h; omega
  split at h
  · cases h; omega
  split at h
  · cases h; omega
  · cases h
theorem or_hex (n d : Int) (h0 : 0 ≤ n) (h1 : n ≤ 4095) (h2 : 0 ≤ d) (h3 : d ≤ 15) : bits .or .i32 (n * 16) d = 16 * n + d := by
  obtain ⟨a, rfl⟩ := Int.eq_ofNat_of_zero_le h0
  obtain ⟨b, rfl⟩ := Int.eq_ofNat_of_zero_le h2
  have h := (bits_nat .i32 31 (by decide) (fun n h0 h1 => wraps_i32 n h0 h1) (a * 16) b (by omega) (by omega)).2
  rw [nat_join 4 (a * 16) b (by omega) (by omega)] at h
  have e : ((a : Int) * 16) = ((a * 16 : Nat) : Int) := by omega
  rw [e, h]; omega
theorem or32_fin : ∀ c : Fin 256, bits .or .u8 ((c.val : Nat) : Int) 32 = if c.val / 32 % 2 = 0 then ((c.val : Nat) : Int) + 32 else ((c.val : Nat) : Int) := by decide +kernel
theorem or32 (c : Int) (h0 : 0 ≤ c) (h1 : c ≤ 255) : bits .or .u8 c 32 = if c / 32 % 2 = 0 then c + 32 else c := by
  obtain ⟨a, rfl⟩ := Int.eq_ofNat_of_zero_le h0
  have h := or32_fin ⟨a, by omega⟩
  simp only at h
  rw [h]
  split <;> split <;> omega
theorem hexv_digit {c : Int} (h : 48 ≤ c) (h' : c ≤ 57) : hexv c = some (c - 48) := by unfold hexv; rw [if_pos ⟨h, h'⟩]
theorem hexv_small {c : Int} (h : 97 ≤ c) (h' : c ≤ 102) : hexv c = some (c - 87) := by unfold hexv; rw [if_neg (by omega), if_pos ⟨h, h'⟩]
theorem hexv_great {c : Int} (h : 65 ≤ c) (h' : c ≤ 70) : hexv c = some (c - 55) := by unfold hexv; rw [if_neg (by omega), if_neg (by omega), if_pos ⟨h, h'⟩]
theorem hexv_none {c : Int} (h1 : c < 48 ∨ 57 < c) (h2 : c < 97 ∨ 102 < c) (h3 : c < 65 ∨ 70 < c) : hexv c = none := by unfold hexv; rw [if_neg (by omega), if_neg (by omega), if_neg (by omega)]
set_option maxHeartbeats 3200000 in
theorem four_any (b i : Nat) (s : ByteArray) (w : World) (hr : Rd w b s i) (hs : s.size ≤ 1099511627776) (hi : i ≤ s.size) :
    Calls Tryz.prog 113 #[.pointer (some ⟨b, 0, none⟩)] w (Does (four s i) (fun v => .int .i32 v) b s w) := by
  obtain ⟨RES, hR⟩ : ∃ r, four s i = r := ⟨_, rfl⟩
  rw [hR]
  have HR := Lib.hid hR
  have Hr := Lib.hid hr
  clear hR hr
  go_enter Tryz.func113, Tryz.ntmps113
  go_wp2_with fail
  go_loopw [2, 4] (fun x v wr => ∃ (k : Nat) (n : Int), k ≤ 4 ∧ i + k ≤ s.size ∧ 0 ≤ n ∧ Hid (n < 16 ^ k) ∧ x = .int .i32 n ∧ v = .int .i64 k ∧ Hid (fourN s (4 - k) n (i + k) = RES) ∧ Hid (Rd wr b s (i + k)) ∧ Hid (w.grownBy wr (some b))) (fun _ v _ => 4 - (intOf v).toNat)
  case atStart => exact ⟨0, 0, by omega, hi, by omega, Lib.hid (by decide), rfl, rfl, HR, Hr, Lib.hid (grown_refl _ _)⟩
  case round =>
    obtain ⟨k, n, hk, hik, hn, Hn, rfl, rfl, Hw, Hrd, HG⟩ := hrel
    by_cases hlt : k < 4
    · obtain ⟨c, hc⟩ : ∃ c, ch s (i + k) = c := ⟨_, rfl⟩
      have hcr := ch_range s (i + k)
      rw [hc] at hcr
      have hn4 : n ≤ 4095 := by
        have := Hn.out
        have h16 : (16 : Int) ^ k ≤ 16 ^ 3 := by
          match k, hlt with
          | 0, _ | 1, _ | 2, _ | 3, _ => decide
        omega
      have Hc := Lib.hid hc
      have HS : Hid (∀ d, hexv c = some d → fourN s (4 - (k + 1)) (16 * n + d) (i + k + 1) = RES) := Lib.hid (fun d hd => by
        rw [← Hw.out, show 4 - k = (4 - (k + 1)) + 1 by omega, fourN, hc, hd])
      have HN : Hid (hexv c = none → R.no (i + k) 130 = RES) := Lib.hid (fun hd => by
        rw [← Hw.out, show 4 - k = (4 - (k + 1)) + 1 by omega, fourN, hc, hd])
      have Hlt : Hid (∀ d, hexv c = some d → i + k < s.size ∧ Hid (16 * n + d < 16 ^ (k + 1))) := Lib.hid (fun d hd => by
        obtain ⟨hd0, hd1, hd2⟩ := hexv_range hd
        refine ⟨ch_pos (by rw [hc]; exact hd2), Lib.hid ?_⟩
        have := Hn.out
        rw [Int.pow_succ]; omega)
      clear hc
      by_cases h1 : 48 ≤ c ∧ c ≤ 57
      · have hd : digitB c = true := by simp [digitB]; omega
        have h1' := h1.1
        have h1'' := h1.2
        have Hh := Lib.hid (hexv_digit h1' h1'')
        clear h1
        go_wp2_with (first
          | (have _ := w1; go_at_call 56; refine (digit_any c w1).mono ?_; rintro e w2 ⟨rfl, rfl⟩)
          | (go_at_call 41; refine (next_any b (i + k) s wr Hrd.out hs (by omega)).mono ?_; rintro e w1 ⟨rfl, hg1⟩; rw [Hc.out]; have Hrd1 := Lib.hid (Hrd.out.grown hg1 (by simp)); have HG1 := Lib.hid (grown_trans HG.out (grown_none hg1 _)); have c1 := Hrd1.out.i; have d1 := Hrd1.out.free 1; clear hg1))
        go_roundw
        case rel =>
          obtain ⟨h3, h4⟩ := Hlt.out _ Hh.out
          exact ⟨k + 1, _, by omega, by omega, by omega, h4, by rw [or_hex n _ hn hn4 (by omega) (by omega)], by go_num, Lib.hid (HS.out _ Hh.out), Lib.hid (Hrd1.out.set (i + k + 1)), Lib.hid (grown_set HG1.out (.inl rfl) _ _)⟩
        case measure => simp [intOf]; omega
      · have hd : digitB c = false := by simp [digitB]; omega
        have Ho := Lib.hid (or32 c hcr.1 hcr.2)
        by_cases h2 : 97 ≤ c ∧ c ≤ 102
        · have h2' := h2.1
          have h2'' := h2.2
          have ho : bits .or .u8 c 32 = c := by rw [Ho.out, if_neg (by omega)]
          have Hh := Lib.hid (hexv_small h2' h2'')
          clear h1 h2
          go_wp2_with (first
            | (have _ := w1; go_at_call 56; refine (digit_any c w1).mono ?_; rintro e w2 ⟨rfl, rfl⟩)
            | (go_at_call 41; refine (next_any b (i + k) s wr Hrd.out hs (by omega)).mono ?_; rintro e w1 ⟨rfl, hg1⟩; rw [Hc.out]; have Hrd1 := Lib.hid (Hrd.out.grown hg1 (by simp)); have HG1 := Lib.hid (grown_trans HG.out (grown_none hg1 _)); have c1 := Hrd1.out.i; have d1 := Hrd1.out.free 1; clear hg1))
          go_roundw
          case rel =>
            obtain ⟨h3, h4⟩ := Hlt.out _ Hh.out
            exact ⟨k + 1, _, by omega, by omega, by omega, h4, by rw [show c - 97 + 10 = c - 87 by omega, or_hex n _ hn hn4 (by omega) (by omega)], by go_num, Lib.hid (HS.out _ Hh.out), Lib.hid (Hrd1.out.set (i + k + 1)), Lib.hid (grown_set HG1.out (.inl rfl) _ _)⟩
          case measure => simp [intOf]; omega
        · by_cases h3 : 65 ≤ c ∧ c ≤ 70
          · have h3' := h3.1
            have h3'' := h3.2
            have ho : bits .or .u8 c 32 = c + 32 := by rw [Ho.out, if_pos (by omega)]
            have Hh := Lib.hid (hexv_great h3' h3'')
            clear h1 h2 h3
            go_wp2_with (first
              | (have _ := w1; go_at_call 56; refine (digit_any c w1).mono ?_; rintro e w2 ⟨rfl, rfl⟩)
              | (go_at_call 41; refine (next_any b (i + k) s wr Hrd.out hs (by omega)).mono ?_; rintro e w1 ⟨rfl, hg1⟩; rw [Hc.out]; have Hrd1 := Lib.hid (Hrd.out.grown hg1 (by simp)); have HG1 := Lib.hid (grown_trans HG.out (grown_none hg1 _)); have c1 := Hrd1.out.i; have d1 := Hrd1.out.free 1; clear hg1))
            go_roundw
            case rel =>
              obtain ⟨h3, h4⟩ := Hlt.out _ Hh.out
              exact ⟨k + 1, _, by omega, by omega, by omega, h4, by rw [show c + 32 - 97 + 10 = c - 55 by omega, or_hex n _ hn hn4 (by omega) (by omega)], by go_num, Lib.hid (HS.out _ Hh.out), Lib.hid (Hrd1.out.set (i + k + 1)), Lib.hid (grown_set HG1.out (.inl rfl) _ _)⟩
            case measure => simp [intOf]; omega
          · have HS2 := Lib.hid (HN.out (hexv_none (by omega) (by omega) (by omega)))
            have ho : ¬ (97 ≤ bits .or .u8 c 32 ∧ bits .or .u8 c 32 ≤ 102) := by rw [Ho.out]; split <;> omega
            obtain ⟨o, hoo⟩ : ∃ o, bits .or .u8 c 32 = o := ⟨_, rfl⟩
            rw [hoo] at ho
            clear h1 h2 h3 Ho
            by_cases hx : 97 ≤ o
            · have hx2 : ¬ o ≤ 102 := fun h => ho ⟨hx, h⟩
              have hx3 : 102 < o := by omega
              clear ho hx2
              go_wp2_with (first
                | (have _ := w1; go_at_call 56; refine (digit_any c w1).mono ?_; rintro e w2 ⟨rfl, rfl⟩)
                | (have _ := w1; go_at_call 29; refine (fail_any ((i + k : Nat) : Int) 130 w1).mono ?_; rintro e w2 ⟨rfl, rfl⟩)
                | (go_at_call 41; refine (next_any b (i + k) s wr Hrd.out hs (by omega)).mono ?_; rintro e w1 ⟨rfl, hg1⟩; rw [Hc.out]; have Hrd1 := Lib.hid (Hrd.out.grown hg1 (by simp)); have HG1 := Lib.hid (grown_trans HG.out (grown_none hg1 _)); have c1 := Hrd1.out.i; have d1 := Hrd1.out.free 1; clear hg1))
              exact ⟨rfl, by rw [← HS2.out]; exact ⟨HG1.out, rfl⟩⟩
            · have hx3 : o < 97 := by omega
              clear ho hx
              go_wp2_with (first
                | (have _ := w1; go_at_call 56; refine (digit_any c w1).mono ?_; rintro e w2 ⟨rfl, rfl⟩)
                | (have _ := w1; go_at_call 29; refine (fail_any ((i + k : Nat) : Int) 130 w1).mono ?_; rintro e w2 ⟨rfl, rfl⟩)
                | (go_at_call 41; refine (next_any b (i + k) s wr Hrd.out hs (by omega)).mono ?_; rintro e w1 ⟨rfl, hg1⟩; rw [Hc.out]; have Hrd1 := Lib.hid (Hrd.out.grown hg1 (by simp)); have HG1 := Lib.hid (grown_trans HG.out (grown_none hg1 _)); have c1 := Hrd1.out.i; have d1 := Hrd1.out.free 1; clear hg1))
              exact ⟨rfl, by rw [← HS2.out]; exact ⟨HG1.out, rfl⟩⟩
    · have hk4 : k = 4 := by omega
      subst hk4
      have HS2 : Hid (R.ok n (i + 4) = RES) := Lib.hid (by rw [← Hw.out]; rfl)
      go_wp2_with fail
      go_ret
      rw [← HS2.out]
      exact ⟨HG.out, rfl, Hrd.out⟩
end
section
open Go.RowKit
set_option linter.unusedVariables false
set_option linter.unusedSimpArgs false
theorem Does.ok {α : Type} {r : R α} {val : α → Value} {b : Nat} {s : ByteArray} {w w' : World} {e : Ending} (h : Does r val b s w e w') {a : α} {j : Nat} (hr : r = .ok a j) :
    e = .returned (val a) ∧ Rd w' b s j ∧ w.grownBy w' (some b) := by subst hr; exact ⟨h.2.1, h.2.2, h.1⟩
theorem Does.no {α : Type} {r : R α} {val : α → Value} {b : Nat} {s : ByteArray} {w w' : World} {e : Ending} (h : Does r val b s w e w') {er : Int} {j : Nat} (hr : r = .no j er) :
    e = .panicked (oops j er) ∧ w.grownBy w' (some b) := by subst hr; exact ⟨h.2, h.1⟩
theorem fourN_ok {s : ByteArray} : ∀ {f : Nat} {v x : Int} {i j : Nat}, fourN s f v i = .ok x j → 0 ≤ v → j = i + f ∧ (i ≤ s.size → j ≤ s.size) ∧ v * 16 ^ f ≤ x ∧ x < (v + 1) * 16 ^ f
  | 0, v, x, i, j, h, hv => by simp [fourN] at h; obtain ⟨rfl, rfl⟩ := h; simp; omega
  | f + 1, v, x, i, j, h, hv => by
    unfold fourN at h
    split at h
    · rename_i d hd
      obtain ⟨h1, h2, h3⟩ := hexv_range hd
      obtain ⟨a, b, c, e⟩ := fourN_ok h (by omega)
      have hlt := ch_pos h3
      refine ⟨by omega, fun _ => b (by omega), ?_, ?_⟩
      · rw [Int.pow_succ]
        have : (0 : Int) ≤ 16 ^ f := Int.pow_nonneg (by omega)
        have h4 : v * (16 ^ f * 16) = 16 * v * 16 ^ f := by rw [Int.mul_comm (16 ^ f) 16, ← Int.mul_assoc, Int.mul_comm v 16]
        have h5 : (16 * v + d) * 16 ^ f = 16 * v * 16 ^ f + d * 16 ^ f := Int.add_mul ..
        have h6 : 0 ≤ d * 16 ^ f := Int.mul_nonneg h1 this
        omega
      · rw [Int.pow_succ]
        have : (0 : Int) ≤ 16 ^ f := Int.pow_nonneg (by omega)
        have h4 : (v + 1) * (16 ^ f * 16) = (16 * v + 16) * 16 ^ f := by rw [Int.mul_comm (16 ^ f) 16, ← Int.mul_assoc]; congr 1; omega
        have h5 : (16 * v + d + 1) * 16 ^ f ≤ (16 * v + 16) * 16 ^ f := Int.mul_le_mul_of_nonneg_right (by omega) this
        omega
    · cases h
theorem four_ok {s : ByteArray} {x : Int} {i j : Nat} (h : four s i = .ok x j) : j = i + 4 ∧ (i ≤ s.size → j ≤ s.size) ∧ 0 ≤ x ∧ x ≤ 65535 := by
  obtain ⟨a, b, c, d⟩ := fourN_ok (f := 4) h (by omega)
  have e : (16 : Int) ^ 4 = 65536 := by decide
  rw [e] at c d
  exact ⟨a, b, by omega, by omega⟩
theorem pair_list (s : ByteArray) (j : Nat) (h : j + 1 < s.size) : ((s.extract j s.size).extract 0 2).toList = [s[j]'(by omega), s[j + 1]] := by
  rw [Lib.extract_toList, Lib.extract_to_end]
  have h1 := Lib.data_getElem? s j (by omega)
  have h2 := Lib.data_getElem? s (j + 1) h
  refine List.ext_getElem? fun i => ?_
  match i with
  | 0 => simp [h1]
  | 1 => simp [h2]
  | n + 2 => simp; omega
theorem pair_test (s : ByteArray) (j : Nat) (h : j + 1 < s.size) : (((s.extract j s.size).extract 0 2).toList == [92, 117]) = (decide (ch s j = 92) && decide (ch s (j + 1) = 117)) := by
  rw [pair_list s j h, ch_in h, ch_in (show j < s.size by omega)]
  have key : ∀ (a : UInt8) (n : Nat), n < 256 → ((a == UInt8.ofNat n) = decide ((a.toNat : Int) = (n : Int))) := fun a n hn => by
    rw [Bool.eq_iff_iff]
    simp only [beq_iff_eq, decide_eq_true_eq]
    constructor
    · rintro rfl; simp; omega
    · intro h; apply UInt8.toNat_inj.1; simp; omega
  have e1 : (s[j]'(by omega) == 92) = decide (((s[j]'(by omega)).toNat : Int) = 92) := key (s[j]'(by omega)) 92 (by omega)
  have e2 : (s[j + 1] == 117) = decide ((s[j + 1].toNat : Int) = 117) := key s[j + 1] 117 (by omega)
  rw [← e1, ← e2]
  simp
/-- What sign reads, way by way. -/
structure SignIs (s : ByteArray) (i : Nat) (v : Int) (j : Nat) (RES : R Int) : Prop where
  plain : (v < 55296 ∨ 57343 < v) → RES = .ok v j
  half : 55296 ≤ v → v ≤ 57343 → (56319 < v ∨ ch s j ≠ 92 ∨ ch s (j + 1) ≠ 117) → RES = .no i 131
  bad : 55296 ≤ v → v ≤ 56319 → ch s j = 92 → ch s (j + 1) = 117 → ∀ k e, four s (j + 2) = .no k e → RES = .no k e
  two : 55296 ≤ v → v ≤ 56319 → ch s j = 92 → ch s (j + 1) = 117 → ∀ w k, four s (j + 2) = .ok w k → RES = if w < 56320 ∨ 57343 < w then .no i 131 else .ok (65536 + (v - 55296) * 1024 + (w - 56320)) k
theorem signIs {s : ByteArray} {i j : Nat} {v : Int} (h : four s (i + 2) = .ok v j) : SignIs s i v j (signOf s i) := by
  refine ⟨fun h1 => ?_, fun h1 h2 h3 => ?_, fun h1 h2 h3 h4 k e h5 => ?_, fun h1 h2 h3 h4 k e h5 => ?_⟩
  · unfold signOf; rw [h]; simp only; rw [if_pos h1]
  · unfold signOf; rw [h]; simp only; rw [if_neg (by omega), if_pos h3]
  · unfold signOf; rw [h]; simp only; rw [if_neg (by omega), if_neg (by simp [h3, h4]; omega), h5]
  · unfold signOf; rw [h]; simp only; rw [if_neg (by omega), if_neg (by simp [h3, h4]; omega), h5]
set_option maxHeartbeats 3200000 in
theorem sign_any (b i : Nat) (s : ByteArray) (w : World) (hr : Rd w b s (i + 2)) (hs : s.size ≤ 1099511627776) (hi : i + 2 ≤ s.size) :
    Calls Tryz.prog 90 #[.pointer (some ⟨b, 0, none⟩), .int .i64 i] w (Does (signOf s i) (fun v => .int .i32 v) b s w) := by
  obtain ⟨RES, hR⟩ : ∃ r, signOf s i = r := ⟨_, rfl⟩
  rw [hR]
  have Hr := Lib.hid hr
  cases hf : four s (i + 2) with
  | no j e =>
    have HS : Hid (R.no j e = RES) := Lib.hid (by rw [← hR]; unfold signOf; rw [hf])
    have Hf := Lib.hid hf
    clear hR hr hf
    go_enter Tryz.func90, Tryz.ntmps90
    go_wp2_with (go_at_call 113; refine (four_any b (i + 2) s w Hr.out hs hi).mono ?_; intro e1 w1 hd; obtain ⟨rfl, hg⟩ := hd.no Hf.out; have Hg := Lib.hid hg; clear hg hd)
    exact ⟨rfl, by rw [← HS.out]; exact ⟨Hg.out, rfl⟩⟩
  | ok v j =>
    obtain ⟨hj, hjs, hv0, hv1⟩ := four_ok hf
    have hjs' := hjs hi
    have Hf := Lib.hid hf
    have his := signIs hf
    rw [hR] at his
    have HI := Lib.hid his
    clear hR hr hf hj hjs his
    by_cases h1 : v < 55296
    · go_enter Tryz.func90, Tryz.ntmps90
      go_wp2_with (go_at_call 113; refine (four_any b (i + 2) s w Hr.out hs hi).mono ?_; intro e1 w1 hd; obtain ⟨rfl, hrd, hg⟩ := hd.ok Hf.out; have Hg := Lib.hid hg; have Hrd := Lib.hid hrd; clear hg hd hrd)
      go_ret
      rw [HI.out.plain (.inl h1)]
      exact ⟨Hg.out, rfl, Hrd.out⟩
    · by_cases h2 : 57343 < v
      · go_enter Tryz.func90, Tryz.ntmps90
        go_wp2_with (go_at_call 113; refine (four_any b (i + 2) s w Hr.out hs hi).mono ?_; intro e1 w1 hd; obtain ⟨rfl, hrd, hg⟩ := hd.ok Hf.out; have Hg := Lib.hid hg; have Hrd := Lib.hid hrd; clear hg hd hrd)
        go_ret
        rw [HI.out.plain (.inr h2)]
        exact ⟨Hg.out, rfl, Hrd.out⟩
      · have h1' : 55296 ≤ v := by omega
        have h2' : v ≤ 57343 := by omega
        clear h1 h2
        by_cases h3 : 56319 < v
        · go_enter Tryz.func90, Tryz.ntmps90
          go_wp2_with (go_at_call 113; refine (four_any b (i + 2) s w Hr.out hs hi).mono ?_; intro e1 w1 hd; obtain ⟨rfl, hrd, hg⟩ := hd.ok Hf.out; have Hg := Lib.hid hg; have Hrd := Lib.hid hrd; have c0 := hrd.s; have c1 := hrd.i; clear hg hd hrd)
          go_quiet (fail)
          go_wp2_with (go_at_call 29; refine (fail_any _ 131 _).mono ?_; rintro e w2 ⟨rfl, rfl⟩)
          exact ⟨rfl, by rw [HI.out.half h1' h2' (.inl h3)]; exact ⟨grown_drewN Hg.out nq, rfl⟩⟩
        · have h3' : v ≤ 56319 := by omega
          clear h3
          by_cases h4 : j + 1 < s.size
          · have ht := pair_test s j h4
            by_cases h5 : ch s j = 92 ∧ ch s (j + 1) = 117
            · obtain ⟨h6, h7⟩ := h5
              have ht2 : (((s.extract j s.size).extract 0 2).toList == [92, 117]) = true := by rw [ht, h6, h7]; rfl
              have hsz : ¬ ((s.size - j : Nat) : Int) < 2 := by omega
              have H6 := Lib.hid h6
              have H7 := Lib.hid h7
              clear ht h6 h7
              cases hf2 : four s (j + 2) with
              | no k e =>
                have Hf2 := Lib.hid hf2
                clear hf2
                go_enter Tryz.func90, Tryz.ntmps90
                go_wp2_with (go_at_call 113; refine (four_any b (i + 2) s w Hr.out hs hi).mono ?_; intro e1 w1 hd; obtain ⟨rfl, hrd, hg⟩ := hd.ok Hf.out; have Hg := Lib.hid hg; have Hrd := Lib.hid hrd; have c0 := hrd.s; have c1 := hrd.i; have d1 := hrd.free 1; clear hg hd hrd)
                go_quiet (fail)
                go_wp2_with (go_at_call 113; refine (four_any b (j + 2) s _ ((Hrd.out.drewN nq).set (j + 2)) hs (by omega)).mono ?_; intro e1 w2 hd; obtain ⟨rfl, hg⟩ := hd.no Hf2.out; have Hg2 := Lib.hid hg; clear hg hd)
                exact ⟨rfl, by rw [HI.out.bad h1' h3' H6.out H7.out _ _ Hf2.out]; exact ⟨grown_trans (grown_set (grown_drewN Hg.out nq) (.inl rfl) _ _) Hg2.out, rfl⟩⟩
              | ok u k =>
                have Hf2 := Lib.hid hf2
                obtain ⟨_, _, hu0, hu1⟩ := four_ok hf2
                clear hf2
                by_cases hu2 : u < 56320
                · go_enter Tryz.func90, Tryz.ntmps90
                  go_wp2_with (go_at_call 113; refine (four_any b (i + 2) s w Hr.out hs hi).mono ?_; intro e1 w1 hd; obtain ⟨rfl, hrd, hg⟩ := hd.ok Hf.out; have Hg := Lib.hid hg; have Hrd := Lib.hid hrd; have c0 := hrd.s; have c1 := hrd.i; have d1 := hrd.free 1; clear hg hd hrd)
                  go_quiet (fail)
                  go_wp2_with (first
                    | (have _ := w2; go_at_call 29; refine (fail_any _ 131 _).mono ?_; rintro e w3 ⟨rfl, rfl⟩)
                    | (go_at_call 113; refine (four_any b (j + 2) s _ ((Hrd.out.drewN nq).set (j + 2)) hs (by omega)).mono ?_; intro e1 w2 hd; obtain ⟨rfl, hrd, hg⟩ := hd.ok Hf2.out; have Hg2 := Lib.hid hg; clear hg hd hrd))
                  exact ⟨rfl, by rw [HI.out.two h1' h3' H6.out H7.out _ _ Hf2.out, if_pos (.inl hu2)]; exact ⟨grown_trans (grown_set (grown_drewN Hg.out nq) (.inl rfl) _ _) Hg2.out, rfl⟩⟩
                · by_cases hu3 : 57343 < u
                  · go_enter Tryz.func90, Tryz.ntmps90
                    go_wp2_with (go_at_call 113; refine (four_any b (i + 2) s w Hr.out hs hi).mono ?_; intro e1 w1 hd; obtain ⟨rfl, hrd, hg⟩ := hd.ok Hf.out; have Hg := Lib.hid hg; have Hrd := Lib.hid hrd; have c0 := hrd.s; have c1 := hrd.i; have d1 := hrd.free 1; clear hg hd hrd)
                    go_quiet (fail)
                    go_wp2_with (first
                      | (have _ := w2; go_at_call 29; refine (fail_any _ 131 _).mono ?_; rintro e w3 ⟨rfl, rfl⟩)
                      | (go_at_call 113; refine (four_any b (j + 2) s _ ((Hrd.out.drewN nq).set (j + 2)) hs (by omega)).mono ?_; intro e1 w2 hd; obtain ⟨rfl, hrd, hg⟩ := hd.ok Hf2.out; have Hg2 := Lib.hid hg; clear hg hd hrd))
                    exact ⟨rfl, by rw [HI.out.two h1' h3' H6.out H7.out _ _ Hf2.out, if_pos (.inr hu3)]; exact ⟨grown_trans (grown_set (grown_drewN Hg.out nq) (.inl rfl) _ _) Hg2.out, rfl⟩⟩
                  · go_enter Tryz.func90, Tryz.ntmps90
                    go_wp2_with (go_at_call 113; refine (four_any b (i + 2) s w Hr.out hs hi).mono ?_; intro e1 w1 hd; obtain ⟨rfl, hrd, hg⟩ := hd.ok Hf.out; have Hg := Lib.hid hg; have Hrd := Lib.hid hrd; have c0 := hrd.s; have c1 := hrd.i; have d1 := hrd.free 1; clear hg hd hrd)
                    go_quiet (fail)
                    go_wp2_with (go_at_call 113; refine (four_any b (j + 2) s _ ((Hrd.out.drewN nq).set (j + 2)) hs (by omega)).mono ?_; intro e1 w2 hd; obtain ⟨rfl, hrd, hg⟩ := hd.ok Hf2.out; have Hg2 := Lib.hid hg; have Hrd2 := Lib.hid hrd; clear hg hd hrd)
                    go_ret
                    rw [HI.out.two h1' h3' H6.out H7.out _ _ Hf2.out, if_neg (by omega)]
                    exact ⟨grown_trans (grown_set (grown_drewN Hg.out nq) (.inl rfl) _ _) Hg2.out, ret_num (by omega), Hrd2.out⟩
            · have ht2 : (((s.extract j s.size).extract 0 2).toList == [92, 117]) = false := by rw [ht]; simp; exact fun a b => h5 ⟨a, b⟩
              have hsz : ¬ ((s.size - j : Nat) : Int) < 2 := by omega
              have H5 : Hid (56319 < v ∨ ch s j ≠ 92 ∨ ch s (j + 1) ≠ 117) := Lib.hid (by
                by_cases h6 : ch s j = 92
                · exact .inr (.inr fun h7 => h5 ⟨h6, h7⟩)
                · exact .inr (.inl h6))
              clear ht h5
              go_enter Tryz.func90, Tryz.ntmps90
              go_wp2_with (go_at_call 113; refine (four_any b (i + 2) s w Hr.out hs hi).mono ?_; intro e1 w1 hd; obtain ⟨rfl, hrd, hg⟩ := hd.ok Hf.out; have Hg := Lib.hid hg; have Hrd := Lib.hid hrd; have c0 := hrd.s; have c1 := hrd.i; have d1 := hrd.free 1; clear hg hd hrd)
              go_quiet (fail)
              go_wp2_with (go_at_call 29; refine (fail_any _ 131 _).mono ?_; rintro e w2 ⟨rfl, rfl⟩)
              exact ⟨rfl, by rw [HI.out.half h1' h2' H5.out]; exact ⟨grown_drewN Hg.out nq, rfl⟩⟩
          · have hsz : ((s.size - j : Nat) : Int) < 2 := by omega
            have H5 : Hid (56319 < v ∨ ch s j ≠ 92 ∨ ch s (j + 1) ≠ 117) := Lib.hid (.inr (.inr (by rw [ch_out (by omega)]; decide)))
            go_enter Tryz.func90, Tryz.ntmps90
            go_wp2_with (go_at_call 113; refine (four_any b (i + 2) s w Hr.out hs hi).mono ?_; intro e1 w1 hd; obtain ⟨rfl, hrd, hg⟩ := hd.ok Hf.out; have Hg := Lib.hid hg; have Hrd := Lib.hid hrd; have c0 := hrd.s; have c1 := hrd.i; have d1 := hrd.free 1; clear hg hd hrd)
            go_quiet (fail)
            go_wp2_with (go_at_call 29; refine (fail_any _ 131 _).mono ?_; rintro e w2 ⟨rfl, rfl⟩)
            exact ⟨rfl, by rw [HI.out.half h1' h2' H5.out]; exact ⟨grown_drewN Hg.out nq, rfl⟩⟩
end
section
open Go.RowKit
set_option linter.unusedVariables false
set_option linter.unusedSimpArgs false
theorem escape_plain {s : ByteArray} {i : Nat} {c v : Int} (hc : ch s (i + 1) = c) (h : (c = 34 ∨ c = 92 ∨ c = 47) ∧ v = c ∨ c = 98 ∧ v = 8 ∨ c = 102 ∧ v = 12 ∨ c = 110 ∧ v = 10 ∨ c = 114 ∧ v = 13 ∨ c = 116 ∧ v = 9) : escape s i = .ok v (i + 2) := by
  unfold escape
  rw [hc]
  rcases h with ⟨h, rfl⟩ | ⟨rfl, rfl⟩ | ⟨rfl, rfl⟩ | ⟨rfl, rfl⟩ | ⟨rfl, rfl⟩ | ⟨rfl, rfl⟩
  · rw [if_pos h]
  all_goals simp
theorem escape_u {s : ByteArray} {i : Nat} (hc : ch s (i + 1) = 117) : escape s i = signOf s i := by
  unfold escape; rw [hc]; simp
theorem escape_no {s : ByteArray} {i : Nat} {c : Int} (hc : ch s (i + 1) = c) (h : c ≠ 34 ∧ c ≠ 92 ∧ c ≠ 47 ∧ c ≠ 98 ∧ c ≠ 102 ∧ c ≠ 110 ∧ c ≠ 114 ∧ c ≠ 116 ∧ c ≠ 117) : escape s i = .no (i + 1) 130 := by
  unfold escape; rw [hc]; obtain ⟨h1, h2, h3, h4, h5, h6, h7, h8, h9⟩ := h; simp [h1, h2, h3, h4, h5, h6, h7, h8, h9]
set_option maxHeartbeats 3200000 in
theorem escape_any (b i : Nat) (s : ByteArray) (w : World) (hr : Rd w b s i) (hs : s.size ≤ 1099511627776) (hi : i < s.size) :
    Calls Tryz.prog 69 #[.pointer (some ⟨b, 0, none⟩)] w (Does (escape s i) (fun v => .int .i32 v) b s w) := by
  obtain ⟨RES, hR⟩ : ∃ r, escape s i = r := ⟨_, rfl⟩
  rw [hR]
  have HR := Lib.hid hR
  have Hr := Lib.hid hr
  have c0 := hr.i
  have d0 := hr.free 1
  obtain ⟨c, hc⟩ : ∃ c, ch s (i + 1) = c := ⟨_, rfl⟩
  have hcr := ch_range s (i + 1)
  rw [hc] at hcr
  have Hc := Lib.hid hc
  clear hR hr hc
  by_cases h34 : c = 34
  · subst h34
    have HE : Hid (R.ok 34 (i + 2) = RES) := Lib.hid (by rw [← HR.out]; exact (escape_plain Hc.out (by simp)).symm)
    clear HR
    go_enter Tryz.func69, Tryz.ntmps69
    go_wp2_with (go_at_call 41; refine (next_any b (i + 1) s _ (Hr.out.set (i + 1)) hs (by omega)).mono ?_; rintro e w1 ⟨rfl, hg1⟩; rw [Hc.out]; have Hrd1 := Lib.hid ((Hr.out.set (i + 1)).grown hg1 (by simp)); have Hg1 := Lib.hid (grown_trans (grown_set (grown_refl w (some b)) (.inl rfl) 1 (.int .i64 ((i + 1 : Nat) : Int))) (grown_none hg1 _)); have c1 := Hrd1.out.i; have d1 := Hrd1.out.free 1; clear hg1)
    go_ret
    rw [← HE.out]
    exact ⟨grown_set Hg1.out (.inl rfl) _ _, rfl, Hrd1.out.set (i + 2)⟩
  by_cases h92 : c = 92
  · subst h92
    have HE : Hid (R.ok 92 (i + 2) = RES) := Lib.hid (by rw [← HR.out]; exact (escape_plain Hc.out (by simp)).symm)
    clear HR
    go_enter Tryz.func69, Tryz.ntmps69
    go_wp2_with (go_at_call 41; refine (next_any b (i + 1) s _ (Hr.out.set (i + 1)) hs (by omega)).mono ?_; rintro e w1 ⟨rfl, hg1⟩; rw [Hc.out]; have Hrd1 := Lib.hid ((Hr.out.set (i + 1)).grown hg1 (by simp)); have Hg1 := Lib.hid (grown_trans (grown_set (grown_refl w (some b)) (.inl rfl) 1 (.int .i64 ((i + 1 : Nat) : Int))) (grown_none hg1 _)); have c1 := Hrd1.out.i; have d1 := Hrd1.out.free 1; clear hg1)
    go_ret
    rw [← HE.out]
    exact ⟨grown_set Hg1.out (.inl rfl) _ _, rfl, Hrd1.out.set (i + 2)⟩
  by_cases h47 : c = 47
  · subst h47
    have HE : Hid (R.ok 47 (i + 2) = RES) := Lib.hid (by rw [← HR.out]; exact (escape_plain Hc.out (by simp)).symm)
    clear HR
    go_enter Tryz.func69, Tryz.ntmps69
    go_wp2_with (go_at_call 41; refine (next_any b (i + 1) s _ (Hr.out.set (i + 1)) hs (by omega)).mono ?_; rintro e w1 ⟨rfl, hg1⟩; rw [Hc.out]; have Hrd1 := Lib.hid ((Hr.out.set (i + 1)).grown hg1 (by simp)); have Hg1 := Lib.hid (grown_trans (grown_set (grown_refl w (some b)) (.inl rfl) 1 (.int .i64 ((i + 1 : Nat) : Int))) (grown_none hg1 _)); have c1 := Hrd1.out.i; have d1 := Hrd1.out.free 1; clear hg1)
    go_ret
    rw [← HE.out]
    exact ⟨grown_set Hg1.out (.inl rfl) _ _, rfl, Hrd1.out.set (i + 2)⟩
  by_cases h98 : c = 98
  · subst h98
    have HE : Hid (R.ok 8 (i + 2) = RES) := Lib.hid (by rw [← HR.out]; exact (escape_plain Hc.out (by simp)).symm)
    clear HR
    go_enter Tryz.func69, Tryz.ntmps69
    go_wp2_with (go_at_call 41; refine (next_any b (i + 1) s _ (Hr.out.set (i + 1)) hs (by omega)).mono ?_; rintro e w1 ⟨rfl, hg1⟩; rw [Hc.out]; have Hrd1 := Lib.hid ((Hr.out.set (i + 1)).grown hg1 (by simp)); have Hg1 := Lib.hid (grown_trans (grown_set (grown_refl w (some b)) (.inl rfl) 1 (.int .i64 ((i + 1 : Nat) : Int))) (grown_none hg1 _)); have c1 := Hrd1.out.i; have d1 := Hrd1.out.free 1; clear hg1)
    go_ret
    rw [← HE.out]
    exact ⟨grown_set Hg1.out (.inl rfl) _ _, rfl, Hrd1.out.set (i + 2)⟩
  by_cases h102 : c = 102
  · subst h102
    have HE : Hid (R.ok 12 (i + 2) = RES) := Lib.hid (by rw [← HR.out]; exact (escape_plain Hc.out (by simp)).symm)
    clear HR
    go_enter Tryz.func69, Tryz.ntmps69
    go_wp2_with (go_at_call 41; refine (next_any b (i + 1) s _ (Hr.out.set (i + 1)) hs (by omega)).mono ?_; rintro e w1 ⟨rfl, hg1⟩; rw [Hc.out]; have Hrd1 := Lib.hid ((Hr.out.set (i + 1)).grown hg1 (by simp)); have Hg1 := Lib.hid (grown_trans (grown_set (grown_refl w (some b)) (.inl rfl) 1 (.int .i64 ((i + 1 : Nat) : Int))) (grown_none hg1 _)); have c1 := Hrd1.out.i; have d1 := Hrd1.out.free 1; clear hg1)
    go_ret
    rw [← HE.out]
    exact ⟨grown_set Hg1.out (.inl rfl) _ _, rfl, Hrd1.out.set (i + 2)⟩
  by_cases h110 : c = 110
  · subst h110
    have HE : Hid (R.ok 10 (i + 2) = RES) := Lib.hid (by rw [← HR.out]; exact (escape_plain Hc.out (by simp)).symm)
    clear HR
    go_enter Tryz.func69, Tryz.ntmps69
    go_wp2_with (go_at_call 41; refine (next_any b (i + 1) s _ (Hr.out.set (i + 1)) hs (by omega)).mono ?_; rintro e w1 ⟨rfl, hg1⟩; rw [Hc.out]; have Hrd1 := Lib.hid ((Hr.out.set (i + 1)).grown hg1 (by simp)); have Hg1 := Lib.hid (grown_trans (grown_set (grown_refl w (some b)) (.inl rfl) 1 (.int .i64 ((i + 1 : Nat) : Int))) (grown_none hg1 _)); have c1 := Hrd1.out.i; have d1 := Hrd1.out.free 1; clear hg1)
    go_ret
    rw [← HE.out]
    exact ⟨grown_set Hg1.out (.inl rfl) _ _, rfl, Hrd1.out.set (i + 2)⟩
  by_cases h114 : c = 114
  · subst h114
    have HE : Hid (R.ok 13 (i + 2) = RES) := Lib.hid (by rw [← HR.out]; exact (escape_plain Hc.out (by simp)).symm)
    clear HR
    go_enter Tryz.func69, Tryz.ntmps69
    go_wp2_with (go_at_call 41; refine (next_any b (i + 1) s _ (Hr.out.set (i + 1)) hs (by omega)).mono ?_; rintro e w1 ⟨rfl, hg1⟩; rw [Hc.out]; have Hrd1 := Lib.hid ((Hr.out.set (i + 1)).grown hg1 (by simp)); have Hg1 := Lib.hid (grown_trans (grown_set (grown_refl w (some b)) (.inl rfl) 1 (.int .i64 ((i + 1 : Nat) : Int))) (grown_none hg1 _)); have c1 := Hrd1.out.i; have d1 := Hrd1.out.free 1; clear hg1)
    go_ret
    rw [← HE.out]
    exact ⟨grown_set Hg1.out (.inl rfl) _ _, rfl, Hrd1.out.set (i + 2)⟩
  by_cases h116 : c = 116
  · subst h116
    have HE : Hid (R.ok 9 (i + 2) = RES) := Lib.hid (by rw [← HR.out]; exact (escape_plain Hc.out (by simp)).symm)
    clear HR
    go_enter Tryz.func69, Tryz.ntmps69
    go_wp2_with (go_at_call 41; refine (next_any b (i + 1) s _ (Hr.out.set (i + 1)) hs (by omega)).mono ?_; rintro e w1 ⟨rfl, hg1⟩; rw [Hc.out]; have Hrd1 := Lib.hid ((Hr.out.set (i + 1)).grown hg1 (by simp)); have Hg1 := Lib.hid (grown_trans (grown_set (grown_refl w (some b)) (.inl rfl) 1 (.int .i64 ((i + 1 : Nat) : Int))) (grown_none hg1 _)); have c1 := Hrd1.out.i; have d1 := Hrd1.out.free 1; clear hg1)
    go_ret
    rw [← HE.out]
    exact ⟨grown_set Hg1.out (.inl rfl) _ _, rfl, Hrd1.out.set (i + 2)⟩
  by_cases h117 : c = 117
  · subst h117
    have HE : Hid (signOf s i = RES) := Lib.hid (by rw [← HR.out]; exact (escape_u Hc.out).symm)
    have hlt := ch_pos (s := s) (i := i + 1) (by rw [Hc.out]; decide)
    clear HR
    cases RES with
    | ok v j =>
      go_enter Tryz.func69, Tryz.ntmps69
      go_wp2_with (first
        | (have _ := w1; go_at_call 90; refine (sign_any b i s _ (Hrd1.out.set (i + 2)) hs (by omega)).mono ?_; intro e w2 hd; obtain ⟨rfl, hrd, hg⟩ := hd.ok HE.out; have Hg2 := Lib.hid hg; have Hrd2 := Lib.hid hrd; clear hg hrd hd)
        | (go_at_call 41; refine (next_any b (i + 1) s _ (Hr.out.set (i + 1)) hs (by omega)).mono ?_; rintro e w1 ⟨rfl, hg1⟩; rw [Hc.out]; have Hrd1 := Lib.hid ((Hr.out.set (i + 1)).grown hg1 (by simp)); have Hg1 := Lib.hid (grown_trans (grown_set (grown_refl w (some b)) (.inl rfl) 1 (.int .i64 ((i + 1 : Nat) : Int))) (grown_none hg1 _)); have c1 := Hrd1.out.i; have d1 := Hrd1.out.free 1; clear hg1))
      go_ret
      exact ⟨grown_trans (grown_set Hg1.out (.inl rfl) 1 (.int .i64 ((i + 2 : Nat) : Int))) Hg2.out, rfl, Hrd2.out⟩
    | no j er =>
      go_enter Tryz.func69, Tryz.ntmps69
      go_wp2_with (first
        | (have _ := w1; go_at_call 90; refine (sign_any b i s _ (Hrd1.out.set (i + 2)) hs (by omega)).mono ?_; intro e w2 hd; obtain ⟨rfl, hg⟩ := hd.no HE.out; have Hg2 := Lib.hid hg; clear hg hd)
        | (go_at_call 41; refine (next_any b (i + 1) s _ (Hr.out.set (i + 1)) hs (by omega)).mono ?_; rintro e w1 ⟨rfl, hg1⟩; rw [Hc.out]; have Hrd1 := Lib.hid ((Hr.out.set (i + 1)).grown hg1 (by simp)); have Hg1 := Lib.hid (grown_trans (grown_set (grown_refl w (some b)) (.inl rfl) 1 (.int .i64 ((i + 1 : Nat) : Int))) (grown_none hg1 _)); have c1 := Hrd1.out.i; have d1 := Hrd1.out.free 1; clear hg1))
      exact ⟨rfl, grown_trans (grown_set Hg1.out (.inl rfl) 1 (.int .i64 ((i + 2 : Nat) : Int))) Hg2.out, rfl⟩
  · have HE : Hid (R.no (i + 1) 130 = RES) := Lib.hid (by rw [← HR.out]; exact (escape_no Hc.out ⟨h34, h92, h47, h98, h102, h110, h114, h116, h117⟩).symm)
    clear HR
    go_enter Tryz.func69, Tryz.ntmps69
    go_wp2_with (first
      | (have _ := w1; go_at_call 29; refine (fail_any ((i + 1 : Nat) : Int) 130 _).mono ?_; rintro e w2 ⟨rfl, rfl⟩)
      | (go_at_call 41; refine (next_any b (i + 1) s _ (Hr.out.set (i + 1)) hs (by omega)).mono ?_; rintro e w1 ⟨rfl, hg1⟩; rw [Hc.out]; have Hrd1 := Lib.hid ((Hr.out.set (i + 1)).grown hg1 (by simp)); have Hg1 := Lib.hid (grown_trans (grown_set (grown_refl w (some b)) (.inl rfl) 1 (.int .i64 ((i + 1 : Nat) : Int))) (grown_none hg1 _)); have c1 := Hrd1.out.i; have d1 := Hrd1.out.free 1; clear hg1))
    exact ⟨rfl, by rw [← HE.out]; exact ⟨grown_set Hg1.out (.inl rfl) _ _, rfl⟩⟩
end
end Go.Proofs.YtlbilofnbhhmjaaGreatDoor
