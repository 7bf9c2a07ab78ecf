/- The reference's reader: four, Encoded. -/
import Derived.Test.YtlbilofnbhhmjaaDoorRSmall
namespace Go.Proofs.YtlbilofnbhhmjaaDoor
open Go.RowKit
set_option linter.unusedVariables false
set_option linter.unusedSimpArgs false
/-- What four does: the reader stays, or fails. -/
def RFour (r : R Int) (i b : Nat) (s : ByteArray) (w : World) (e : Ending) (w' : World) : Prop :=
  w.grownBy w' (some b) ∧ match r with
    | .ok v j => e = .returned (.int .i64 v) ∧ Sc w' b s i 0
    | .no j er => e = .returned (.int .i64 0) ∧ Sc w' b s j er ∧ er ≠ 0
theorem RFour.ok {r : R Int} {i b : Nat} {s : ByteArray} {w w' : World} {e : Ending} (h : RFour r i b s w e w') {v : Int} {j : Nat} (hr : r = .ok v j) :
    e = .returned (.int .i64 v) ∧ Sc w' b s i 0 ∧ w.grownBy w' (some b) := by subst hr; exact ⟨h.2.1, h.2.2, h.1⟩
theorem RFour.no {r : R Int} {i b : Nat} {s : ByteArray} {w w' : World} {e : Ending} (h : RFour r i b s w e w') {er : Int} {j : Nat} (hr : r = .no j er) :
    e = .returned (.int .i64 0) ∧ Sc w' b s j er ∧ er ≠ 0 ∧ w.grownBy w' (some b) := by subst hr; exact ⟨h.2.1, h.2.2.1, h.2.2.2, h.1⟩
set_option maxHeartbeats 3200000 in
set_option maxRecDepth 100000 in
theorem rfour_any (b i a : Nat) (s : ByteArray) (w : World) (hr : Sc w b s i 0) (hs : s.size ≤ 1099511627776) (ha : a ≤ s.size) :
    Calls Tryd.prog 115 #[.pointer (some ⟨b, 0, none⟩), .int .i64 (a : Int)] w (RFour (four s a) i b s w) := by
  obtain ⟨RES, hR⟩ : ∃ r, four s a = r := ⟨_, rfl⟩
  rw [hR]
  have HR := Lib.hid hR
  have Hr := Lib.hid hr
  have c0 := hr.s
  clear hR hr
  go_enter Tryd.func115, Tryd.ntmps115
  go_wp2_with fail
  go_loop [5, 6] (fun x v => ∃ (k : Nat) (n : Int), k ≤ 4 ∧ a + k ≤ s.size ∧ 0 ≤ n ∧ Hid (n < 16 ^ k) ∧ x = .int .i64 n ∧ v = .int .i64 k ∧ Hid (fourN s (4 - k) n (a + k) = RES)) (fun _ v => 4 - (intOf v).toNat)
  case atStart => exact ⟨0, 0, by omega, ha, by omega, Lib.hid (by decide), rfl, rfl, HR⟩
  case round =>
    obtain ⟨k, n, hk, hik, hn, Hn, rfl, rfl, Hw⟩ := hrel
    by_cases hlt : k < 4
    · obtain ⟨p, hp⟩ : ∃ p, a + k = p := ⟨_, rfl⟩
      have hwa : IntKind.i64.wrap ((a : Int) + (k : Int)) = (p : Int) := by rw [IntWalk.i64_in _ (by omega)]; omega
      obtain ⟨c, hc⟩ : ∃ c, ch s p = c := ⟨_, rfl⟩
      have hcr := ch_range s p
      rw [hc] at hcr
      have hn4 : n ≤ 4095 := by
        have := Hn.out
        have h16 : (16 : Int) ^ k ≤ 16 ^ 3 := by
          match k, hlt with
          | 0, _ | 1, _ | 2, _ | 3, _ => decide
        omega
      have HS : Hid (∀ d, hexv c = some d → fourN s (4 - (k + 1)) (16 * n + d) (a + (k + 1)) = RES) := Lib.hid (fun d hd => by
        rw [← Hw.out, show 4 - k = (4 - (k + 1)) + 1 by omega, fourN, hp, hc, hd, ← hp]; rfl)
      have HN : Hid (hexv c = none → R.no p 130 = RES) := Lib.hid (fun hd => by
        rw [← Hw.out, show 4 - k = (4 - (k + 1)) + 1 by omega, fourN, hp, hc, hd])
      have Hlt : Hid (∀ d, hexv c = some d → p < s.size ∧ Hid (16 * n + d < 16 ^ (k + 1))) := Lib.hid (fun d hd => by
        obtain ⟨hd0, hd1, hd2⟩ := hexv_range hd
        refine ⟨ch_pos (by rw [hc]; exact hd2), Lib.hid ?_⟩
        have := Hn.out
        rw [Int.pow_succ]; omega)
      obtain ⟨hc0, hc255⟩ := hcr
      have hm1 : IntKind.i64.wrap (16 * n) = 16 * n := IntWalk.i64_in _ (by omega)
      by_cases hl2 : p < s.size
      · have hcs : ((s[p]'hl2).toNat : Int) = c := by rw [← hc]; exact (ch_in hl2).symm
        have hl3 : (p : Int) < (s.size : Int) := by omega
        have HPk := Lib.hid hp
        clear hc hp
        by_cases h1 : 48 ≤ c ∧ c ≤ 57
        · have hd : digitB c = true := by simp [digitB]; omega
          have h1' := h1.1
          have h1'' := h1.2
          have Hh := Lib.hid (hexv_digit h1' h1'')
          have hm2 : IntKind.u8.wrap (c - 48) = c - 48 := IntWalk.u8_in _ (by omega)
          have hm3 : IntKind.i64.wrap (c - 48) = c - 48 := IntWalk.i64_in _ (by omega)
          have hm4 : IntKind.i64.wrap (16 * n + (c - 48)) = 16 * n + (c - 48) := IntWalk.i64_in _ (by omega)
          clear h1
          go_wp2_with (first
            | (go_at_call 74; refine (rdigit_any c w).mono ?_; rintro e w2 ⟨rfl, rfl⟩; rw [hd]))
          go_round
          case rel =>
            obtain ⟨h3, h4⟩ := Hlt.out _ Hh.out
            exact ⟨k + 1, 16 * n + (c - 48), by omega, by have := HPk.out; omega, by omega, h4, by first | rfl | rw [hm4], by go_num, Lib.hid (HS.out _ Hh.out)⟩
          case measure => simp [intOf]; omega
        · have hd : digitB c = false := by simp [digitB]; omega
          by_cases h2 : 97 ≤ c ∧ c ≤ 102
          · have h2' := h2.1
            have h2'' := h2.2
            have Hh := Lib.hid (hexv_small h2' h2'')
            have hm2 : IntKind.u8.wrap (c - 97) = c - 97 := IntWalk.u8_in _ (by omega)
            have hm3 : IntKind.i64.wrap (c - 97) = c - 97 := IntWalk.i64_in _ (by omega)
            have hm4 : IntKind.i64.wrap (16 * n + (c - 97)) = 16 * n + (c - 97) := IntWalk.i64_in _ (by omega)
            have hm5 : IntKind.i64.wrap (16 * n + (c - 97) + 10) = 16 * n + (c - 87) := by rw [IntWalk.i64_in _ (by omega)]; omega
            clear h1 h2
            go_wp2_with (first
              | (go_at_call 74; refine (rdigit_any c w).mono ?_; rintro e w2 ⟨rfl, rfl⟩; rw [hd]))
            go_round
            case rel =>
              obtain ⟨h3, h4⟩ := Hlt.out _ Hh.out
              exact ⟨k + 1, 16 * n + (c - 87), by omega, by have := HPk.out; omega, by omega, h4, by first | rfl | rw [hm5], by go_num, Lib.hid (HS.out _ Hh.out)⟩
            case measure => simp [intOf]; omega
          · by_cases h3 : 65 ≤ c ∧ c ≤ 70
            · have h3' := h3.1
              have h3'' := h3.2
              have h97 : ¬ 97 ≤ c := by omega
              have Hh := Lib.hid (hexv_great h3' h3'')
              have hm2 : IntKind.u8.wrap (c - 65) = c - 65 := IntWalk.u8_in _ (by omega)
              have hm3 : IntKind.i64.wrap (c - 65) = c - 65 := IntWalk.i64_in _ (by omega)
              have hm4 : IntKind.i64.wrap (16 * n + (c - 65)) = 16 * n + (c - 65) := IntWalk.i64_in _ (by omega)
              have hm5 : IntKind.i64.wrap (16 * n + (c - 65) + 10) = 16 * n + (c - 55) := by rw [IntWalk.i64_in _ (by omega)]; omega
              clear h1 h2 h3
              go_wp2_with (first
                | (go_at_call 74; refine (rdigit_any c w).mono ?_; rintro e w2 ⟨rfl, rfl⟩; rw [hd]))
              go_round
              case rel =>
                obtain ⟨h3, h4⟩ := Hlt.out _ Hh.out
                exact ⟨k + 1, 16 * n + (c - 55), by omega, by have := HPk.out; omega, by omega, h4, by first | rfl | rw [hm5], by go_num, Lib.hid (HS.out _ Hh.out)⟩
              case measure => simp [intOf]; omega
            · have HS2 := Lib.hid (HN.out (hexv_none (by omega) (by omega) (by omega)))
              by_cases h97 : 97 ≤ c
              · have h102 : ¬ c ≤ 102 := by omega
                have h65 : 65 ≤ c := by omega
                have h70 : ¬ c ≤ 70 := by omega
                clear h1 h2 h3
                go_wp2_with (first
                  | (go_at_call 74; refine (rdigit_any c w).mono ?_; rintro e w2 ⟨rfl, rfl⟩; rw [hd])
                  | (go_at_call 37; refine (rfail_any b i p 0 130 s w Hr.out).mono ?_; rintro e w2 ⟨rfl, hsc, hg2⟩; have Hsc := Lib.hid hsc; have HG2 := Lib.hid hg2; clear hsc hg2))
                go_ret
                rw [← HS2.out]
                exact ⟨HG2.out, rfl, Hsc.out, by decide⟩
              · by_cases h65 : 65 ≤ c
                · have h70 : ¬ c ≤ 70 := by omega
                  clear h1 h2 h3
                  go_wp2_with (first
                    | (go_at_call 74; refine (rdigit_any c w).mono ?_; rintro e w2 ⟨rfl, rfl⟩; rw [hd])
                    | (go_at_call 37; refine (rfail_any b i p 0 130 s w Hr.out).mono ?_; rintro e w2 ⟨rfl, hsc, hg2⟩; have Hsc := Lib.hid hsc; have HG2 := Lib.hid hg2; clear hsc hg2))
                  go_ret
                  rw [← HS2.out]
                  exact ⟨HG2.out, rfl, Hsc.out, by decide⟩
                · clear h1 h2 h3
                  go_wp2_with (first
                    | (go_at_call 74; refine (rdigit_any c w).mono ?_; rintro e w2 ⟨rfl, rfl⟩; rw [hd])
                    | (go_at_call 37; refine (rfail_any b i p 0 130 s w Hr.out).mono ?_; rintro e w2 ⟨rfl, hsc, hg2⟩; have Hsc := Lib.hid hsc; have HG2 := Lib.hid hg2; clear hsc hg2))
                  go_ret
                  rw [← HS2.out]
                  exact ⟨HG2.out, rfl, Hsc.out, by decide⟩
      · have hl3 : ¬ (p : Int) < (s.size : Int) := by omega
        have h0 : c = 0 := by rw [← hc]; exact ch_out (by omega)
        have HS2 := Lib.hid (HN.out (by rw [h0]; decide))
        subst h0
        have hd : digitB 0 = false := by decide
        clear hc hp hl2
        go_wp2_with (first
          | (go_at_call 74; refine (rdigit_any 0 w).mono ?_; rintro e w2 ⟨rfl, rfl⟩; rw [hd])
          | (go_at_call 37; refine (rfail_any b i p 0 130 s w Hr.out).mono ?_; rintro e w2 ⟨rfl, hsc, hg2⟩; have Hsc := Lib.hid hsc; have HG2 := Lib.hid hg2; clear hsc hg2))
        go_ret
        rw [← HS2.out]
        exact ⟨HG2.out, rfl, Hsc.out, by decide⟩
    · have hk4 : k = 4 := by omega
      subst hk4
      have HS2 : Hid (R.ok n (a + 4) = RES) := Lib.hid (by rw [← Hw.out]; rfl)
      go_wp2_with fail
      go_ret
      rw [← HS2.out]
      exact ⟨grown_refl _ _, rfl, Hr.out⟩
end Go.Proofs.YtlbilofnbhhmjaaDoor
