/- The reference's reader: fail, next, blanks, begins, digits, number, word. The reference's reader: four, Encoded. The reference's reader: Encoded. The reference's reader: sign. The reference's reader: escape. -/
import Derived.Test.YtlbilofnbhhmjaaGreatDoorParse
namespace Go.Proofs.YtlbilofnbhhmjaaGreatDoor
section
open Go.RowKit
set_option linter.unusedVariables false
set_option linter.unusedSimpArgs false
set_option maxHeartbeats 400000 in
theorem rdigit_any (c : Int) (w : World) : Calls Tryz.prog 25 #[.int .u8 c] w fun en w' => en = .returned (.bool (digitB c)) ∧ w = w' := by
  go_enter Tryz.func25, Tryz.ntmps25
  go_wp2
  all_goals go_ret
  · exact ⟨ret_bool (by simp [digitB]; omega), rfl⟩
  · exact ⟨ret_bool (by simp [digitB]; omega), rfl⟩
set_option maxHeartbeats 1600000 in
theorem rdigits_any (i : Nat) (s : ByteArray) (w : World) (hs : s.size ≤ 1099511627776) (hi : i ≤ s.size) :
    Calls Tryz.prog 66 #[.string s, .int .i64 i] w fun e w' => e = .returned (.int .i64 (digits s i : Nat)) ∧ w = w' := by
  go_enter Tryz.func66, Tryz.ntmps66
  go_wp2_with fail
  go_loop [1] (fun v => ∃ k : Nat, i ≤ k ∧ k ≤ s.size ∧ v = .int .i64 k ∧ Hid (digits s i = digits s k)) (fun v => s.size - (intOf v).toNat)
  case atStart => exact ⟨i, Nat.le_refl _, hi, rfl, Lib.hid rfl⟩
  case round =>
    obtain ⟨k, hik, hk, rfl, Hd⟩ := hrel
    by_cases hlt : k < s.size
    · have hc := (ch_in hlt).symm
      by_cases hb : digitB (ch s k) = true
      · have Hg := Lib.hid (digits_go hb)
        go_wp2_with (go_at_call 25; refine (rdigit_any (ch s k) w).mono ?_; rintro e w' ⟨rfl, rfl⟩)
        go_round
        case rel => exact ⟨k + 1, by omega, by omega, by go_num, Lib.hid (by rw [Hd.out, Hg.out])⟩
        case measure => simp [intOf]; omega
      · have hb' : digitB (ch s k) = false := by simpa using hb
        have Hg := Lib.hid (digits_stop hb')
        clear hb
        go_wp2_with (go_at_call 25; refine (rdigit_any (ch s k) w).mono ?_; rintro e w' ⟨rfl, rfl⟩)
        go_ret
        exact ⟨ret_num (by rw [Hd.out, Hg.out]), rfl⟩
    · have hb' : digitB (ch s k) = false := by rw [ch_out (by omega)]; rfl
      have Hg := Lib.hid (digits_stop hb')
      clear hb'
      go_wp2_with fail
      go_ret
      exact ⟨ret_num (by rw [Hd.out, Hg.out]), rfl⟩
/-- How the reference tells where a number ends. -/
def numP : R Unit → Int × Bool
  | .ok _ j => (j, true)
  | .no j _ => (j, false)
theorem ret_pair {a c : Int} {p q : Bool} (h : a = c ∧ p = q) : Ending.returned (.tuple #[.int .i64 a, .bool p]) = .returned (.tuple #[.int .i64 c, .bool q]) := by rw [h.1, h.2]
theorem digits_ok {s : ByteArray} {k : Nat} (h : digitB (ch s k) = true) : run1 s k = .ok () (digits s k) := by
  have h1 := digits_go h
  have := digits_ge s (k + 1)
  unfold run1; rw [if_neg (by omega)]
theorem digits_no {s : ByteArray} {k : Nat} (h : digitB (ch s k) = false) : run1 s k = .no k 130 := by
  unfold run1; rw [if_pos (digits_stop h)]
set_option maxHeartbeats 6400000 in
set_option maxRecDepth 100000 in
theorem rnumber_any (i : Nat) (s : ByteArray) (w : World) (hs : s.size ≤ 1099511627776) (hi : i ≤ s.size) :
    Calls Tryz.prog 40 #[.string s, .int .i64 i] w fun e w' => e = .returned (.tuple #[.int .i64 (numP (num s i)).1, .bool (numP (num s i)).2]) ∧ w = w' := by
  obtain ⟨V, hV⟩ : ∃ V, numP (num s i) = V := ⟨_, rfl⟩
  rw [hV]
  have HV := Lib.hid hV
  clear hV
  go_enter Tryz.func40, Tryz.ntmps40
  go_upto_region 1 with fail
  go_cut [1, 18] (fun a v wx => a = .int .i64 i ∧ v = .bool (ch s i == 45) ∧ w = wx)
  case first =>
    by_cases hlt : i < s.size
    · have hc := (ch_in hlt).symm
      go_wp2_with fail
      go_meet
      case rel => exact ⟨rfl, rfl, rfl⟩
    · have hc : (ch s i == 45) = false := by rw [ch_out (by omega)]; rfl
      go_wp2_with fail
      go_meet
      case rel => exact ⟨rfl, by rw [hc], rfl⟩
  case rest =>
    obtain ⟨rfl, rfl, rfl⟩ := hcut
    go_upto_if 18 with fail
    go_cut [1] (fun v wx => ∃ k : Nat, k ≤ s.size ∧ v = .int .i64 k ∧ Hid (numP (numInt s k) = V) ∧ w = wx)
    case first =>
      by_cases h : ch s i = 45
      · have hlt := ch_pos (s := s) (i := i) (by omega)
        have H1 : Hid (numP (numInt s (i + 1)) = V) := Lib.hid (by rw [← HV.out]; unfold num; rw [if_pos h])
        go_wp2_with fail
        go_meet
        case rel => exact ⟨i + 1, by omega, by go_num, H1, rfl⟩
      · have H1 : Hid (numP (numInt s i) = V) := Lib.hid (by rw [← HV.out]; unfold num; rw [if_neg h])
        go_wp2_with fail
        go_meet
        case rel => exact ⟨i, by omega, rfl, H1, rfl⟩
    case rest =>
      obtain ⟨k, hk, rfl, H1, rfl⟩ := hcut
      clear HV
      cases hd : digitB (ch s k) with
      | false =>
        have h48 : ¬ ch s k = 48 := fun e => by rw [e] at hd; cases hd
        have H2 : Hid (V = ((k : Int), false)) := Lib.hid (by rw [← H1.out]; unfold numInt; rw [if_neg h48, digits_no hd]; rfl)
        by_cases hlt : k < s.size
        · have hc := (ch_in hlt).symm
          have hne : ((k : Int) == (s.size : Int)) = false := by simp; omega
          go_wp2_with (go_at_call 25; refine (rdigit_any (ch s k) w).mono ?_; rintro e w' ⟨rfl, rfl⟩)
          go_ret2
          exact ⟨ret_pair (by rw [H2.out]; exact ⟨rfl, rfl⟩), rfl⟩
        · have hne : ((k : Int) == (s.size : Int)) = true := by simp; omega
          go_wp2_with (go_at_call 25; refine (rdigit_any (ch s k) w).mono ?_; rintro e w' ⟨rfl, rfl⟩)
          go_ret2
          exact ⟨ret_pair (by rw [H2.out]; exact ⟨rfl, rfl⟩), rfl⟩
      | true =>
        have hlt : k < s.size := ch_pos (s := s) (i := k) (fun e => by rw [e] at hd; cases hd)
        have hc := (ch_in hlt).symm
        have hne : ((k : Int) == (s.size : Int)) = false := by simp; omega
        go_upto_if 36 with (go_at_call 25; refine (rdigit_any (ch s k) w).mono ?_; rintro e w' ⟨rfl, rfl⟩)
        go_cut [1] (fun v wx => ∃ j : Nat, j ≤ s.size ∧ v = .int .i64 j ∧ Hid (numP (numFrac s j) = V) ∧ w = wx)
        case first =>
          by_cases h : ch s k = 48
          · have h' : (ch s k == 48) = true := by simpa using h
            have H2 : Hid (numP (numFrac s (k + 1)) = V) := Lib.hid (by rw [← H1.out]; unfold numInt; rw [if_pos h])
            clear h
            go_wp2_with fail
            go_meet
            case rel => exact ⟨k + 1, by omega, by go_num, H2, rfl⟩
          · have h' : (ch s k == 48) = false := by simpa using h
            have H2 : Hid (numP (numFrac s (digits s k)) = V) := Lib.hid (by rw [← H1.out]; unfold numInt; rw [if_neg h, digits_ok hd])
            have hj := digits_le (s := s) hk
            obtain ⟨j, hjj⟩ : ∃ j, digits s k = j := ⟨_, rfl⟩
            rw [hjj] at H2 hj
            have HJ := Lib.hid hjj
            clear h hjj
            go_wp2_with (go_at_call 66; refine (rdigits_any k s w hs hk).mono ?_; rintro e w' ⟨rfl, rfl⟩; rw [HJ.out])
            go_meet
            case rel => exact ⟨j, hj, rfl, H2, rfl⟩
        case rest =>
          obtain ⟨j, hj, rfl, H2, rfl⟩ := hcut
          clear H1 hd hne hc hlt hk
          go_upto_region 8 with fail
          go_cut [1, 51] (fun a v wx => a = .int .i64 j ∧ v = .bool (ch s j == 46) ∧ w = wx)
          case first =>
            by_cases hlt : j < s.size
            · have hc := (ch_in hlt).symm
              go_wp2_with fail
              go_meet
              case rel => exact ⟨rfl, rfl, rfl⟩
            · have hc : (ch s j == 46) = false := by rw [ch_out (by omega)]; rfl
              go_wp2_with fail
              go_meet
              case rel => exact ⟨rfl, by rw [hc], rfl⟩
          case rest =>
            obtain ⟨rfl, rfl, rfl⟩ := hcut
            go_upto_if 51 with fail
            go_cut [1] (fun v wx => ∃ m : Nat, m ≤ s.size ∧ v = .int .i64 m ∧ Hid (numP (numExp s m) = V) ∧ w = wx)
            case first =>
              by_cases h : ch s j = 46
              · have hlt := ch_pos (s := s) (i := j) (by omega)
                obtain ⟨m, hmm⟩ : ∃ m, digits s (j + 1) = m := ⟨_, rfl⟩
                have hm := digits_le (s := s) (i := j + 1) (by omega)
                rw [hmm] at hm
                by_cases hz : m = j + 1
                · have H3 : Hid (V = (((j + 1 : Nat) : Int), false)) := Lib.hid (by rw [← H2.out]; unfold numFrac; rw [if_pos h]; unfold run1; rw [if_pos (by rw [hmm, hz])]; rfl)
                  have HJ := Lib.hid hmm
                  subst hz
                  clear hmm
                  go_wp2_with (go_at_call 66; refine (rdigits_any (j + 1) s w hs (by omega)).mono ?_; rintro e w' ⟨rfl, rfl⟩; rw [HJ.out])
                  go_ret2
                  exact ⟨ret_pair (by rw [H3.out]; exact ⟨rfl, rfl⟩), rfl⟩
                · have H3 : Hid (numP (numExp s m) = V) := Lib.hid (by rw [← H2.out]; unfold numFrac; rw [if_pos h]; unfold run1; rw [if_neg (by rw [hmm]; exact hz), hmm])
                  have hz2 : ((m : Int) == (j : Int) + 1) = false := by simp; omega
                  have HJ := Lib.hid hmm
                  clear hmm hz
                  go_wp2_with (go_at_call 66; refine (rdigits_any (j + 1) s w hs (by omega)).mono ?_; rintro e w' ⟨rfl, rfl⟩; rw [HJ.out])
                  go_meet
                  case rel => exact ⟨m, hm, rfl, H3, rfl⟩
              · have H3 : Hid (numP (numExp s j) = V) := Lib.hid (by rw [← H2.out]; unfold numFrac; rw [if_neg h])
                have h' : (ch s j == 46) = false := by simpa using h
                go_wp2_with fail
                go_meet
                case rel => exact ⟨j, hj, rfl, H3, rfl⟩
            case rest =>
              obtain ⟨m, hm, rfl, H3, rfl⟩ := hcut
              clear H2 hj
              go_upto_region 13 with fail
              go_cut [1, 77] (fun a v wx => a = .int .i64 m ∧ v = .bool (ch s m == 101 || ch s m == 69) ∧ w = wx)
              case first =>
                by_cases hlt : m < s.size
                · have hc := (ch_in hlt).symm
                  by_cases h : ch s m = 101
                  · rw [h] at hc
                    have hh : (ch s m == 101 || ch s m == 69) = true := by rw [h]; rfl
                    clear h
                    go_wp2_with fail
                    go_meet
                    case rel => exact ⟨rfl, by rw [hh], rfl⟩
                  · have h' : (ch s m == 101) = false := by simpa using h
                    clear h
                    go_wp2_with fail
                    go_meet
                    case rel => exact ⟨rfl, by rw [h']; rfl, rfl⟩
                · have hc : (ch s m == 101 || ch s m == 69) = false := by rw [ch_out (by omega)]; rfl
                  go_wp2_with fail
                  go_meet
                  case rel => exact ⟨rfl, by rw [hc], rfl⟩
              case rest =>
                obtain ⟨rfl, hv, rfl⟩ := hcut
                by_cases h : ch s m = 101 ∨ ch s m = 69
                · have hlt := ch_pos (s := s) (i := m) (by omega)
                  have hb : (ch s m == 101 || ch s m == 69) = true := by simpa using h
                  have H4 : Hid (numP (run1 s (if ch s (m + 1) = 43 ∨ ch s (m + 1) = 45 then m + 2 else m + 1)) = V) := Lib.hid (by rw [← H3.out]; unfold numExp; rw [if_pos h])
                  rw [hb] at hv
                  subst hv
                  clear h hb
                  go_upto_region 15 with fail
                  go_cut [7, 95] (fun a v wx => a = .int .i64 ((m + 1 : Nat) : Int) ∧ v = .bool (ch s (m + 1) == 43 || ch s (m + 1) == 45) ∧ w = wx)
                  case first =>
                    by_cases hlt2 : m + 1 < s.size
                    · have hc := (ch_in hlt2).symm
                      by_cases h : ch s (m + 1) = 43
                      · rw [h] at hc
                        have hh : (ch s (m + 1) == 43 || ch s (m + 1) == 45) = true := by rw [h]; rfl
                        clear h
                        go_wp2_with fail
                        go_meet
                        case rel => exact ⟨by go_num, by rw [hh], rfl⟩
                      · have h' : (ch s (m + 1) == 43) = false := by simpa using h
                        clear h
                        go_wp2_with fail
                        go_meet
                        case rel => exact ⟨by go_num, by rw [h']; rfl, rfl⟩
                    · have hc : (ch s (m + 1) == 43 || ch s (m + 1) == 45) = false := by rw [ch_out (by omega)]; rfl
                      go_wp2_with fail
                      go_meet
                      case rel => exact ⟨by go_num, by rw [hc], rfl⟩
                  case rest =>
                    obtain ⟨rfl, hv, rfl⟩ := hcut
                    by_cases h2 : ch s (m + 1) = 43 ∨ ch s (m + 1) = 45
                    · have hlt2 := ch_pos (s := s) (i := m + 1) (by omega)
                      have hb2 : (ch s (m + 1) == 43 || ch s (m + 1) == 45) = true := by simpa using h2
                      have H5 : Hid (numP (run1 s (m + 2)) = V) := Lib.hid (by rw [← H4.out, if_pos h2])
                      rw [hb2] at hv
                      subst hv
                      clear h2 hb2
                      by_cases hz : digits s (m + 2) = m + 2
                      · have H9 : Hid (V = (((m + 2 : Nat) : Int), false)) := Lib.hid (by rw [← H5.out]; unfold run1; rw [if_pos hz]; rfl)
                        have HZ := Lib.hid hz
                        clear hz
                        go_wp2_with (go_at_call 66; refine (rdigits_any (m + 2) s w hs (by omega)).mono ?_; rintro e w' ⟨rfl, rfl⟩; rw [HZ.out])
                        go_ret2
                        exact ⟨ret_pair (by rw [H9.out]; exact ⟨rfl, rfl⟩), rfl⟩
                      · obtain ⟨z, hzz⟩ : ∃ z, digits s (m + 2) = z := ⟨_, rfl⟩
                        have H9 : Hid (V = ((z : Int), true)) := Lib.hid (by rw [← H5.out]; unfold run1; rw [if_neg hz, hzz]; rfl)
                        rw [hzz] at hz
                        have HZ := Lib.hid hzz
                        have hz2 : ((z : Int) == ((m + 2 : Nat) : Int)) = false := by simp; omega
                        have hz3 : ((z : Int) == (m : Int) + 2) = false := by simp; omega
                        clear hz hzz
                        go_wp2_with (go_at_call 66; refine (rdigits_any (m + 2) s w hs (by omega)).mono ?_; rintro e w' ⟨rfl, rfl⟩; rw [HZ.out])
                        go_ret2
                        exact ⟨ret_pair (by rw [H9.out]; exact ⟨rfl, rfl⟩), rfl⟩
                    · have hb2 : (ch s (m + 1) == 43 || ch s (m + 1) == 45) = false := by simpa using h2
                      have H5 : Hid (numP (run1 s (m + 1)) = V) := Lib.hid (by rw [← H4.out, if_neg h2])
                      rw [hb2] at hv
                      subst hv
                      clear h2 hb2
                      by_cases hz : digits s (m + 1) = m + 1
                      · have H9 : Hid (V = (((m + 1 : Nat) : Int), false)) := Lib.hid (by rw [← H5.out]; unfold run1; rw [if_pos hz]; rfl)
                        have HZ := Lib.hid hz
                        clear hz
                        go_wp2_with (go_at_call 66; refine (rdigits_any (m + 1) s w hs (by omega)).mono ?_; rintro e w' ⟨rfl, rfl⟩; rw [HZ.out])
                        go_ret2
                        exact ⟨ret_pair (by rw [H9.out]; exact ⟨rfl, rfl⟩), rfl⟩
                      · obtain ⟨z, hzz⟩ : ∃ z, digits s (m + 1) = z := ⟨_, rfl⟩
                        have H9 : Hid (V = ((z : Int), true)) := Lib.hid (by rw [← H5.out]; unfold run1; rw [if_neg hz, hzz]; rfl)
                        rw [hzz] at hz
                        have HZ := Lib.hid hzz
                        have hz2 : ((z : Int) == ((m + 1 : Nat) : Int)) = false := by simp; omega
                        have hz3 : ((z : Int) == (m : Int) + 1) = false := by simp; omega
                        clear hz hzz
                        go_wp2_with (go_at_call 66; refine (rdigits_any (m + 1) s w hs (by omega)).mono ?_; rintro e w' ⟨rfl, rfl⟩; rw [HZ.out])
                        go_ret2
                        exact ⟨ret_pair (by rw [H9.out]; exact ⟨rfl, rfl⟩), rfl⟩
                · have hb : (ch s m == 101 || ch s m == 69) = false := by simpa using h
                  have H4 : Hid (V = ((m : Int), true)) := Lib.hid (by rw [← H3.out]; unfold numExp; rw [if_neg h]; rfl)
                  rw [hb] at hv
                  subst hv
                  clear h hb
                  go_wp2_with fail
                  go_ret2
                  exact ⟨ret_pair (by rw [H4.out]; exact ⟨rfl, rfl⟩), rfl⟩
end
section
open Go.RowKit
set_option linter.unusedVariables false
set_option linter.unusedSimpArgs false
end
section
open Go.RowKit
set_option linter.unusedVariables false
set_option linter.unusedSimpArgs false
/-- New bytes in a block of their own. -/
def NewBytes (l : List Int) (w : World) (e : Ending) (w' : World) : Prop :=
  e = .returned (.slice (some ⟨w.heap.size, 0, none⟩) l.length l.length) ∧ Row w' w.heap.size 5 (l.map (Value.int .u8)) ∧ w.grownBy w' none
end
section
open Go.RowKit
set_option linter.unusedVariables false
set_option linter.unusedSimpArgs false
theorem ret_sl {g h n : Nat} (e : g = h) : Ending.returned (.slice (some ⟨g, 0, none⟩) n n) = .returned (.slice (some ⟨h, 0, none⟩) n n) := by rw [e]
theorem ret_nil {a : Value} (e : a = .slice none 0 0) : Ending.returned a = .returned (.slice none 0 0) := by rw [e]
end
section
open Go.RowKit
set_option linter.unusedVariables false
set_option linter.unusedSimpArgs false
end
end Go.Proofs.YtlbilofnbhhmjaaGreatDoor
