/- The small functions of json's reader: fail, digit, begins, next, skip. json's run and numberEnd: where a number ends. -/
import Derived.Test.YtlbilofnbhhmjaaGreatDoorProg
import Derived.Test.YtlbilofnbhhmjaaGreatDoorBase
import Derived.Test.YtlbilofnbhhmjaaGreatDoorSpec
import Derived.WalkKit
import Derived.Lib.Hide
import Derived.WalkLawsBesides
import Derived.BigQuiet
import Derived.Deep.QuietTactic
import Derived.LoopTactic
import Derived.Deep.LoopGhost
import Derived.Deep.DeepCutAuto
namespace Go.Proofs.YtlbilofnbhhmjaaGreatDoor
section
open Go.RowKit
set_option linter.unusedVariables false
set_option linter.unusedSimpArgs false
/-- What fail panics with. -/
def oops (at_ e : Int) : List PanicEntry := [{ v := .iface 56 (.agg #[.int .i64 at_, .int .i64 e]), recovered := false }]
/-- Block b is a reader of s that stands at a place. -/
def Rd (w : World) (b : Nat) (s : ByteArray) (i : Nat) : Prop := Row w b 59 [.string s, .int .i64 (i : Int)]
theorem Rd.s {w : World} {b i : Nat} {s : ByteArray} (h : Rd w b s i) : w.cell? ⟨b, 0, none⟩ = some (.string s) := Row.at_ h rfl
theorem Rd.i {w : World} {b i : Nat} {s : ByteArray} (h : Rd w b s i) : w.cell? ⟨b, 1, none⟩ = some (.int .i64 (i : Int)) := Row.at_ h rfl
theorem Rd.free {w : World} {b i : Nat} {s : ByteArray} (h : Rd w b s i) (j : Nat) : w.frozen? ⟨b, j, none⟩ = false := Row.frozen h j
theorem Rd.grown {w w' : World} {b i : Nat} {s : ByteArray} {row : Option Nat} (h : Rd w b s i) (hg : w.grownBy w' row) (hne : some b ≠ row) : Rd w' b s i := Row.grown h hg hne
theorem Rd.set {w : World} {b i : Nat} {s : ByteArray} (h : Rd w b s i) (j : Nat) : Rd (w.setCell ⟨b, 1, none⟩ (.int .i64 (j : Int))) b s j := Row.set h 1 _
theorem Rd.drewN {w : World} {b i : Nat} {s : ByteArray} (h : Rd w b s i) (n : Nat) : Rd (w.drewN n) b s i := h
theorem Rd.lt {w : World} {b i : Nat} {s : ByteArray} (h : Rd w b s i) : b < w.heap.size := Row.lt h
set_option maxHeartbeats 400000 in
theorem fail_any (at_ e : Int) (w : World) : Calls Tryz.prog 29 #[.int .i64 at_, .int .i64 e] w fun en w' => en = .panicked (oops at_ e) ∧ w = w' := by
  go_enter Tryz.func29, Tryz.ntmps29
  go_wp2
  exact ⟨rfl, rfl, rfl⟩
theorem ret_bool {a b : Bool} (h : a = b) : Ending.returned (.bool a) = .returned (.bool b) := by rw [h]
theorem ret_num {k : IntKind} {a b : Int} (h : a = b) : Ending.returned (.int k a) = .returned (.int k b) := by rw [h]
set_option maxHeartbeats 400000 in
theorem digit_any (c : Int) (w : World) : Calls Tryz.prog 56 #[.int .u8 c] w fun en w' => en = .returned (.bool (digitB c)) ∧ w = w' := by
  go_enter Tryz.func56, Tryz.ntmps56
  go_wp2
  all_goals go_ret
  · exact ⟨ret_bool (by simp [digitB]; omega), rfl⟩
  · exact ⟨ret_bool (by simp [digitB]; omega), rfl⟩
set_option maxHeartbeats 800000 in
theorem begins_any (c : Int) (w : World) : Calls Tryz.prog 42 #[.int .u8 c] w fun en w' => en = .returned (.bool (beginsB c)) ∧ w = w' := by
  go_enter Tryz.func42, Tryz.ntmps42
  go_wp2_with (go_at_call 56; refine (digit_any c w).mono ?_; rintro e w' ⟨rfl, rfl⟩)
  all_goals go_ret
  all_goals exact ⟨ret_bool (by simp_all [beginsB]), rfl⟩
set_option maxHeartbeats 800000 in
theorem next_q (b i : Nat) (s : ByteArray) (w : World) (hr : Rd w b s i) (hs : s.size ≤ 1099511627776) (hi : i ≤ 2199023255552) :
    Calls Tryz.prog 41 #[.pointer (some ⟨b, 0, none⟩)] w fun e w' => e = .returned (.int .u8 (ch s i)) ∧ ∃ m, w' = w.drewN m := by
  have c0 := hr.s
  have c1 := hr.i
  by_cases hlt : i < s.size
  · have Hc := Lib.hid (ch_in hlt)
    go_enter Tryz.func41, Tryz.ntmps41
    go_wp2
    go_quiet (fail)
    go_wp2
    go_quiet (fail)
    go_wp2
    go_ret
    exact ⟨ret_num Hc.out.symm, _, World.drewN_drewN _ _ _⟩
  · have Hc := Lib.hid (ch_out (s := s) (i := i) (by omega))
    go_enter Tryz.func41, Tryz.ntmps41
    go_wp2
    go_quiet (fail)
    go_wp2
    go_ret
    exact ⟨ret_num Hc.out.symm, _, rfl⟩
theorem next_any (b i : Nat) (s : ByteArray) (w : World) (hr : Rd w b s i) (hs : s.size ≤ 1099511627776) (hi : i ≤ 2199023255552) :
    Calls Tryz.prog 41 #[.pointer (some ⟨b, 0, none⟩)] w fun e w' => e = .returned (.int .u8 (ch s i)) ∧ w.grownBy w' none :=
  (next_q b i s w hr hs hi).mono fun e w' ⟨h1, m, h2⟩ => ⟨h1, by rw [h2]; exact grown_drewN (grown_refl _ _) m⟩
theorem blank_cases {c : Int} (h : blankB c = false) : (c == 32) = false ∧ (c == 9) = false ∧ (c == 10) = false ∧ (c == 13) = false := by
  simp [blankB] at h
  simp; omega
theorem blank_true {c : Int} (h : blankB c = true) : c = 32 ∨ c = 9 ∨ c = 10 ∨ c = 13 := by
  simp [blankB] at h
  omega
set_option maxHeartbeats 1600000 in
theorem skip_any (b i : Nat) (s : ByteArray) (w : World) (hr : Rd w b s i) (hs : s.size ≤ 1099511627776) (hi : i ≤ s.size) :
    Calls Tryz.prog 27 #[.pointer (some ⟨b, 0, none⟩)] w fun e w' => e = .returned (.int .u8 (ch s (skip s i))) ∧ Rd w' b s (skip s i) ∧ w.grownBy w' (some b) := by
  have Hr := Lib.hid hr
  clear hr
  go_enter Tryz.func27, Tryz.ntmps27
  go_wp2_with fail
  go_loopg [] (s.size - i) (fun d wr => ∃ k, k ≤ s.size ∧ d = s.size - k ∧ Hid (skip s i = skip s k) ∧ Hid (Rd wr b s k) ∧ Hid (w.grownBy wr (some b)))
  case atStart => exact ⟨i, hi, rfl, Lib.hid rfl, Hr, Lib.hid (grown_refl _ _)⟩
  case round =>
    obtain ⟨k, hk, rfl, Hsk, HR, HG⟩ := hrel
    by_cases hb : blankB (ch s k) = true
    · have hlt := ch_pos (s := s) (i := k) (fun e => by rw [e] at hb; cases hb)
      have Hst := Lib.hid (skip_blank hb)
      obtain ⟨c, hc⟩ : ∃ c, ch s k = c := ⟨_, rfl⟩
      rw [hc] at hb
      have Hc := Lib.hid hc
      clear hc
      have c1 := (HR.out.i)
      rcases blank_true hb with rfl | rfl | rfl | rfl
      all_goals
        clear hb
        go_wp2_with (go_at_call 41; refine (next_any b k s wr HR.out hs (by omega)).mono ?_; rintro e w1 ⟨rfl, hg1⟩; rw [Hc.out]; have HR1 := Lib.hid (HR.out.grown hg1 (by simp)); have Hg1 := Lib.hid hg1; have c2 := HR1.out.i; have d2 := HR1.out.free 1; clear hg1 c1)
        go_roundg (s.size - (k + 1))
        case measure => omega
        case rel => exact ⟨k + 1, by omega, rfl, Lib.hid (by rw [Hsk.out, Hst.out]), Lib.hid (HR1.out.set (k + 1)), Lib.hid (grown_set (grown_trans HG.out (grown_none Hg1.out _)) (.inl rfl) _ _)⟩
    · have hb' : blankB (ch s k) = false := by simpa using hb
      obtain ⟨h1, h2, h3, h4⟩ := blank_cases hb'
      have Hst := Lib.hid (skip_stop hb')
      clear hb hb'
      go_wp2_with (first
        | (have _ := w1; go_at_call 41; refine (next_any b k s w1 (HR.out.grown Hg1.out (by simp)) hs (by omega)).mono ?_; rintro e w2 ⟨rfl, hg2⟩; have Hg2 := Lib.hid hg2; clear hg2)
        | (go_at_call 41; refine (next_any b k s wr HR.out hs (by omega)).mono ?_; rintro e w1 ⟨rfl, hg1⟩; have Hg1 := Lib.hid hg1; clear hg1))
      go_ret
      exact ⟨ret_num (by rw [Hsk.out, Hst.out]), by rw [Hsk.out, Hst.out]; exact (HR.out.grown Hg1.out (by simp)).grown Hg2.out (by simp), grown_trans (grown_trans HG.out (grown_none Hg1.out _)) (grown_none Hg2.out _)⟩
end
section
open Go.RowKit
set_option linter.unusedVariables false
set_option linter.unusedSimpArgs false
/-- How the program tells where a number ends: the place, or -1 - the place at which it does not go on. -/
def numV : R Unit → Int
  | .ok _ j => j
  | .no j _ => -1 - j
theorem run1_no {s : ByteArray} {i j : Nat} {e : Int} (h : run1 s i = .no j e) : e = 130 ∧ j = i := by
  unfold run1 at h
  split at h
  · cases h; exact ⟨rfl, rfl⟩
  · cases h
theorem run1_ok {s : ByteArray} {i j : Nat} {u : Unit} (h : run1 s i = .ok u j) : i < j ∧ (i ≤ s.size → j ≤ s.size) := by
  unfold run1 at h
  split at h
  · cases h
  · cases h; rename_i hne; exact ⟨by have := digits_ge s i; omega, digits_le⟩
set_option maxHeartbeats 1600000 in
theorem run_any (i : Nat) (s : ByteArray) (w : World) (hs : s.size ≤ 140737488355328) (hi : i ≤ s.size) :
    Calls Tryz.prog 34 #[.string s, .int .i64 i] w fun e w' => e = .returned (.int .i64 (numV (run1 s i))) ∧ w = w' := by
  go_enter Tryz.func34, Tryz.ntmps34
  go_wp2_with fail
  go_loop [1] (fun v => ∃ k : Nat, i ≤ k ∧ k ≤ s.size ∧ v = .int .i64 k ∧ Hid (digits s i = digits s k)) (fun v => s.size - (intOf v).toNat)
  case atStart => exact ⟨i, Nat.le_refl _, hi, rfl, Lib.hid rfl⟩
  case round =>
    obtain ⟨k, hik, hk, rfl, Hd⟩ := hrel
    by_cases hlt : k < s.size
    · have hc := (ch_in hlt).symm
      by_cases hb : digitB (ch s k) = true
      · have Hg := Lib.hid (digits_go hb)
        go_wp2_with (go_at_call 56; refine (digit_any (ch s k) w).mono ?_; rintro e w' ⟨rfl, rfl⟩)
        go_round
        case rel => exact ⟨k + 1, by omega, by omega, by go_num, Lib.hid (by rw [Hd.out, Hg.out])⟩
        case measure => simp [intOf]; omega
      · have hb' : digitB (ch s k) = false := by simpa using hb
        have Hg := Lib.hid (digits_stop hb')
        clear hb
        by_cases he : k = i
        · subst he
          go_wp2_with (go_at_call 56; refine (digit_any (ch s k) w).mono ?_; rintro e w' ⟨rfl, rfl⟩)
          go_ret
          exact ⟨ret_num (by unfold run1; rw [if_pos Hg.out]; rfl), rfl⟩
        · have he' : ((k : Int) == (i : Int)) = false := by simp; omega
          go_wp2_with (go_at_call 56; refine (digit_any (ch s k) w).mono ?_; rintro e w' ⟨rfl, rfl⟩)
          go_ret
          exact ⟨ret_num (by unfold run1; rw [if_neg (by rw [Hd.out, Hg.out]; exact he), Hd.out, Hg.out]; rfl), rfl⟩
    · have hb' : digitB (ch s k) = false := by rw [ch_out (by omega)]; rfl
      have Hg := Lib.hid (digits_stop hb')
      clear hb'
      by_cases he : k = i
      · subst he
        go_wp2_with fail
        go_ret
        exact ⟨ret_num (by unfold run1; rw [if_pos Hg.out]; rfl), rfl⟩
      · have he' : ((k : Int) == (i : Int)) = false := by simp; omega
        go_wp2_with fail
        go_ret
        exact ⟨ret_num (by unfold run1; rw [if_neg (by rw [Hd.out, Hg.out]; exact he), Hd.out, Hg.out]; rfl), rfl⟩
theorem run_ok (i j : Nat) (s : ByteArray) (w : World) (hs : s.size ≤ 140737488355328) (hi : i ≤ s.size) (h : run1 s i = .ok () j) :
    Calls Tryz.prog 34 #[.string s, .int .i64 i] w fun e w' => e = .returned (.int .i64 j) ∧ w = w' := by
  have := run_any i s w hs hi; rw [h] at this; exact this
theorem run_no (i j : Nat) (er : Int) (s : ByteArray) (w : World) (hs : s.size ≤ 140737488355328) (hi : i ≤ s.size) (h : run1 s i = .no j er) :
    Calls Tryz.prog 34 #[.string s, .int .i64 i] w fun e w' => e = .returned (.int .i64 (-1 - j)) ∧ w = w' := by
  have := run_any i s w hs hi; rw [h] at this; exact this
/-- What a stage of a number leaves. -/
def At1 (s : ByteArray) (F : Nat → R Unit) (r : R Unit) (k : Nat) : Prop := k ≤ s.size ∧ r = F k
set_option maxHeartbeats 6400000 in
set_option maxRecDepth 100000 in
theorem numberEnd_any (i : Nat) (s : ByteArray) (w : World) (hs : s.size ≤ 140737488355328) (hi : i ≤ s.size) :
    Calls Tryz.prog 20 #[.string s, .int .i64 i] w fun e w' => e = .returned (.int .i64 (numV (num s i))) ∧ w = w' := by
  obtain ⟨V, hV⟩ : ∃ V, numV (num s i) = V := ⟨_, rfl⟩
  rw [hV]
  have HV := Lib.hid hV
  clear hV
  go_enter Tryz.func20, Tryz.ntmps20
  go_upto_region 1 with fail
  go_cut [1, 14] (fun a v wx => a = .int .i64 i ∧ v = .bool (ch s i == 45) ∧ w = wx)
  case first =>
    by_cases hlt : i < s.size
    · have hc := (ch_in hlt).symm
      go_wp2_with fail
      go_meet
      case rel => exact ⟨rfl, rfl, rfl⟩
    · have hc : (ch s i == 45) = false := by rw [ch_out (by omega)]; rfl
      go_wp2_with fail
      go_meet
      case rel => exact ⟨rfl, by rw [hc], rfl⟩
  case rest =>
    obtain ⟨rfl, rfl, rfl⟩ := hcut
    go_upto_if 14 with fail
    go_cut [1] (fun v wx => ∃ k : Nat, k ≤ s.size ∧ v = .int .i64 k ∧ Hid (numV (numInt s k) = V) ∧ w = wx)
    case first =>
      by_cases h : ch s i = 45
      · have hlt := ch_pos (s := s) (i := i) (by omega)
        have H1 : Hid (numV (numInt s (i + 1)) = V) := Lib.hid (by rw [← HV.out]; unfold num; rw [if_pos h])
        go_wp2_with fail
        go_meet
        case rel => exact ⟨i + 1, by omega, by go_num, H1, rfl⟩
      · have H1 : Hid (numV (numInt s i) = V) := Lib.hid (by rw [← HV.out]; unfold num; rw [if_neg h])
        go_wp2_with fail
        go_meet
        case rel => exact ⟨i, by omega, rfl, H1, rfl⟩
    case rest =>
      obtain ⟨k, hk, rfl, H1, rfl⟩ := hcut
      clear HV
      go_upto_region 3 with fail
      go_cut [1, 26] (fun a v wx => a = .int .i64 k ∧ v = .bool (ch s k == 48) ∧ w = wx)
      case first =>
        by_cases hlt : k < s.size
        · have hc := (ch_in hlt).symm
          go_wp2_with fail
          go_meet
          case rel => exact ⟨rfl, rfl, rfl⟩
        · have hc : (ch s k == 48) = false := by rw [ch_out (by omega)]; rfl
          go_wp2_with fail
          go_meet
          case rel => exact ⟨rfl, by rw [hc], rfl⟩
      case rest =>
        obtain ⟨rfl, rfl, rfl⟩ := hcut
        go_upto_if 26 with fail
        go_cut [1] (fun v wx => ∃ j : Nat, j ≤ s.size ∧ v = .int .i64 j ∧ Hid (numV (numFrac s j) = V) ∧ w = wx)
        case first =>
          by_cases h : ch s k = 48
          · have hlt := ch_pos (s := s) (i := k) (by omega)
            have H2 : Hid (numV (numFrac s (k + 1)) = V) := Lib.hid (by rw [← H1.out]; unfold numInt; rw [if_pos h])
            go_wp2_with fail
            go_meet
            case rel => exact ⟨k + 1, by omega, by go_num, H2, rfl⟩
          · have h' : (ch s k == 48) = false := by simpa using h
            cases hr : run1 s k with
            | ok u j =>
              have H2 : Hid (numV (numFrac s j) = V) := Lib.hid (by rw [← H1.out]; unfold numInt; rw [if_neg h, hr])
              have hj := (run1_ok hr).2 hk
              have Hr := Lib.hid hr
              clear hr h
              go_wp2_with (go_at_call 34; refine (run_ok k j s w hs hk Hr.out).mono ?_; rintro e w' ⟨rfl, rfl⟩)
              go_meet
              case rel => exact ⟨j, hj, rfl, H2, rfl⟩
            | no j e =>
              have H2 : Hid (-1 - (j : Int) = V) := Lib.hid (by rw [← H1.out]; unfold numInt; rw [if_neg h, hr]; rfl)
              have Hr := Lib.hid hr
              clear hr h
              go_wp2_with (go_at_call 34; refine (run_no k j e s w hs hk Hr.out).mono ?_; rintro e w' ⟨rfl, rfl⟩)
              go_ret
              exact ⟨ret_num H2.out, rfl⟩
        case rest =>
          obtain ⟨j, hj, rfl, H2, rfl⟩ := hcut
          clear H1 hk
          go_upto_region 8 with fail
          go_cut [1, 44] (fun a v wx => a = .int .i64 j ∧ v = .bool (ch s j == 46) ∧ w = wx)
          case first =>
            by_cases hlt : j < s.size
            · have hc := (ch_in hlt).symm
              go_wp2_with fail
              go_meet
              case rel => exact ⟨rfl, rfl, rfl⟩
            · have hc : (ch s j == 46) = false := by rw [ch_out (by omega)]; rfl
              go_wp2_with fail
              go_meet
              case rel => exact ⟨rfl, by rw [hc], rfl⟩
          case rest =>
            obtain ⟨rfl, rfl, rfl⟩ := hcut
            go_upto_if 44 with fail
            go_cut [1] (fun v wx => ∃ m : Nat, m ≤ s.size ∧ v = .int .i64 m ∧ Hid (numV (numExp s m) = V) ∧ w = wx)
            case first =>
              by_cases h : ch s j = 46
              · have hlt := ch_pos (s := s) (i := j) (by omega)
                cases hr : run1 s (j + 1) with
                | ok u m =>
                  have H3 : Hid (numV (numExp s m) = V) := Lib.hid (by rw [← H2.out]; unfold numFrac; rw [if_pos h, hr])
                  have hm := (run1_ok hr).2 (by omega)
                  have Hr := Lib.hid hr
                  clear hr
                  go_wp2_with (go_at_call 34; refine (run_ok (j + 1) m s w hs (by omega) Hr.out).mono ?_; rintro e w' ⟨rfl, rfl⟩)
                  go_meet
                  case rel => exact ⟨m, hm, rfl, H3, rfl⟩
                | no m e =>
                  have H3 : Hid (-1 - (m : Int) = V) := Lib.hid (by rw [← H2.out]; unfold numFrac; rw [if_pos h, hr]; rfl)
                  have Hr := Lib.hid hr
                  clear hr
                  go_wp2_with (go_at_call 34; refine (run_no (j + 1) m e s w hs (by omega) Hr.out).mono ?_; rintro e w' ⟨rfl, rfl⟩)
                  go_ret
                  exact ⟨ret_num H3.out, rfl⟩
              · have H3 : Hid (numV (numExp s j) = V) := Lib.hid (by rw [← H2.out]; unfold numFrac; rw [if_neg h])
                have h' : (ch s j == 46) = false := by simpa using h
                go_wp2_with fail
                go_meet
                case rel => exact ⟨j, hj, rfl, H3, rfl⟩
            case rest =>
              obtain ⟨m, hm, rfl, H3, rfl⟩ := hcut
              clear H2 hj
              go_upto_region 12 with fail
              go_cut [1, 67] (fun a v wx => a = .int .i64 m ∧ v = .bool (ch s m == 101 || ch s m == 69) ∧ w = wx)
              case first =>
                by_cases hlt : m < s.size
                · have hc := (ch_in hlt).symm
                  by_cases h : ch s m = 101
                  · rw [h] at hc
                    have hh : (ch s m == 101 || ch s m == 69) = true := by rw [h]; rfl
                    clear h
                    go_wp2_with fail
                    go_meet
                    case rel => exact ⟨rfl, by rw [hh], rfl⟩
                  · have h' : (ch s m == 101) = false := by simpa using h
                    clear h
                    go_wp2_with fail
                    go_meet
                    case rel => exact ⟨rfl, by rw [h']; rfl, rfl⟩
                · have hc : (ch s m == 101 || ch s m == 69) = false := by rw [ch_out (by omega)]; rfl
                  go_wp2_with fail
                  go_meet
                  case rel => exact ⟨rfl, by rw [hc], rfl⟩
              case rest =>
                obtain ⟨rfl, hv, rfl⟩ := hcut
                by_cases h : ch s m = 101 ∨ ch s m = 69
                · have hlt := ch_pos (s := s) (i := m) (by omega)
                  have hb : (ch s m == 101 || ch s m == 69) = true := by simpa using h
                  have H4 : Hid (numV (run1 s (if ch s (m + 1) = 43 ∨ ch s (m + 1) = 45 then m + 2 else m + 1)) = V) := Lib.hid (by rw [← H3.out]; unfold numExp; rw [if_pos h])
                  rw [hb] at hv
                  subst hv
                  clear h hb
                  go_upto_region 14 with fail
                  go_cut [1, 85] (fun a v wx => a = .int .i64 ((m + 1 : Nat) : Int) ∧ v = .bool (ch s (m + 1) == 43 || ch s (m + 1) == 45) ∧ w = wx)
                  case first =>
                    by_cases hlt2 : m + 1 < s.size
                    · have hc := (ch_in hlt2).symm
                      by_cases h : ch s (m + 1) = 43
                      · rw [h] at hc
                        have hh : (ch s (m + 1) == 43 || ch s (m + 1) == 45) = true := by rw [h]; rfl
                        clear h
                        go_wp2_with fail
                        go_meet
                        case rel => exact ⟨by go_num, by rw [hh], rfl⟩
                      · have h' : (ch s (m + 1) == 43) = false := by simpa using h
                        clear h
                        go_wp2_with fail
                        go_meet
                        case rel => exact ⟨by go_num, by rw [h']; rfl, rfl⟩
                    · have hc : (ch s (m + 1) == 43 || ch s (m + 1) == 45) = false := by rw [ch_out (by omega)]; rfl
                      go_wp2_with fail
                      go_meet
                      case rel => exact ⟨by go_num, by rw [hc], rfl⟩
                  case rest =>
                    obtain ⟨rfl, hv, rfl⟩ := hcut
                    by_cases h2 : ch s (m + 1) = 43 ∨ ch s (m + 1) = 45
                    · have hlt2 := ch_pos (s := s) (i := m + 1) (by omega)
                      have hb2 : (ch s (m + 1) == 43 || ch s (m + 1) == 45) = true := by simpa using h2
                      have H5 : Hid (numV (run1 s (m + 2)) = V) := Lib.hid (by rw [← H4.out, if_pos h2])
                      rw [hb2] at hv
                      subst hv
                      clear h2 hb2
                      go_wp2_with (go_at_call 34; refine (run_any (m + 2) s w hs (by omega)).mono ?_; rintro e w' ⟨rfl, rfl⟩)
                      go_ret
                      exact ⟨ret_num H5.out, rfl⟩
                    · have hb2 : (ch s (m + 1) == 43 || ch s (m + 1) == 45) = false := by simpa using h2
                      have H5 : Hid (numV (run1 s (m + 1)) = V) := Lib.hid (by rw [← H4.out, if_neg h2])
                      rw [hb2] at hv
                      subst hv
                      clear h2 hb2
                      go_wp2_with (go_at_call 34; refine (run_any (m + 1) s w hs (by omega)).mono ?_; rintro e w' ⟨rfl, rfl⟩)
                      go_ret
                      exact ⟨ret_num H5.out, rfl⟩
                · have hb : (ch s m == 101 || ch s m == 69) = false := by simpa using h
                  have H4 : Hid ((m : Int) = V) := Lib.hid (by rw [← H3.out]; unfold numExp; rw [if_neg h]; rfl)
                  rw [hb] at hv
                  subst hv
                  clear h hb
                  go_wp2_with fail
                  go_ret
                  exact ⟨ret_num H4.out, rfl⟩
end
end Go.Proofs.YtlbilofnbhhmjaaGreatDoor
