/- The reference's reader: fail, next, blanks, begins, digits, number, word. -/
import Derived.Test.YtlbilofnbhhmjaaDoorParse
namespace Go.Proofs.YtlbilofnbhhmjaaDoor
open Go.RowKit
set_option linter.unusedVariables false
set_option linter.unusedSimpArgs false
/-- Block b is the reference's reader of s, at a place, with an error. -/
def Sc (w : World) (b : Nat) (s : ByteArray) (i : Nat) (e : Int) : Prop := Row w b 61 [.string s, .int .i64 (i : Int), .int .i64 e]
theorem Sc.s {w : World} {b i : Nat} {e : Int} {s : ByteArray} (h : Sc w b s i e) : w.cell? ⟨b, 0, none⟩ = some (.string s) := Row.at_ h rfl
theorem Sc.i {w : World} {b i : Nat} {e : Int} {s : ByteArray} (h : Sc w b s i e) : w.cell? ⟨b, 1, none⟩ = some (.int .i64 (i : Int)) := Row.at_ h rfl
theorem Sc.e {w : World} {b i : Nat} {e : Int} {s : ByteArray} (h : Sc w b s i e) : w.cell? ⟨b, 2, none⟩ = some (.int .i64 e) := Row.at_ h rfl
theorem Sc.free {w : World} {b i : Nat} {e : Int} {s : ByteArray} (h : Sc w b s i e) (j : Nat) : w.frozen? ⟨b, j, none⟩ = false := Row.frozen h j
theorem Sc.grown {w w' : World} {b i : Nat} {e : Int} {s : ByteArray} {row : Option Nat} (h : Sc w b s i e) (hg : w.grownBy w' row) (hne : some b ≠ row) : Sc w' b s i e := Row.grown h hg hne
theorem Sc.set {w : World} {b i : Nat} {e : Int} {s : ByteArray} (h : Sc w b s i e) (j : Nat) : Sc (w.setCell ⟨b, 1, none⟩ (.int .i64 (j : Int))) b s j e := Row.set h 1 _
theorem Sc.err {w : World} {b i : Nat} {e : Int} {s : ByteArray} (h : Sc w b s i e) (j : Int) : Sc (w.setCell ⟨b, 2, none⟩ (.int .i64 j)) b s i j := Row.set h 2 _
theorem Sc.drewN {w : World} {b i : Nat} {e : Int} {s : ByteArray} (h : Sc w b s i e) (n : Nat) : Sc (w.drewN n) b s i e := h
theorem Sc.lt {w : World} {b i : Nat} {e : Int} {s : ByteArray} (h : Sc w b s i e) : b < w.heap.size := Row.lt h
/-- What a method of the reference's reader does that reads something. -/
def RDoes {α : Type} (r : R α) (val : α → Value) (bad : Value → Prop) (b : Nat) (s : ByteArray) (w : World) (e : Ending) (w' : World) : Prop :=
  w.grownBy w' (some b) ∧ match r with
    | .ok a j => e = .returned (val a) ∧ Sc w' b s j 0
    | .no j er => (∃ v, bad v ∧ e = .returned v) ∧ Sc w' b s j er ∧ er ≠ 0
theorem RDoes.ok {α : Type} {r : R α} {val : α → Value} {bad : Value → Prop} {b : Nat} {s : ByteArray} {w w' : World} {e : Ending} (h : RDoes r val bad b s w e w') {a : α} {j : Nat} (hr : r = .ok a j) :
    e = .returned (val a) ∧ Sc w' b s j 0 ∧ w.grownBy w' (some b) := by subst hr; exact ⟨h.2.1, h.2.2, h.1⟩
theorem RDoes.no {α : Type} {r : R α} {val : α → Value} {bad : Value → Prop} {b : Nat} {s : ByteArray} {w w' : World} {e : Ending} (h : RDoes r val bad b s w e w') {er : Int} {j : Nat} (hr : r = .no j er) :
    ∃ v, e = .returned v ∧ bad v ∧ Sc w' b s j er ∧ er ≠ 0 ∧ w.grownBy w' (some b) := by subst hr; obtain ⟨h1, ⟨v, h2, h3⟩, h4, h5⟩ := h; exact ⟨v, h3, h2, h4, h5, h1⟩
set_option maxHeartbeats 800000 in
theorem rfail_any (b i j : Nat) (e0 er : Int) (s : ByteArray) (w : World) (hr : Sc w b s i e0) :
    Calls Tryd.prog 37 #[.pointer (some ⟨b, 0, none⟩), .int .i64 (j : Int), .int .i64 er] w fun e w' => e = .returned (.tuple #[]) ∧ Sc w' b s j er ∧ w.grownBy w' (some b) := by
  have Hr := Lib.hid hr
  have c1 := hr.i
  have d1 := hr.free 1
  have c2 := hr.e
  have d2 := hr.free 2
  clear hr
  go_enter Tryd.func37, Tryd.ntmps37
  go_wp2
  go_end0
  exact ⟨rfl, (Hr.out.set j).err er, grown_set (grown_set (grown_refl _ _) (.inl rfl) _ _) (.inl rfl) _ _⟩
set_option maxHeartbeats 400000 in
theorem rdigit_any (c : Int) (w : World) : Calls Tryd.prog 74 #[.int .u8 c] w fun en w' => en = .returned (.bool (digitB c)) ∧ w = w' := by
  go_enter Tryd.func74, Tryd.ntmps74
  go_wp2
  all_goals go_ret
  · exact ⟨ret_bool (by simp [digitB]; omega), rfl⟩
  · exact ⟨ret_bool (by simp [digitB]; omega), rfl⟩
set_option maxHeartbeats 800000 in
theorem rbegins_any (c : Int) (w : World) : Calls Tryd.prog 52 #[.int .u8 c] w fun en w' => en = .returned (.bool (beginsB c)) ∧ w = w' := by
  go_enter Tryd.func52, Tryd.ntmps52
  go_wp2_with (go_at_call 74; refine (rdigit_any c w).mono ?_; rintro e w' ⟨rfl, rfl⟩)
  all_goals go_ret
  all_goals exact ⟨ret_bool (by simp_all [beginsB]), rfl⟩
set_option maxHeartbeats 800000 in
theorem rnext_q (b i : Nat) (e0 : Int) (s : ByteArray) (w : World) (hr : Sc w b s i e0) (hs : s.size ≤ 1099511627776) (hi : i ≤ 2199023255552) :
    Calls Tryd.prog 51 #[.pointer (some ⟨b, 0, none⟩)] w fun e w' => e = .returned (.int .u8 (ch s i)) ∧ ∃ m, w' = w.drewN m := by
  have c0 := hr.s
  have c1 := hr.i
  by_cases hlt : i < s.size
  · have Hc := Lib.hid (ch_in hlt)
    go_enter Tryd.func51, Tryd.ntmps51
    go_wp2
    go_quiet (fail)
    go_wp2
    go_quiet (fail)
    go_wp2
    go_ret
    exact ⟨ret_num Hc.out.symm, _, World.drewN_drewN _ _ _⟩
  · have Hc := Lib.hid (ch_out (s := s) (i := i) (by omega))
    go_enter Tryd.func51, Tryd.ntmps51
    go_wp2
    go_quiet (fail)
    go_wp2
    go_ret
    exact ⟨ret_num Hc.out.symm, _, rfl⟩
theorem rnext_any (b i : Nat) (e0 : Int) (s : ByteArray) (w : World) (hr : Sc w b s i e0) (hs : s.size ≤ 1099511627776) (hi : i ≤ 2199023255552) :
    Calls Tryd.prog 51 #[.pointer (some ⟨b, 0, none⟩)] w fun e w' => e = .returned (.int .u8 (ch s i)) ∧ w.grownBy w' none :=
  (rnext_q b i e0 s w hr hs hi).mono fun e w' ⟨h1, m, h2⟩ => ⟨h1, by rw [h2]; exact grown_drewN (grown_refl _ _) m⟩
set_option maxHeartbeats 1600000 in
theorem rblanks_any (b i : Nat) (e0 : Int) (s : ByteArray) (w : World) (hr : Sc w b s i e0) (hs : s.size ≤ 1099511627776) (hi : i ≤ s.size) :
    Calls Tryd.prog 35 #[.pointer (some ⟨b, 0, none⟩)] w fun e w' => e = .returned (.tuple #[]) ∧ Sc w' b s (skip s i) e0 ∧ w.grownBy w' (some b) := by
  have Hr := Lib.hid hr
  clear hr
  go_enter Tryd.func35, Tryd.ntmps35
  go_wp2_with fail
  go_loopg [] (s.size - i) (fun d wr => ∃ k, k ≤ s.size ∧ d = s.size - k ∧ Hid (skip s i = skip s k) ∧ Hid (Sc wr b s k e0) ∧ Hid (w.grownBy wr (some b)))
  case atStart => exact ⟨i, hi, rfl, Lib.hid rfl, Hr, Lib.hid (grown_refl _ _)⟩
  case round =>
    obtain ⟨k, hk, rfl, Hsk, HR, HG⟩ := hrel
    by_cases hb : blankB (ch s k) = true
    · have hlt := ch_pos (s := s) (i := k) (fun e => by rw [e] at hb; cases hb)
      have Hst := Lib.hid (skip_blank hb)
      obtain ⟨c, hc⟩ : ∃ c, ch s k = c := ⟨_, rfl⟩
      rw [hc] at hb
      have Hc := Lib.hid hc
      clear hc
      rcases blank_true hb with rfl | rfl | rfl | rfl
      all_goals
        clear hb
        go_wp2_with (first
          | (have _ := w3; go_at_call 51; refine (rnext_any b k e0 s w3 HR3.out hs (by omega)).mono ?_; rintro e w4 ⟨rfl, hg1⟩; rw [Hc.out]; have HR4 := Lib.hid (HR3.out.grown hg1 (by simp)); have Hg4 := Lib.hid (grown_trans Hg3.out hg1); have c2 := HR4.out.i; have d2 := HR4.out.free 1; clear hg1)
          | (have _ := w2; go_at_call 51; refine (rnext_any b k e0 s w2 HR2.out hs (by omega)).mono ?_; rintro e w3 ⟨rfl, hg1⟩; rw [Hc.out]; have HR3 := Lib.hid (HR2.out.grown hg1 (by simp)); have Hg3 := Lib.hid (grown_trans Hg2.out hg1); have c2 := HR3.out.i; have d2 := HR3.out.free 1; clear hg1)
          | (have _ := w1; go_at_call 51; refine (rnext_any b k e0 s w1 HR1.out hs (by omega)).mono ?_; rintro e w2 ⟨rfl, hg1⟩; rw [Hc.out]; have HR2 := Lib.hid (HR1.out.grown hg1 (by simp)); have Hg2 := Lib.hid (grown_trans Hg1.out hg1); have c2 := HR2.out.i; have d2 := HR2.out.free 1; clear hg1)
          | (go_at_call 51; refine (rnext_any b k e0 s wr HR.out hs (by omega)).mono ?_; rintro e w1 ⟨rfl, hg1⟩; rw [Hc.out]; have HR1 := Lib.hid (HR.out.grown hg1 (by simp)); have Hg1 := Lib.hid hg1; have c2 := HR1.out.i; have d2 := HR1.out.free 1; clear hg1))
        go_roundg (s.size - (k + 1))
        case measure => omega
        case rel =>
          first
            | exact ⟨k + 1, by omega, rfl, Lib.hid (by rw [Hsk.out, Hst.out]), Lib.hid (HR4.out.set (k + 1)), Lib.hid (grown_set (grown_trans HG.out (grown_none Hg4.out _)) (.inl rfl) _ _)⟩
            | exact ⟨k + 1, by omega, rfl, Lib.hid (by rw [Hsk.out, Hst.out]), Lib.hid (HR3.out.set (k + 1)), Lib.hid (grown_set (grown_trans HG.out (grown_none Hg3.out _)) (.inl rfl) _ _)⟩
            | exact ⟨k + 1, by omega, rfl, Lib.hid (by rw [Hsk.out, Hst.out]), Lib.hid (HR2.out.set (k + 1)), Lib.hid (grown_set (grown_trans HG.out (grown_none Hg2.out _)) (.inl rfl) _ _)⟩
            | exact ⟨k + 1, by omega, rfl, Lib.hid (by rw [Hsk.out, Hst.out]), Lib.hid (HR1.out.set (k + 1)), Lib.hid (grown_set (grown_trans HG.out (grown_none Hg1.out _)) (.inl rfl) _ _)⟩
    · have hb' : blankB (ch s k) = false := by simpa using hb
      obtain ⟨h1, h2, h3, h4⟩ := blank_cases hb'
      have Hst := Lib.hid (skip_stop hb')
      obtain ⟨c, hc⟩ : ∃ c, ch s k = c := ⟨_, rfl⟩
      rw [hc] at h1 h2 h3 h4
      have Hc := Lib.hid hc
      clear hb hb' hc
      go_wp2_with (first
        | (have _ := w3; go_at_call 51; refine (rnext_any b k e0 s w3 HR3.out hs (by omega)).mono ?_; rintro e w4 ⟨rfl, hg1⟩; rw [Hc.out]; have HR4 := Lib.hid (HR3.out.grown hg1 (by simp)); have Hg4 := Lib.hid (grown_trans Hg3.out hg1); clear hg1)
        | (have _ := w2; go_at_call 51; refine (rnext_any b k e0 s w2 HR2.out hs (by omega)).mono ?_; rintro e w3 ⟨rfl, hg1⟩; rw [Hc.out]; have HR3 := Lib.hid (HR2.out.grown hg1 (by simp)); have Hg3 := Lib.hid (grown_trans Hg2.out hg1); clear hg1)
        | (have _ := w1; go_at_call 51; refine (rnext_any b k e0 s w1 HR1.out hs (by omega)).mono ?_; rintro e w2 ⟨rfl, hg1⟩; rw [Hc.out]; have HR2 := Lib.hid (HR1.out.grown hg1 (by simp)); have Hg2 := Lib.hid (grown_trans Hg1.out hg1); clear hg1)
        | (go_at_call 51; refine (rnext_any b k e0 s wr HR.out hs (by omega)).mono ?_; rintro e w1 ⟨rfl, hg1⟩; rw [Hc.out]; have HR1 := Lib.hid (HR.out.grown hg1 (by simp)); have Hg1 := Lib.hid hg1; clear hg1))
      go_end0
      exact ⟨rfl, by rw [Hsk.out, Hst.out]; exact HR4.out, grown_trans HG.out (grown_none Hg4.out _)⟩
set_option maxHeartbeats 1600000 in
theorem rdigits_any (i : Nat) (s : ByteArray) (w : World) (hs : s.size ≤ 1099511627776) (hi : i ≤ s.size) :
    Calls Tryd.prog 77 #[.string s, .int .i64 i] w fun e w' => e = .returned (.int .i64 (digits s i : Nat)) ∧ w = w' := by
  go_enter Tryd.func77, Tryd.ntmps77
  go_wp2_with fail
  go_loop [1] (fun v => ∃ k : Nat, i ≤ k ∧ k ≤ s.size ∧ v = .int .i64 k ∧ Hid (digits s i = digits s k)) (fun v => s.size - (intOf v).toNat)
  case atStart => exact ⟨i, Nat.le_refl _, hi, rfl, Lib.hid rfl⟩
  case round =>
    obtain ⟨k, hik, hk, rfl, Hd⟩ := hrel
    by_cases hlt : k < s.size
    · have hc := (ch_in hlt).symm
      by_cases hb : digitB (ch s k) = true
      · have Hg := Lib.hid (digits_go hb)
        go_wp2_with (go_at_call 74; refine (rdigit_any (ch s k) w).mono ?_; rintro e w' ⟨rfl, rfl⟩)
        go_round
        case rel => exact ⟨k + 1, by omega, by omega, by go_num, Lib.hid (by rw [Hd.out, Hg.out])⟩
        case measure => simp [intOf]; omega
      · have hb' : digitB (ch s k) = false := by simpa using hb
        have Hg := Lib.hid (digits_stop hb')
        clear hb
        go_wp2_with (go_at_call 74; refine (rdigit_any (ch s k) w).mono ?_; rintro e w' ⟨rfl, rfl⟩)
        go_ret
        exact ⟨ret_num (by rw [Hd.out, Hg.out]), rfl⟩
    · have hb' : digitB (ch s k) = false := by rw [ch_out (by omega)]; rfl
      have Hg := Lib.hid (digits_stop hb')
      clear hb'
      go_wp2_with fail
      go_ret
      exact ⟨ret_num (by rw [Hd.out, Hg.out]), rfl⟩
set_option maxHeartbeats 1600000 in
theorem rword_any (b i : Nat) (s wd : ByteArray) (w : World) (hr : Sc w b s i 0) (hs : s.size ≤ 1099511627776) (hi : i ≤ s.size) (hw : wd.size ≤ 1000) (hz : ∀ k, k < wd.size → ch wd k ≠ 0) :
    Calls Tryd.prog 56 #[.pointer (some ⟨b, 0, none⟩), .string wd] w (RDoes (word s wd i) (fun _ => .tuple #[]) (fun v => v = .tuple #[]) b s w) := by
  obtain ⟨RES, hR⟩ : ∃ r, word s wd i = r := ⟨_, rfl⟩
  rw [hR]
  have HR := Lib.hid hR
  have Hr := Lib.hid hr
  have HZ := Lib.hid hz
  clear hR hr hz
  go_enter Tryd.func56, Tryd.ntmps56
  go_wp2_with fail
  go_loopw [4] (fun v wr => ∃ k : Nat, k ≤ wd.size ∧ i + k ≤ s.size ∧ v = .int .i64 k ∧ Hid (wordAt s wd (wd.size - k) (i + k) = RES) ∧ Hid (Sc wr b s (i + k) 0) ∧ Hid (w.grownBy wr (some b))) (fun v _ => wd.size - (intOf v).toNat)
  case atStart => exact ⟨0, by omega, hi, rfl, HR, Hr, Lib.hid (grown_refl _ _)⟩
  case round =>
    obtain ⟨k, hk, hik, rfl, Hw, Hrd, HG⟩ := hrel
    by_cases hlt : k < wd.size
    · have hc := (ch_in hlt).symm
      have HS : Hid ((if ch s (i + k) = ch wd k then wordAt s wd (wd.size - (k + 1)) (i + k + 1) else .no (i + k) 130) = RES) := Lib.hid (by
        rw [← Hw.out, show wd.size - k = (wd.size - (k + 1)) + 1 by omega, wordAt, show wd.size - (wd.size - (k + 1) + 1) = k by omega])
      by_cases he : ch s (i + k) = ch wd k
      · have hb : (ch s (i + k) != ch wd k) = false := by simp [he]
        have hlt2 : i + k < s.size := ch_pos (by rw [he]; exact HZ.out k hlt)
        have HS2 : Hid (wordAt s wd (wd.size - (k + 1)) (i + k + 1) = RES) := Lib.hid (by rw [← HS.out, if_pos he])
        clear he
        go_wp2_with fail
        go_quiet ((go_at_call 51; exact Calls.quiet_of (rnext_q b (i + k) 0 s _ (Hrd.out.drewN _) hs (by omega))))
        have Hrd1 := Lib.hid (Hrd.out.drewN nq)
        have HG1 := Lib.hid (grown_drewN HG.out nq)
        generalize hw1 : wr.drewN nq = w1 at Hrd1 HG1
        clear hw1
        have c1 := Hrd1.out.i
        have d1 := Hrd1.out.free 1
        have e1 : (((i + k : Nat) : Int)) + 1 = ((i + k + 1 : Nat) : Int) := by omega
        go_wp2_with fail
        go_roundw
        case rel => exact ⟨k + 1, by omega, by omega, by go_num, HS2, Lib.hid (Hrd1.out.set (i + k + 1)), Lib.hid (grown_set HG1.out (.inl rfl) _ _)⟩
        case measure => simp [intOf]; omega
      · have hb : (ch s (i + k) != ch wd k) = true := by simpa using he
        have HS2 : Hid (R.no (i + k) 130 = RES) := Lib.hid (by rw [← HS.out, if_neg he])
        clear he
        go_wp2_with fail
        go_quiet ((go_at_call 51; exact Calls.quiet_of (rnext_q b (i + k) 0 s _ (Hrd.out.drewN _) hs (by omega))))
        have Hrd1 := Lib.hid (Hrd.out.drewN nq)
        have HG1 := Lib.hid (grown_drewN HG.out nq)
        generalize hw1 : wr.drewN nq = w1 at Hrd1 HG1
        clear hw1
        have c1 := Hrd1.out.i
        go_wp2_with (go_at_call 37; refine (rfail_any b (i + k) (i + k) 0 130 s w1 Hrd1.out).mono ?_; rintro e w2 ⟨rfl, hsc, hg2⟩; have Hsc := Lib.hid hsc; have HG2 := Lib.hid (grown_trans HG1.out hg2); clear hsc hg2)
        first | go_end0 | refine bodyPost_ret (results_none rfl _ _ _) rfl ?_
        rw [← HS2.out]
        exact ⟨HG2.out, ⟨_, rfl, rfl⟩, Hsc.out, by decide⟩
    · have HS2 : Hid (R.ok () (i + k) = RES) := Lib.hid (by rw [← Hw.out, show wd.size - k = 0 by omega]; rfl)
      go_wp2_with fail
      go_end0
      rw [← HS2.out]
      exact ⟨HG.out, rfl, Hrd.out⟩
/-- How the reference tells where a number ends. -/
def numP : R Unit → Int × Bool
  | .ok _ j => (j, true)
  | .no j _ => (j, false)
theorem ret_pair {a c : Int} {p q : Bool} (h : a = c ∧ p = q) : Ending.returned (.tuple #[.int .i64 a, .bool p]) = .returned (.tuple #[.int .i64 c, .bool q]) := by rw [h.1, h.2]
theorem digits_ok {s : ByteArray} {k : Nat} (h : digitB (ch s k) = true) : run1 s k = .ok () (digits s k) := by
  have h1 := digits_go h
  have := digits_ge s (k + 1)
  unfold run1; rw [if_neg (by omega)]
theorem digits_no {s : ByteArray} {k : Nat} (h : digitB (ch s k) = false) : run1 s k = .no k 130 := by
  unfold run1; rw [if_pos (digits_stop h)]
set_option maxHeartbeats 6400000 in
set_option maxRecDepth 100000 in
theorem rnumber_any (i : Nat) (s : ByteArray) (w : World) (hs : s.size ≤ 1099511627776) (hi : i ≤ s.size) :
    Calls Tryd.prog 57 #[.string s, .int .i64 i] w fun e w' => e = .returned (.tuple #[.int .i64 (numP (num s i)).1, .bool (numP (num s i)).2]) ∧ w = w' := by
  obtain ⟨V, hV⟩ : ∃ V, numP (num s i) = V := ⟨_, rfl⟩
  rw [hV]
  have HV := Lib.hid hV
  clear hV
  go_enter Tryd.func57, Tryd.ntmps57
  go_upto_region 1 with fail
  go_cut [1, 18] (fun a v wx => a = .int .i64 i ∧ v = .bool (ch s i == 45) ∧ w = wx)
  case first =>
    by_cases hlt : i < s.size
    · have hc := (ch_in hlt).symm
      go_wp2_with fail
      go_meet
      case rel => exact ⟨rfl, rfl, rfl⟩
    · have hc : (ch s i == 45) = false := by rw [ch_out (by omega)]; rfl
      go_wp2_with fail
      go_meet
      case rel => exact ⟨rfl, by rw [hc], rfl⟩
  case rest =>
    obtain ⟨rfl, rfl, rfl⟩ := hcut
    go_upto_if 18 with fail
    go_cut [1] (fun v wx => ∃ k : Nat, k ≤ s.size ∧ v = .int .i64 k ∧ Hid (numP (numInt s k) = V) ∧ w = wx)
    case first =>
      by_cases h : ch s i = 45
      · have hlt := ch_pos (s := s) (i := i) (by omega)
        have H1 : Hid (numP (numInt s (i + 1)) = V) := Lib.hid (by rw [← HV.out]; unfold num; rw [if_pos h])
        go_wp2_with fail
        go_meet
        case rel => exact ⟨i + 1, by omega, by go_num, H1, rfl⟩
      · have H1 : Hid (numP (numInt s i) = V) := Lib.hid (by rw [← HV.out]; unfold num; rw [if_neg h])
        go_wp2_with fail
        go_meet
        case rel => exact ⟨i, by omega, rfl, H1, rfl⟩
    case rest =>
      obtain ⟨k, hk, rfl, H1, rfl⟩ := hcut
      clear HV
      cases hd : digitB (ch s k) with
      | false =>
        have h48 : ¬ ch s k = 48 := fun e => by rw [e] at hd; cases hd
        have H2 : Hid (V = ((k : Int), false)) := Lib.hid (by rw [← H1.out]; unfold numInt; rw [if_neg h48, digits_no hd]; rfl)
        by_cases hlt : k < s.size
        · have hc := (ch_in hlt).symm
          have hne : ((k : Int) == (s.size : Int)) = false := by simp; omega
          go_wp2_with (go_at_call 74; refine (rdigit_any (ch s k) w).mono ?_; rintro e w' ⟨rfl, rfl⟩)
          go_ret2
          exact ⟨ret_pair (by rw [H2.out]; exact ⟨rfl, rfl⟩), rfl⟩
        · have hne : ((k : Int) == (s.size : Int)) = true := by simp; omega
          go_wp2_with (go_at_call 74; refine (rdigit_any (ch s k) w).mono ?_; rintro e w' ⟨rfl, rfl⟩)
          go_ret2
          exact ⟨ret_pair (by rw [H2.out]; exact ⟨rfl, rfl⟩), rfl⟩
      | true =>
        have hlt : k < s.size := ch_pos (s := s) (i := k) (fun e => by rw [e] at hd; cases hd)
        have hc := (ch_in hlt).symm
        have hne : ((k : Int) == (s.size : Int)) = false := by simp; omega
        go_upto_if 36 with (go_at_call 74; refine (rdigit_any (ch s k) w).mono ?_; rintro e w' ⟨rfl, rfl⟩)
        go_cut [1] (fun v wx => ∃ j : Nat, j ≤ s.size ∧ v = .int .i64 j ∧ Hid (numP (numFrac s j) = V) ∧ w = wx)
        case first =>
          by_cases h : ch s k = 48
          · have h' : (ch s k == 48) = true := by simpa using h
            have H2 : Hid (numP (numFrac s (k + 1)) = V) := Lib.hid (by rw [← H1.out]; unfold numInt; rw [if_pos h])
            clear h
            go_wp2_with fail
            go_meet
            case rel => exact ⟨k + 1, by omega, by go_num, H2, rfl⟩
          · have h' : (ch s k == 48) = false := by simpa using h
            have H2 : Hid (numP (numFrac s (digits s k)) = V) := Lib.hid (by rw [← H1.out]; unfold numInt; rw [if_neg h, digits_ok hd])
            have hj := digits_le (s := s) hk
            obtain ⟨j, hjj⟩ : ∃ j, digits s k = j := ⟨_, rfl⟩
            rw [hjj] at H2 hj
            have HJ := Lib.hid hjj
            clear h hjj
            go_wp2_with (go_at_call 77; refine (rdigits_any k s w hs hk).mono ?_; rintro e w' ⟨rfl, rfl⟩; rw [HJ.out])
            go_meet
            case rel => exact ⟨j, hj, rfl, H2, rfl⟩
        case rest =>
          obtain ⟨j, hj, rfl, H2, rfl⟩ := hcut
          clear H1 hd hne hc hlt hk
          go_upto_region 8 with fail
          go_cut [1, 51] (fun a v wx => a = .int .i64 j ∧ v = .bool (ch s j == 46) ∧ w = wx)
          case first =>
            by_cases hlt : j < s.size
            · have hc := (ch_in hlt).symm
              go_wp2_with fail
              go_meet
              case rel => exact ⟨rfl, rfl, rfl⟩
            · have hc : (ch s j == 46) = false := by rw [ch_out (by omega)]; rfl
              go_wp2_with fail
              go_meet
              case rel => exact ⟨rfl, by rw [hc], rfl⟩
          case rest =>
            obtain ⟨rfl, rfl, rfl⟩ := hcut
            go_upto_if 51 with fail
            go_cut [1] (fun v wx => ∃ m : Nat, m ≤ s.size ∧ v = .int .i64 m ∧ Hid (numP (numExp s m) = V) ∧ w = wx)
            case first =>
              by_cases h : ch s j = 46
              · have hlt := ch_pos (s := s) (i := j) (by omega)
                obtain ⟨m, hmm⟩ : ∃ m, digits s (j + 1) = m := ⟨_, rfl⟩
                have hm := digits_le (s := s) (i := j + 1) (by omega)
                rw [hmm] at hm
                by_cases hz : m = j + 1
                · have H3 : Hid (V = (((j + 1 : Nat) : Int), false)) := Lib.hid (by rw [← H2.out]; unfold numFrac; rw [if_pos h]; unfold run1; rw [if_pos (by rw [hmm, hz])]; rfl)
                  have HJ := Lib.hid hmm
                  subst hz
                  clear hmm
                  go_wp2_with (go_at_call 77; refine (rdigits_any (j + 1) s w hs (by omega)).mono ?_; rintro e w' ⟨rfl, rfl⟩; rw [HJ.out])
                  go_ret2
                  exact ⟨ret_pair (by rw [H3.out]; exact ⟨rfl, rfl⟩), rfl⟩
                · have H3 : Hid (numP (numExp s m) = V) := Lib.hid (by rw [← H2.out]; unfold numFrac; rw [if_pos h]; unfold run1; rw [if_neg (by rw [hmm]; exact hz), hmm])
                  have hz2 : ((m : Int) == (j : Int) + 1) = false := by simp; omega
                  have HJ := Lib.hid hmm
                  clear hmm hz
                  go_wp2_with (go_at_call 77; refine (rdigits_any (j + 1) s w hs (by omega)).mono ?_; rintro e w' ⟨rfl, rfl⟩; rw [HJ.out])
                  go_meet
                  case rel => exact ⟨m, hm, rfl, H3, rfl⟩
              · have H3 : Hid (numP (numExp s j) = V) := Lib.hid (by rw [← H2.out]; unfold numFrac; rw [if_neg h])
                have h' : (ch s j == 46) = false := by simpa using h
                go_wp2_with fail
                go_meet
                case rel => exact ⟨j, hj, rfl, H3, rfl⟩
            case rest =>
              obtain ⟨m, hm, rfl, H3, rfl⟩ := hcut
              clear H2 hj
              go_upto_region 13 with fail
              go_cut [1, 77] (fun a v wx => a = .int .i64 m ∧ v = .bool (ch s m == 101 || ch s m == 69) ∧ w = wx)
              case first =>
                by_cases hlt : m < s.size
                · have hc := (ch_in hlt).symm
                  by_cases h : ch s m = 101
                  · rw [h] at hc
                    have hh : (ch s m == 101 || ch s m == 69) = true := by rw [h]; rfl
                    clear h
                    go_wp2_with fail
                    go_meet
                    case rel => exact ⟨rfl, by rw [hh], rfl⟩
                  · have h' : (ch s m == 101) = false := by simpa using h
                    clear h
                    go_wp2_with fail
                    go_meet
                    case rel => exact ⟨rfl, by rw [h']; rfl, rfl⟩
                · have hc : (ch s m == 101 || ch s m == 69) = false := by rw [ch_out (by omega)]; rfl
                  go_wp2_with fail
                  go_meet
                  case rel => exact ⟨rfl, by rw [hc], rfl⟩
              case rest =>
                obtain ⟨rfl, hv, rfl⟩ := hcut
                by_cases h : ch s m = 101 ∨ ch s m = 69
                · have hlt := ch_pos (s := s) (i := m) (by omega)
                  have hb : (ch s m == 101 || ch s m == 69) = true := by simpa using h
                  have H4 : Hid (numP (run1 s (if ch s (m + 1) = 43 ∨ ch s (m + 1) = 45 then m + 2 else m + 1)) = V) := Lib.hid (by rw [← H3.out]; unfold numExp; rw [if_pos h])
                  rw [hb] at hv
                  subst hv
                  clear h hb
                  go_upto_region 15 with fail
                  go_cut [7, 95] (fun a v wx => a = .int .i64 ((m + 1 : Nat) : Int) ∧ v = .bool (ch s (m + 1) == 43 || ch s (m + 1) == 45) ∧ w = wx)
                  case first =>
                    by_cases hlt2 : m + 1 < s.size
                    · have hc := (ch_in hlt2).symm
                      by_cases h : ch s (m + 1) = 43
                      · rw [h] at hc
                        have hh : (ch s (m + 1) == 43 || ch s (m + 1) == 45) = true := by rw [h]; rfl
                        clear h
                        go_wp2_with fail
                        go_meet
                        case rel => exact ⟨by go_num, by rw [hh], rfl⟩
                      · have h' : (ch s (m + 1) == 43) = false := by simpa using h
                        clear h
                        go_wp2_with fail
                        go_meet
                        case rel => exact ⟨by go_num, by rw [h']; rfl, rfl⟩
                    · have hc : (ch s (m + 1) == 43 || ch s (m + 1) == 45) = false := by rw [ch_out (by omega)]; rfl
                      go_wp2_with fail
                      go_meet
                      case rel => exact ⟨by go_num, by rw [hc], rfl⟩
                  case rest =>
                    obtain ⟨rfl, hv, rfl⟩ := hcut
                    by_cases h2 : ch s (m + 1) = 43 ∨ ch s (m + 1) = 45
                    · have hlt2 := ch_pos (s := s) (i := m + 1) (by omega)
                      have hb2 : (ch s (m + 1) == 43 || ch s (m + 1) == 45) = true := by simpa using h2
                      have H5 : Hid (numP (run1 s (m + 2)) = V) := Lib.hid (by rw [← H4.out, if_pos h2])
                      rw [hb2] at hv
                      subst hv
                      clear h2 hb2
                      by_cases hz : digits s (m + 2) = m + 2
                      · have H9 : Hid (V = (((m + 2 : Nat) : Int), false)) := Lib.hid (by rw [← H5.out]; unfold run1; rw [if_pos hz]; rfl)
                        have HZ := Lib.hid hz
                        clear hz
                        go_wp2_with (go_at_call 77; refine (rdigits_any (m + 2) s w hs (by omega)).mono ?_; rintro e w' ⟨rfl, rfl⟩; rw [HZ.out])
                        go_ret2
                        exact ⟨ret_pair (by rw [H9.out]; exact ⟨rfl, rfl⟩), rfl⟩
                      · obtain ⟨z, hzz⟩ : ∃ z, digits s (m + 2) = z := ⟨_, rfl⟩
                        have H9 : Hid (V = ((z : Int), true)) := Lib.hid (by rw [← H5.out]; unfold run1; rw [if_neg hz, hzz]; rfl)
                        rw [hzz] at hz
                        have HZ := Lib.hid hzz
                        have hz2 : ((z : Int) == ((m + 2 : Nat) : Int)) = false := by simp; omega
                        have hz3 : ((z : Int) == (m : Int) + 2) = false := by simp; omega
                        clear hz hzz
                        go_wp2_with (go_at_call 77; refine (rdigits_any (m + 2) s w hs (by omega)).mono ?_; rintro e w' ⟨rfl, rfl⟩; rw [HZ.out])
                        go_ret2
                        exact ⟨ret_pair (by rw [H9.out]; exact ⟨rfl, rfl⟩), rfl⟩
                    · have hb2 : (ch s (m + 1) == 43 || ch s (m + 1) == 45) = false := by simpa using h2
                      have H5 : Hid (numP (run1 s (m + 1)) = V) := Lib.hid (by rw [← H4.out, if_neg h2])
                      rw [hb2] at hv
                      subst hv
                      clear h2 hb2
                      by_cases hz : digits s (m + 1) = m + 1
                      · have H9 : Hid (V = (((m + 1 : Nat) : Int), false)) := Lib.hid (by rw [← H5.out]; unfold run1; rw [if_pos hz]; rfl)
                        have HZ := Lib.hid hz
                        clear hz
                        go_wp2_with (go_at_call 77; refine (rdigits_any (m + 1) s w hs (by omega)).mono ?_; rintro e w' ⟨rfl, rfl⟩; rw [HZ.out])
                        go_ret2
                        exact ⟨ret_pair (by rw [H9.out]; exact ⟨rfl, rfl⟩), rfl⟩
                      · obtain ⟨z, hzz⟩ : ∃ z, digits s (m + 1) = z := ⟨_, rfl⟩
                        have H9 : Hid (V = ((z : Int), true)) := Lib.hid (by rw [← H5.out]; unfold run1; rw [if_neg hz, hzz]; rfl)
                        rw [hzz] at hz
                        have HZ := Lib.hid hzz
                        have hz2 : ((z : Int) == ((m + 1 : Nat) : Int)) = false := by simp; omega
                        have hz3 : ((z : Int) == (m : Int) + 1) = false := by simp; omega
                        clear hz hzz
                        go_wp2_with (go_at_call 77; refine (rdigits_any (m + 1) s w hs (by omega)).mono ?_; rintro e w' ⟨rfl, rfl⟩; rw [HZ.out])
                        go_ret2
                        exact ⟨ret_pair (by rw [H9.out]; exact ⟨rfl, rfl⟩), rfl⟩
                · have hb : (ch s m == 101 || ch s m == 69) = false := by simpa using h
                  have H4 : Hid (V = ((m : Int), true)) := Lib.hid (by rw [← H3.out]; unfold numExp; rw [if_neg h]; rfl)
                  rw [hb] at hv
                  subst hv
                  clear h hb
                  go_wp2_with fail
                  go_ret2
                  exact ⟨ret_pair (by rw [H4.out]; exact ⟨rfl, rfl⟩), rfl⟩
end Go.Proofs.YtlbilofnbhhmjaaDoor
