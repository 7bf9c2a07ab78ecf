/- The reference's reader: fail, next, blanks, begins, digits, number, word. The reference's reader: four, Encoded. The reference's reader: Encoded. The reference's reader: sign. The reference's reader: escape. -/
import Derived.Test.YtlbilofnbhhmjaaDoorParse
namespace Go.Proofs.YtlbilofnbhhmjaaDoor
section
open Go.RowKit
set_option linter.unusedVariables false
set_option linter.unusedSimpArgs false
/-- Block b is the reference's reader of s, at a place, with an error. -/
def Sc (w : World) (b : Nat) (s : ByteArray) (i : Nat) (e : Int) : Prop := Row w b 61 [.string s, .int .i64 (i : Int), .int .i64 e]
theorem Sc.s {w : World} {b i : Nat} {e : Int} {s : ByteArray} (h : Sc w b s i e) : w.cell? ⟨b, 0, none⟩ = some (.string s) := Row.at_ h rfl
theorem Sc.i {w : World} {b i : Nat} {e : Int} {s : ByteArray} (h : Sc w b s i e) : w.cell? ⟨b, 1, none⟩ = some (.int .i64 (i : Int)) := Row.at_ h rfl
theorem Sc.e {w : World} {b i : Nat} {e : Int} {s : ByteArray} (h : Sc w b s i e) : w.cell? ⟨b, 2, none⟩ = some (.int .i64 e) := Row.at_ h rfl
theorem Sc.free {w : World} {b i : Nat} {e : Int} {s : ByteArray} (h : Sc w b s i e) (j : Nat) : w.frozen? ⟨b, j, none⟩ = false := Row.frozen h j
theorem Sc.grown {w w' : World} {b i : Nat} {e : Int} {s : ByteArray} {row : Option Nat} (h : Sc w b s i e) (hg : w.grownBy w' row) (hne : some b ≠ row) : Sc w' b s i e := Row.grown h hg hne
theorem Sc.set {w : World} {b i : Nat} {e : Int} {s : ByteArray} (h : Sc w b s i e) (j : Nat) : Sc (w.setCell ⟨b, 1, none⟩ (.int .i64 (j : Int))) b s j e := Row.set h 1 _
theorem Sc.err {w : World} {b i : Nat} {e : Int} {s : ByteArray} (h : Sc w b s i e) (j : Int) : Sc (w.setCell ⟨b, 2, none⟩ (.int .i64 j)) b s i j := Row.set h 2 _
theorem Sc.drewN {w : World} {b i : Nat} {e : Int} {s : ByteArray} (h : Sc w b s i e) (n : Nat) : Sc (w.drewN n) b s i e := h
theorem Sc.lt {w : World} {b i : Nat} {e : Int} {s : ByteArray} (h : Sc w b s i e) : b < w.heap.size := Row.lt h
/-- What a method of the reference's reader does that reads something. -/
def RDoes {α : Type} (r : R α) (val : α → Value) (bad : Value → Prop) (b : Nat) (s : ByteArray) (w : World) (e : Ending) (w' : World) : Prop :=
  w.grownBy w' (some b) ∧ match r with
    | .ok a j => e = .returned (val a) ∧ Sc w' b s j 0
    | .no j er => (∃ v, bad v ∧ e = .returned v) ∧ Sc w' b s j er ∧ er ≠ 0
theorem RDoes.ok {α : Type} {r : R α} {val : α → Value} {bad : Value → Prop} {b : Nat} {s : ByteArray} {w w' : World} {e : Ending} (h : RDoes r val bad b s w e w') {a : α} {j : Nat} (hr : r = .ok a j) :
    e = .returned (val a) ∧ Sc w' b s j 0 ∧ w.grownBy w' (some b) := by subst hr; exact ⟨h.2.1, h.2.2, h.1⟩
theorem RDoes.no {α : Type} {r : R α} {val : α → Value} {bad : Value → Prop} {b : Nat} {s : ByteArray} {w w' : World} {e : Ending} (h : RDoes r val bad b s w e w') {er : Int} {j : Nat} (hr : r = .no j er) :
    ∃ v, e = .returned v ∧ bad v ∧ Sc w' b s j er ∧ er ≠ 0 ∧ w.grownBy w' (some b) := by subst hr; obtain ⟨h1, ⟨v, h2, h3⟩, h4, h5⟩ := h; exact ⟨v, h3, h2, h4, h5, h1⟩
set_option maxHeartbeats 800000 in
theorem rfail_any (b i j : Nat) (e0 er : Int) (s : ByteArray) (w : World) (hr : Sc w b s i e0) :
    Calls Tryd.prog 37 #[.pointer (some ⟨b, 0, none⟩), .int .i64 (j : Int), .int .i64 er] w fun e w' => e = .returned (.tuple #[]) ∧ Sc w' b s j er ∧ w.grownBy w' (some b) := by
  have Hr := Lib.hid hr
  have c1 := hr.i
  have d1 := hr.free 1
  have c2 := hr.e
  have d2 := hr.free 2
  clear hr
  go_enter Tryd.func37, Tryd.ntmps37
  go_wp2
  go_end0
  exact ⟨rfl, (Hr.out.set j).err er, grown_set (grown_set (grown_refl _ _) (.inl rfl) _ _) (.inl rfl) _ _⟩
set_option maxHeartbeats 400000 in
theorem rdigit_any (c : Int) (w : World) : Calls Tryd.prog 74 #[.int .u8 c] w fun en w' => en = .returned (.bool (digitB c)) ∧ w = w' := by
  go_enter Tryd.func74, Tryd.ntmps74
  go_wp2
  all_goals go_ret
  · exact ⟨ret_bool (by simp [digitB]; omega), rfl⟩
  · exact ⟨ret_bool (by simp [digitB]; omega), rfl⟩
set_option maxHeartbeats 800000 in
theorem rbegins_any (c : Int) (w : World) : Calls Tryd.prog 52 #[.int .u8 c] w fun en w' => en = .returned (.bool (beginsB c)) ∧ w = w' := by
  go_enter Tryd.func52, Tryd.ntmps52
  go_wp2_with (go_at_call 74; refine (rdigit_any c w).mono ?_; rintro e w' ⟨rfl, rfl⟩)
  all_goals go_ret
  all_goals exact ⟨ret_bool (by simp_all [beginsB]), rfl⟩
set_option maxHeartbeats 800000 in
theorem rnext_q (b i : Nat) (e0 : Int) (s : ByteArray) (w : World) (hr : Sc w b s i e0) (hs : s.size ≤ 1099511627776) (hi : i ≤ 2199023255552) :
    Calls Tryd.prog 51 #[.pointer (some ⟨b, 0, none⟩)] w fun e w' => e = .returned (.int .u8 (ch s i)) ∧ ∃ m, w' = w.drewN m := by
  have c0 := hr.s
  have c1 := hr.i
  by_cases hlt : i < s.size
  · have Hc := Lib.hid (ch_in hlt)
    go_enter Tryd.func51, Tryd.ntmps51
    go_wp2
    go_quiet (fail)
    go_wp2
    go_quiet (fail)
    go_wp2
    go_ret
    exact ⟨ret_num Hc.out.symm, _, World.drewN_drewN _ _ _⟩
  · have Hc := Lib.hid (ch_out (s := s) (i := i) (by omega))
    go_enter Tryd.func51, Tryd.ntmps51
    go_wp2
    go_quiet (fail)
    go_wp2
    go_ret
    exact ⟨ret_num Hc.out.symm, _, rfl⟩
theorem rnext_any (b i : Nat) (e0 : Int) (s : ByteArray) (w : World) (hr : Sc w b s i e0) (hs : s.size ≤ 1099511627776) (hi : i ≤ 2199023255552) :
    Calls Tryd.prog 51 #[.pointer (some ⟨b, 0, none⟩)] w fun e w' => e = .returned (.int .u8 (ch s i)) ∧ w.grownBy w' none :=
  (rnext_q b i e0 s w hr hs hi).mono fun e w' ⟨h1, m, h2⟩ => ⟨h1, by rw [h2]; exact grown_drewN (grown_refl _ _) m⟩
set_option maxHeartbeats 1600000 in
theorem rblanks_any (b i : Nat) (e0 : Int) (s : ByteArray) (w : World) (hr : Sc w b s i e0) (hs : s.size ≤ 1099511627776) (hi : i ≤ s.size) :
    Calls Tryd.prog 35 #[.pointer (some ⟨b, 0, none⟩)] w fun e w' => e = .returned (.tuple #[]) ∧ Sc w' b s (skip s i) e0 ∧ w.grownBy w' (some b) := by
  have Hr := Lib.hid hr
  clear hr
  go_enter Tryd.func35, Tryd.ntmps35
  go_wp2_with fail
  go_loopg [] (s.size - i) (fun d wr => ∃ k, k ≤ s.size ∧ d = s.size - k ∧ Hid (skip s i = skip s k) ∧ Hid (Sc wr b s k e0) ∧ Hid (w.grownBy wr (some b)))
  case atStart => exact ⟨i, hi, rfl, Lib.hid rfl, Hr, Lib.hid (grown_refl _ _)⟩
  case round =>
    obtain ⟨k, hk, rfl, Hsk, HR, HG⟩ := hrel
    by_cases hb : blankB (ch s k) = true
    · have hlt := ch_pos (s := s) (i := k) (fun e => by rw [e] at hb; cases hb)
      have Hst := Lib.hid (skip_blank hb)
      obtain ⟨c, hc⟩ : ∃ c, ch s k = c := ⟨_, rfl⟩
      rw [hc] at hb
      have Hc := Lib.hid hc
      clear hc
      rcases blank_true hb with rfl | rfl | rfl | rfl
      all_goals
        clear hb
        go_wp2_with (first
          | (have _ := w3; go_at_call 51; refine (rnext_any b k e0 s w3 HR3.out hs (by omega)).mono ?_; rintro e w4 ⟨rfl, hg1⟩; rw [Hc.out]; have HR4 := Lib.hid (HR3.out.grown hg1 (by simp)); have Hg4 := Lib.hid (grown_trans Hg3.out hg1); have c2 := HR4.out.i; have d2 := HR4.out.free 1; clear hg1)
          | (have _ := w2; go_at_call 51; refine (rnext_any b k e0 s w2 HR2.out hs (by omega)).mono ?_; rintro e w3 ⟨rfl, hg1⟩; rw [Hc.out]; have HR3 := Lib.hid (HR2.out.grown hg1 (by simp)); have Hg3 := Lib.hid (grown_trans Hg2.out hg1); have c2 := HR3.out.i; have d2 := HR3.out.free 1; clear hg1)
          | (have _ := w1; go_at_call 51; refine (rnext_any b k e0 s w1 HR1.out hs (by omega)).mono ?_; rintro e w2 ⟨rfl, hg1⟩; rw [Hc.out]; have HR2 := Lib.hid (HR1.out.grown hg1 (by simp)); have Hg2 := Lib.hid (grown_trans Hg1.out hg1); have c2 := HR2.out.i; have d2 := HR2.out.free 1; clear hg1)
          | (go_at_call 51; refine (rnext_any b k e0 s wr HR.out hs (by omega)).mono ?_; rintro e w1 ⟨rfl, hg1⟩; rw [Hc.out]; have HR1 := Lib.hid (HR.out.grown hg1 (by simp)); have Hg1 := Lib.hid hg1; have c2 := HR1.out.i; have d2 := HR1.out.free 1; clear hg1))
        go_roundg (s.size - (k + 1))
        case measure => omega
        case rel =>
          first
            | exact ⟨k + 1, by omega, rfl, Lib.hid (by rw [Hsk.out, Hst.out]), Lib.hid (HR4.out.set (k + 1)), Lib.hid (grown_set (grown_trans HG.out (grown_none Hg4.out _)) (.inl rfl) _ _)⟩
            | exact ⟨k + 1, by omega, rfl, Lib.hid (by rw [Hsk.out, Hst.out]), Lib.hid (HR3.out.set (k + 1)), Lib.hid (grown_set (grown_trans HG.out (grown_none Hg3.out _)) (.inl rfl) _ _)⟩
            | exact ⟨k + 1, by omega, rfl, Lib.hid (by rw [Hsk.out, Hst.out]), Lib.hid (HR2.out.set (k + 1)), Lib.hid (grown_set (grown_trans HG.out (grown_none Hg2.out _)) (.inl rfl) _ _)⟩
            | exact ⟨k + 1, by omega, rfl, Lib.hid (by rw [Hsk.out, Hst.out]), Lib.hid (HR1.out.set (k + 1)), Lib.hid (grown_set (grown_trans HG.out (grown_none Hg1.out _)) (.inl rfl) _ _)⟩
    · have hb' : blankB (ch s k) = false := by simpa using hb
      obtain ⟨h1, h2, h3, h4⟩ := blank_cases hb'
      have Hst := Lib.hid (skip_stop hb')
      obtain ⟨c, hc⟩ : ∃ c, ch s k = c := ⟨_, rfl⟩
      rw [hc] at h1 h2 h3 h4
      have Hc := Lib.hid hc
      clear hb hb' hc
      go_wp2_with (first
        | (have _ := w3; go_at_call 51; refine (rnext_any b k e0 s w3 HR3.out hs (by omega)).mono ?_; rintro e w4 ⟨rfl, hg1⟩; rw [Hc.out]; have HR4 := Lib.hid (HR3.out.grown hg1 (by simp)); have Hg4 := Lib.hid (grown_trans Hg3.out hg1); clear hg1)
        | (have _ := w2; go_at_call 51; refine (rnext_any b k e0 s w2 HR2.out hs (by omega)).mono ?_; rintro e w3 ⟨rfl, hg1⟩; rw [Hc.out]; have HR3 := Lib.hid (HR2.out.grown hg1 (by simp)); have Hg3 := Lib.hid (grown_trans Hg2.out hg1); clear hg1)
        | (have _ := w1; go_at_call 51; refine (rnext_any b k e0 s w1 HR1.out hs (by omega)).mono ?_; rintro e w2 ⟨rfl, hg1⟩; rw [Hc.out]; have HR2 := Lib.hid (HR1.out.grown hg1 (by simp)); have Hg2 := Lib.hid (grown_trans Hg1.out hg1); clear hg1)
        | (go_at_call 51; refine (rnext_any b k e0 s wr HR.out hs (by omega)).mono ?_; rintro e w1 ⟨rfl, hg1⟩; rw [Hc.out]; have HR1 := Lib.hid (HR.out.grown hg1 (by simp)); have Hg1 := Lib.hid hg1; clear hg1))
      go_end0
      exact ⟨rfl, by rw [Hsk.out, Hst.out]; exact HR4.out, grown_trans HG.out (grown_none Hg4.out _)⟩
set_option maxHeartbeats 1600000 in
theorem rdigits_any (i : Nat) (s : ByteArray) (w : World) (hs : s.size ≤ 1099511627776) (hi : i ≤ s.size) :
    Calls Tryd.prog 77 #[.string s, .int .i64 i] w fun e w' => e = .returned (.int .i64 (digits s i : Nat)) ∧ w = w' := by
  go_enter Tryd.func77, Tryd.ntmps77
  go_wp2_with fail
  go_loop [1] (fun v => ∃ k : Nat, i ≤ k ∧ k ≤ s.size ∧ v = .int .i64 k ∧ Hid (digits s i = digits s k)) (fun v => s.size - (intOf v).toNat)
  case atStart => exact ⟨i, Nat.le_refl _, hi, rfl, Lib.hid rfl⟩
  case round =>
    obtain ⟨k, hik, hk, rfl, Hd⟩ := hrel
    by_cases hlt : k < s.size
    · have hc := (ch_in hlt).symm
      by_cases hb : digitB (ch s k) = true
      · have Hg := Lib.hid (digits_go hb)
        go_wp2_with (go_at_call 74; refine (rdigit_any (ch s k) w).mono ?_; rintro e w' ⟨rfl, rfl⟩)
        go_round
        case rel => exact ⟨k + 1, by omega, by omega, by go_num, Lib.hid (by rw [Hd.out, Hg.out])⟩
        case measure => simp [intOf]; omega
      · have hb' : digitB (ch s k) = false := by simpa using hb
        have Hg := Lib.hid (digits_stop hb')
        clear hb
        go_wp2_with (go_at_call 74; refine (rdigit_any (ch s k) w).mono ?_; rintro e w' ⟨rfl, rfl⟩)
        go_ret
        exact ⟨ret_num (by rw [Hd.out, Hg.out]), rfl⟩
    · have hb' : digitB (ch s k) = false := by rw [ch_out (by omega)]; rfl
      have Hg := Lib.hid (digits_stop hb')
      clear hb'
      go_wp2_with fail
      go_ret
      exact ⟨ret_num (by rw [Hd.out, Hg.out]), rfl⟩
set_option maxHeartbeats 1600000 in
theorem rword_any (b i : Nat) (s wd : ByteArray) (w : World) (hr : Sc w b s i 0) (hs : s.size ≤ 1099511627776) (hi : i ≤ s.size) (hw : wd.size ≤ 1000) (hz : ∀ k, k < wd.size → ch wd k ≠ 0) :
    Calls Tryd.prog 56 #[.pointer (some ⟨b, 0, none⟩), .string wd] w (RDoes (word s wd i) (fun _ => .tuple #[]) (fun v => v = .tuple #[]) b s w) := by
  obtain ⟨RES, hR⟩ : ∃ r, word s wd i = r := ⟨_, rfl⟩
  rw [hR]
  have HR := Lib.hid hR
  have Hr := Lib.hid hr
  have HZ := Lib.hid hz
  clear hR hr hz
  go_enter Tryd.func56, Tryd.ntmps56
  go_wp2_with fail
  go_loopw [4] (fun v wr => ∃ k : Nat, k ≤ wd.size ∧ i + k ≤ s.size ∧ v = .int .i64 k ∧ Hid (wordAt s wd (wd.size - k) (i + k) = RES) ∧ Hid (Sc wr b s (i + k) 0) ∧ Hid (w.grownBy wr (some b))) (fun v _ => wd.size - (intOf v).toNat)
  case atStart => exact ⟨0, by omega, hi, rfl, HR, Hr, Lib.hid (grown_refl _ _)⟩
  case round =>
    obtain ⟨k, hk, hik, rfl, Hw, Hrd, HG⟩ := hrel
    by_cases hlt : k < wd.size
    · have hc := (ch_in hlt).symm
      have HS : Hid ((if ch s (i + k) = ch wd k then wordAt s wd (wd.size - (k + 1)) (i + k + 1) else .no (i + k) 130) = RES) := Lib.hid (by
        rw [← Hw.out, show wd.size - k = (wd.size - (k + 1)) + 1 by omega, wordAt, show wd.size - (wd.size - (k + 1) + 1) = k by omega])
      by_cases he : ch s (i + k) = ch wd k
      · have hb : (ch s (i + k) != ch wd k) = false := by simp [he]
        have hlt2 : i + k < s.size := ch_pos (by rw [he]; exact HZ.out k hlt)
        have HS2 : Hid (wordAt s wd (wd.size - (k + 1)) (i + k + 1) = RES) := Lib.hid (by rw [← HS.out, if_pos he])
        clear he
        go_wp2_with fail
        go_quiet ((go_at_call 51; exact Calls.quiet_of (rnext_q b (i + k) 0 s _ (Hrd.out.drewN _) hs (by omega))))
        have Hrd1 := Lib.hid (Hrd.out.drewN nq)
        have HG1 := Lib.hid (grown_drewN HG.out nq)
        generalize hw1 : wr.drewN nq = w1 at Hrd1 HG1
        clear hw1
        have c1 := Hrd1.out.i
        have d1 := Hrd1.out.free 1
        have e1 : (((i + k : Nat) : Int)) + 1 = ((i + k + 1 : Nat) : Int) := by omega
        go_wp2_with fail
        go_roundw
        case rel => exact ⟨k + 1, by omega, by omega, by go_num, HS2, Lib.hid (Hrd1.out.set (i + k + 1)), Lib.hid (grown_set HG1.out (.inl rfl) _ _)⟩
        case measure => simp [intOf]; omega
      · have hb : (ch s (i + k) != ch wd k) = true := by simpa using he
        have HS2 : Hid (R.no (i + k) 130 = RES) := Lib.hid (by rw [← HS.out, if_neg he])
        clear he
        go_wp2_with fail
        go_quiet ((go_at_call 51; exact Calls.quiet_of (rnext_q b (i + k) 0 s _ (Hrd.out.drewN _) hs (by omega))))
        have Hrd1 := Lib.hid (Hrd.out.drewN nq)
        have HG1 := Lib.hid (grown_drewN HG.out nq)
        generalize hw1 : wr.drewN nq = w1 at Hrd1 HG1
        clear hw1
        have c1 := Hrd1.out.i
        go_wp2_with (go_at_call 37; refine (rfail_any b (i + k) (i + k) 0 130 s w1 Hrd1.out).mono ?_; rintro e w2 ⟨rfl, hsc, hg2⟩; have Hsc := Lib.hid hsc; have HG2 := Lib.hid (grown_trans HG1.out hg2); clear hsc hg2)
        first | go_end0 | refine bodyPost_ret (results_none rfl _ _ _) rfl ?_
        rw [← HS2.out]
        exact ⟨HG2.out, ⟨_, rfl, rfl⟩, Hsc.out, by decide⟩
    · have HS2 : Hid (R.ok () (i + k) = RES) := Lib.hid (by rw [← Hw.out, show wd.size - k = 0 by omega]; rfl)
      go_wp2_with fail
      go_end0
      rw [← HS2.out]
      exact ⟨HG.out, rfl, Hrd.out⟩
/-- How the reference tells where a number ends. -/
def numP : R Unit → Int × Bool
  | .ok _ j => (j, true)
  | .no j _ => (j, false)
theorem ret_pair {a c : Int} {p q : Bool} (h : a = c ∧ p = q) : Ending.returned (.tuple #[.int .i64 a, .bool p]) = .returned (.tuple #[.int .i64 c, .bool q]) := by rw [h.1, h.2]
theorem digits_ok {s : ByteArray} {k : Nat} (h : digitB (ch s k) = true) : run1 s k = .ok () (digits s k) := by
  have h1 := digits_go h
  have := digits_ge s (k + 1)
  unfold run1; rw [if_neg (by omega)]
theorem digits_no {s : ByteArray} {k : Nat} (h : digitB (ch s k) = false) : run1 s k = .no k 130 := by
  unfold run1; rw [if_pos (digits_stop h)]
set_option maxHeartbeats 6400000 in
set_option maxRecDepth 100000 in
theorem rnumber_any (i : Nat) (s : ByteArray) (w : World) (hs : s.size ≤ 1099511627776) (hi : i ≤ s.size) :
    Calls Tryd.prog 57 #[.string s, .int .i64 i] w fun e w' => e = .returned (.tuple #[.int .i64 (numP (num s i)).1, .bool (numP (num s i)).2]) ∧ w = w' := by
  obtain ⟨V, hV⟩ : ∃ V, numP (num s i) = V := ⟨_, rfl⟩
  rw [hV]
  have HV := Lib.hid hV
  clear hV
  go_enter Tryd.func57, Tryd.ntmps57
  go_upto_region 1 with fail
  go_cut [1, 18] (fun a v wx => a = .int .i64 i ∧ v = .bool (ch s i == 45) ∧ w = wx)
  case first =>
    by_cases hlt : i < s.size
    · have hc := (ch_in hlt).symm
      go_wp2_with fail
      go_meet
      case rel => exact ⟨rfl, rfl, rfl⟩
    · have hc : (ch s i == 45) = false := by rw [ch_out (by omega)]; rfl
      go_wp2_with fail
      go_meet
      case rel => exact ⟨rfl, by rw [hc], rfl⟩
  case rest =>
    obtain ⟨rfl, rfl, rfl⟩ := hcut
    go_upto_if 18 with fail
    go_cut [1] (fun v wx => ∃ k : Nat, k ≤ s.size ∧ v = .int .i64 k ∧ Hid (numP (numInt s k) = V) ∧ w = wx)
    case first =>
      by_cases h : ch s i = 45
      · have hlt := ch_pos (s := s) (i := i) (by omega)
        have H1 : Hid (numP (numInt s (i + 1)) = V) := Lib.hid (by rw [← HV.out]; unfold num; rw [if_pos h])
        go_wp2_with fail
        go_meet
        case rel => exact ⟨i + 1, by omega, by go_num, H1, rfl⟩
      · have H1 : Hid (numP (numInt s i) = V) := Lib.hid (by rw [← HV.out]; unfold num; rw [if_neg h])
        go_wp2_with fail
        go_meet
        case rel => exact ⟨i, by omega, rfl, H1, rfl⟩
    case rest =>
      obtain ⟨k, hk, rfl, H1, rfl⟩ := hcut
      clear HV
      cases hd : digitB (ch s k) with
      | false =>
        have h48 : ¬ ch s k = 48 := fun e => by rw [e] at hd; cases hd
        have H2 : Hid (V = ((k : Int), false)) := Lib.hid (by rw [← H1.out]; unfold numInt; rw [if_neg h48, digits_no hd]; rfl)
        by_cases hlt : k < s.size
        · have hc := (ch_in hlt).symm
          have hne : ((k : Int) == (s.size : Int)) = false := by simp; omega
          go_wp2_with (go_at_call 74; refine (rdigit_any (ch s k) w).mono ?_; rintro e w' ⟨rfl, rfl⟩)
          go_ret2
          exact ⟨ret_pair (by rw [H2.out]; exact ⟨rfl, rfl⟩), rfl⟩
        · have hne : ((k : Int) == (s.size : Int)) = true := by simp; omega
          go_wp2_with (go_at_call 74; refine (rdigit_any (ch s k) w).mono ?_; rintro e w' ⟨rfl, rfl⟩)
          go_ret2
          exact ⟨ret_pair (by rw [H2.out]; exact ⟨rfl, rfl⟩), rfl⟩
      | true =>
        have hlt : k < s.size := ch_pos (s := s) (i := k) (fun e => by rw [e] at hd; cases hd)
        have hc := (ch_in hlt).symm
        have hne : ((k : Int) == (s.size : Int)) = false := by simp; omega
        go_upto_if 36 with (go_at_call 74; refine (rdigit_any (ch s k) w).mono ?_; rintro e w' ⟨rfl, rfl⟩)
        go_cut [1] (fun v wx => ∃ j : Nat, j ≤ s.size ∧ v = .int .i64 j ∧ Hid (numP (numFrac s j) = V) ∧ w = wx)
        case first =>
          by_cases h : ch s k = 48
          · have h' : (ch s k == 48) = true := by simpa using h
            have H2 : Hid (numP (numFrac s (k + 1)) = V) := Lib.hid (by rw [← H1.out]; unfold numInt; rw [if_pos h])
            clear h
            go_wp2_with fail
            go_meet
            case rel => exact ⟨k + 1, by omega, by go_num, H2, rfl⟩
          · have h' : (ch s k == 48) = false := by simpa using h
            have H2 : Hid (numP (numFrac s (digits s k)) = V) := Lib.hid (by rw [← H1.out]; unfold numInt; rw [if_neg h, digits_ok hd])
            have hj := digits_le (s := s) hk
            obtain ⟨j, hjj⟩ : ∃ j, digits s k = j := ⟨_, rfl⟩
            rw [hjj] at H2 hj
            have HJ := Lib.hid hjj
            clear h hjj
            go_wp2_with (go_at_call 77; refine (rdigits_any k s w hs hk).mono ?_; rintro e w' ⟨rfl, rfl⟩; rw [HJ.out])
            go_meet
            case rel => exact ⟨j, hj, rfl, H2, rfl⟩
        case rest =>
          obtain ⟨j, hj, rfl, H2, rfl⟩ := hcut
          clear H1 hd hne hc hlt hk
          go_upto_region 8 with fail
          go_cut [1, 51] (fun a v wx => a = .int .i64 j ∧ v = .bool (ch s j == 46) ∧ w = wx)
          case first =>
            by_cases hlt : j < s.size
            · have hc := (ch_in hlt).symm
              go_wp2_with fail
              go_meet
              case rel => exact ⟨rfl, rfl, rfl⟩
            · have hc : (ch s j == 46) = false := by rw [ch_out (by omega)]; rfl
              go_wp2_with fail
              go_meet
              case rel => exact ⟨rfl, by rw [hc], rfl⟩
          case rest =>
            obtain ⟨rfl, rfl, rfl⟩ := hcut
            go_upto_if 51 with fail
            go_cut [1] (fun v wx => ∃ m : Nat, m ≤ s.size ∧ v = .int .i64 m ∧ Hid (numP (numExp s m) = V) ∧ w = wx)
            case first =>
              by_cases h : ch s j = 46
              · have hlt := ch_pos (s := s) (i := j) (by omega)
                obtain ⟨m, hmm⟩ : ∃ m, digits s (j + 1) = m := ⟨_, rfl⟩
                have hm := digits_le (s := s) (i := j + 1) (by omega)
                rw [hmm] at hm
                by_cases hz : m = j + 1
                · have H3 : Hid (V = (((j + 1 : Nat) : Int), false)) := Lib.hid (by rw [← H2.out]; unfold numFrac; rw [if_pos h]; unfold run1; rw [if_pos (by rw [hmm, hz])]; rfl)
                  have HJ := Lib.hid hmm
                  subst hz
                  clear hmm
                  go_wp2_with (go_at_call 77; refine (rdigits_any (j + 1) s w hs (by omega)).mono ?_; rintro e w' ⟨rfl, rfl⟩; rw [HJ.out])
                  go_ret2
                  exact ⟨ret_pair (by rw [H3.out]; exact ⟨rfl, rfl⟩), rfl⟩
                · have H3 : Hid (numP (numExp s m) = V) := Lib.hid (by rw [← H2.out]; unfold numFrac; rw [if_pos h]; unfold run1; rw [if_neg (by rw [hmm]; exact hz), hmm])
                  have hz2 : ((m : Int) == (j : Int) + 1) = false := by simp; omega
                  have HJ := Lib.hid hmm
                  clear hmm hz
                  go_wp2_with (go_at_call 77; refine (rdigits_any (j + 1) s w hs (by omega)).mono ?_; rintro e w' ⟨rfl, rfl⟩; rw [HJ.out])
                  go_meet
                  case rel => exact ⟨m, hm, rfl, H3, rfl⟩
              · have H3 : Hid (numP (numExp s j) = V) := Lib.hid (by rw [← H2.out]; unfold numFrac; rw [if_neg h])
                have h' : (ch s j == 46) = false := by simpa using h
                go_wp2_with fail
                go_meet
                case rel => exact ⟨j, hj, rfl, H3, rfl⟩
            case rest =>
              obtain ⟨m, hm, rfl, H3, rfl⟩ := hcut
              clear H2 hj
              go_upto_region 13 with fail
              go_cut [1, 77] (fun a v wx => a = .int .i64 m ∧ v = .bool (ch s m == 101 || ch s m == 69) ∧ w = wx)
              case first =>
                by_cases hlt : m < s.size
                · have hc := (ch_in hlt).symm
                  by_cases h : ch s m = 101
                  · rw [h] at hc
                    have hh : (ch s m == 101 || ch s m == 69) = true := by rw [h]; rfl
                    clear h
                    go_wp2_with fail
                    go_meet
                    case rel => exact ⟨rfl, by rw [hh], rfl⟩
                  · have h' : (ch s m == 101) = false := by simpa using h
                    clear h
                    go_wp2_with fail
                    go_meet
                    case rel => exact ⟨rfl, by rw [h']; rfl, rfl⟩
                · have hc : (ch s m == 101 || ch s m == 69) = false := by rw [ch_out (by omega)]; rfl
                  go_wp2_with fail
                  go_meet
                  case rel => exact ⟨rfl, by rw [hc], rfl⟩
              case rest =>
                obtain ⟨rfl, hv, rfl⟩ := hcut
                by_cases h : ch s m = 101 ∨ ch s m = 69
                · have hlt := ch_pos (s := s) (i := m) (by omega)
                  have hb : (ch s m == 101 || ch s m == 69) = true := by simpa using h
                  have H4 : Hid (numP (run1 s (if ch s (m + 1) = 43 ∨ ch s (m + 1) = 45 then m + 2 else m + 1)) = V) := Lib.hid (by rw [← H3.out]; unfold numExp; rw [if_pos h])
                  rw [hb] at hv
                  subst hv
                  clear h hb
                  go_upto_region 15 with fail
                  go_cut [7, 95] (fun a v wx => a = .int .i64 ((m + 1 : Nat) : Int) ∧ v = .bool (ch s (m + 1) == 43 || ch s (m + 1) == 45) ∧ w = wx)
                  case first =>
                    by_cases hlt2 : m + 1 < s.size
                    · have hc := (ch_in hlt2).symm
                      by_cases h : ch s (m + 1) = 43
                      · rw [h] at hc
                        have hh : (ch s (m + 1) == 43 || ch s (m + 1) == 45) = true := by rw [h]; rfl
                        clear h
                        go_wp2_with fail
                        go_meet
                        case rel => exact ⟨by go_num, by rw [hh], rfl⟩
                      · have h' : (ch s (m + 1) == 43) = false := by simpa using h
                        clear h
                        go_wp2_with fail
                        go_meet
                        case rel => exact ⟨by go_num, by rw [h']; rfl, rfl⟩
                    · have hc : (ch s (m + 1) == 43 || ch s (m + 1) == 45) = false := by rw [ch_out (by omega)]; rfl
                      go_wp2_with fail
                      go_meet
                      case rel => exact ⟨by go_num, by rw [hc], rfl⟩
                  case rest =>
                    obtain ⟨rfl, hv, rfl⟩ := hcut
                    by_cases h2 : ch s (m + 1) = 43 ∨ ch s (m + 1) = 45
                    · have hlt2 := ch_pos (s := s) (i := m + 1) (by omega)
                      have hb2 : (ch s (m + 1) == 43 || ch s (m + 1) == 45) = true := by simpa using h2
                      have H5 : Hid (numP (run1 s (m + 2)) = V) := Lib.hid (by rw [← H4.out, if_pos h2])
                      rw [hb2] at hv
                      subst hv
                      clear h2 hb2
                      by_cases hz : digits s (m + 2) = m + 2
                      · have H9 : Hid (V = (((m + 2 : Nat) : Int), false)) := Lib.hid (by rw [← H5.out]; unfold run1; rw [if_pos hz]; rfl)
                        have HZ := Lib.hid hz
                        clear hz
                        go_wp2_with (go_at_call 77; refine (rdigits_any (m + 2) s w hs (by omega)).mono ?_; rintro e w' ⟨rfl, rfl⟩; rw [HZ.out])
                        go_ret2
                        exact ⟨ret_pair (by rw [H9.out]; exact ⟨rfl, rfl⟩), rfl⟩
                      · obtain ⟨z, hzz⟩ : ∃ z, digits s (m + 2) = z := ⟨_, rfl⟩
                        have H9 : Hid (V = ((z : Int), true)) := Lib.hid (by rw [← H5.out]; unfold run1; rw [if_neg hz, hzz]; rfl)
                        rw [hzz] at hz
                        have HZ := Lib.hid hzz
                        have hz2 : ((z : Int) == ((m + 2 : Nat) : Int)) = false := by simp; omega
                        have hz3 : ((z : Int) == (m : Int) + 2) = false := by simp; omega
                        clear hz hzz
                        go_wp2_with (go_at_call 77; refine (rdigits_any (m + 2) s w hs (by omega)).mono ?_; rintro e w' ⟨rfl, rfl⟩; rw [HZ.out])
                        go_ret2
                        exact ⟨ret_pair (by rw [H9.out]; exact ⟨rfl, rfl⟩), rfl⟩
                    · have hb2 : (ch s (m + 1) == 43 || ch s (m + 1) == 45) = false := by simpa using h2
                      have H5 : Hid (numP (run1 s (m + 1)) = V) := Lib.hid (by rw [← H4.out, if_neg h2])
                      rw [hb2] at hv
                      subst hv
                      clear h2 hb2
                      by_cases hz : digits s (m + 1) = m + 1
                      · have H9 : Hid (V = (((m + 1 : Nat) : Int), false)) := Lib.hid (by rw [← H5.out]; unfold run1; rw [if_pos hz]; rfl)
                        have HZ := Lib.hid hz
                        clear hz
                        go_wp2_with (go_at_call 77; refine (rdigits_any (m + 1) s w hs (by omega)).mono ?_; rintro e w' ⟨rfl, rfl⟩; rw [HZ.out])
                        go_ret2
                        exact ⟨ret_pair (by rw [H9.out]; exact ⟨rfl, rfl⟩), rfl⟩
                      · obtain ⟨z, hzz⟩ : ∃ z, digits s (m + 1) = z := ⟨_, rfl⟩
                        have H9 : Hid (V = ((z : Int), true)) := Lib.hid (by rw [← H5.out]; unfold run1; rw [if_neg hz, hzz]; rfl)
                        rw [hzz] at hz
                        have HZ := Lib.hid hzz
                        have hz2 : ((z : Int) == ((m + 1 : Nat) : Int)) = false := by simp; omega
                        have hz3 : ((z : Int) == (m : Int) + 1) = false := by simp; omega
                        clear hz hzz
                        go_wp2_with (go_at_call 77; refine (rdigits_any (m + 1) s w hs (by omega)).mono ?_; rintro e w' ⟨rfl, rfl⟩; rw [HZ.out])
                        go_ret2
                        exact ⟨ret_pair (by rw [H9.out]; exact ⟨rfl, rfl⟩), rfl⟩
                · have hb : (ch s m == 101 || ch s m == 69) = false := by simpa using h
                  have H4 : Hid (V = ((m : Int), true)) := Lib.hid (by rw [← H3.out]; unfold numExp; rw [if_neg h]; rfl)
                  rw [hb] at hv
                  subst hv
                  clear h hb
                  go_wp2_with fail
                  go_ret2
                  exact ⟨ret_pair (by rw [H4.out]; exact ⟨rfl, rfl⟩), rfl⟩
end
section
open Go.RowKit
set_option linter.unusedVariables false
set_option linter.unusedSimpArgs false
/-- What four does: the reader stays, or fails. -/
def RFour (r : R Int) (i b : Nat) (s : ByteArray) (w : World) (e : Ending) (w' : World) : Prop :=
  w.grownBy w' (some b) ∧ match r with
    | .ok v j => e = .returned (.int .i64 v) ∧ Sc w' b s i 0
    | .no j er => e = .returned (.int .i64 0) ∧ Sc w' b s j er ∧ er ≠ 0
theorem RFour.ok {r : R Int} {i b : Nat} {s : ByteArray} {w w' : World} {e : Ending} (h : RFour r i b s w e w') {v : Int} {j : Nat} (hr : r = .ok v j) :
    e = .returned (.int .i64 v) ∧ Sc w' b s i 0 ∧ w.grownBy w' (some b) := by subst hr; exact ⟨h.2.1, h.2.2, h.1⟩
theorem RFour.no {r : R Int} {i b : Nat} {s : ByteArray} {w w' : World} {e : Ending} (h : RFour r i b s w e w') {er : Int} {j : Nat} (hr : r = .no j er) :
    e = .returned (.int .i64 0) ∧ Sc w' b s j er ∧ er ≠ 0 ∧ w.grownBy w' (some b) := by subst hr; exact ⟨h.2.1, h.2.2.1, h.2.2.2, h.1⟩
set_option maxHeartbeats 3200000 in
set_option maxRecDepth 100000 in
theorem rfour_any (b i a : Nat) (s : ByteArray) (w : World) (hr : Sc w b s i 0) (hs : s.size ≤ 1099511627776) (ha : a ≤ s.size) :
    Calls Tryd.prog 115 #[.pointer (some ⟨b, 0, none⟩), .int .i64 (a : Int)] w (RFour (four s a) i b s w) := by
  obtain ⟨RES, hR⟩ : ∃ r, four s a = r := ⟨_, rfl⟩
  rw [hR]
  have HR := Lib.hid hR
  have Hr := Lib.hid hr
  have c0 := hr.s
  clear hR hr
  go_enter Tryd.func115, Tryd.ntmps115
  go_wp2_with fail
  go_loop [5, 6] (fun x v => ∃ (k : Nat) (n : Int), k ≤ 4 ∧ a + k ≤ s.size ∧ 0 ≤ n ∧ Hid (n < 16 ^ k) ∧ x = .int .i64 n ∧ v = .int .i64 k ∧ Hid (fourN s (4 - k) n (a + k) = RES)) (fun _ v => 4 - (intOf v).toNat)
  case atStart => exact ⟨0, 0, by omega, ha, by omega, Lib.hid (by decide), rfl, rfl, HR⟩
  case round =>
    obtain ⟨k, n, hk, hik, hn, Hn, rfl, rfl, Hw⟩ := hrel
    by_cases hlt : k < 4
    · obtain ⟨p, hp⟩ : ∃ p, a + k = p := ⟨_, rfl⟩
      have hwa : IntKind.i64.wrap ((a : Int) + (k : Int)) = (p : Int) := by rw [IntWalk.i64_in _ (by omega)]; omega
      obtain ⟨c, hc⟩ : ∃ c, ch s p = c := ⟨_, rfl⟩
      have hcr := ch_range s p
      rw [hc] at hcr
      have hn4 : n ≤ 4095 := by
        have := Hn.out
        have h16 : (16 : Int) ^ k ≤ 16 ^ 3 := by
          match k, hlt with
          | 0, _ | 1, _ | 2, _ | 3, _ => decide
        omega
      have HS : Hid (∀ d, hexv c = some d → fourN s (4 - (k + 1)) (16 * n + d) (a + (k + 1)) = RES) := Lib.hid (fun d hd => by
        rw [← Hw.out, show 4 - k = (4 - (k + 1)) + 1 by omega, fourN, hp, hc, hd, ← hp]; rfl)
      have HN : Hid (hexv c = none → R.no p 130 = RES) := Lib.hid (fun hd => by
        rw [← Hw.out, show 4 - k = (4 - (k + 1)) + 1 by omega, fourN, hp, hc, hd])
      have Hlt : Hid (∀ d, hexv c = some d → p < s.size ∧ Hid (16 * n + d < 16 ^ (k + 1))) := Lib.hid (fun d hd => by
        obtain ⟨hd0, hd1, hd2⟩ := hexv_range hd
        refine ⟨ch_pos (by rw [hc]; exact hd2), Lib.hid ?_⟩
        have := Hn.out
        rw [Int.pow_succ]; omega)
      obtain ⟨hc0, hc255⟩ := hcr
      have hm1 : IntKind.i64.wrap (16 * n) = 16 * n := IntWalk.i64_in _ (by omega)
      by_cases hl2 : p < s.size
      · have hcs : ((s[p]'hl2).toNat : Int) = c := by rw [← hc]; exact (ch_in hl2).symm
        have hl3 : (p : Int) < (s.size : Int) := by omega
        have HPk := Lib.hid hp
        clear hc hp
        by_cases h1 : 48 ≤ c ∧ c ≤ 57
        · have hd : digitB c = true := by simp [digitB]; omega
          have h1' := h1.1
          have h1'' := h1.2
          have Hh := Lib.hid (hexv_digit h1' h1'')
          have hm2 : IntKind.u8.wrap (c - 48) = c - 48 := IntWalk.u8_in _ (by omega)
          have hm3 : IntKind.i64.wrap (c - 48) = c - 48 := IntWalk.i64_in _ (by omega)
          have hm4 : IntKind.i64.wrap (16 * n + (c - 48)) = 16 * n + (c - 48) := IntWalk.i64_in _ (by omega)
          clear h1
          go_wp2_with (first
            | (go_at_call 74; refine (rdigit_any c w).mono ?_; rintro e w2 ⟨rfl, rfl⟩; rw [hd]))
          go_round
          case rel =>
            obtain ⟨h3, h4⟩ := Hlt.out _ Hh.out
            exact ⟨k + 1, 16 * n + (c - 48), by omega, by have := HPk.out; omega, by omega, h4, by first | rfl | rw [hm4], by go_num, Lib.hid (HS.out _ Hh.out)⟩
          case measure => simp [intOf]; omega
        · have hd : digitB c = false := by simp [digitB]; omega
          by_cases h2 : 97 ≤ c ∧ c ≤ 102
          · have h2' := h2.1
            have h2'' := h2.2
            have Hh := Lib.hid (hexv_small h2' h2'')
            have hm2 : IntKind.u8.wrap (c - 97) = c - 97 := IntWalk.u8_in _ (by omega)
            have hm3 : IntKind.i64.wrap (c - 97) = c - 97 := IntWalk.i64_in _ (by omega)
            have hm4 : IntKind.i64.wrap (16 * n + (c - 97)) = 16 * n + (c - 97) := IntWalk.i64_in _ (by omega)
            have hm5 : IntKind.i64.wrap (16 * n + (c - 97) + 10) = 16 * n + (c - 87) := by rw [IntWalk.i64_in _ (by omega)]; omega
            clear h1 h2
            go_wp2_with (first
              | (go_at_call 74; refine (rdigit_any c w).mono ?_; rintro e w2 ⟨rfl, rfl⟩; rw [hd]))
            go_round
            case rel =>
              obtain ⟨h3, h4⟩ := Hlt.out _ Hh.out
              exact ⟨k + 1, 16 * n + (c - 87), by omega, by have := HPk.out; omega, by omega, h4, by first | rfl | rw [hm5], by go_num, Lib.hid (HS.out _ Hh.out)⟩
            case measure => simp [intOf]; omega
          · by_cases h3 : 65 ≤ c ∧ c ≤ 70
            · have h3' := h3.1
              have h3'' := h3.2
              have h97 : ¬ 97 ≤ c := by omega
              have Hh := Lib.hid (hexv_great h3' h3'')
              have hm2 : IntKind.u8.wrap (c - 65) = c - 65 := IntWalk.u8_in _ (by omega)
              have hm3 : IntKind.i64.wrap (c - 65) = c - 65 := IntWalk.i64_in _ (by omega)
              have hm4 : IntKind.i64.wrap (16 * n + (c - 65)) = 16 * n + (c - 65) := IntWalk.i64_in _ (by omega)
              have hm5 : IntKind.i64.wrap (16 * n + (c - 65) + 10) = 16 * n + (c - 55) := by rw [IntWalk.i64_in _ (by omega)]; omega
              clear h1 h2 h3
              go_wp2_with (first
                | (go_at_call 74; refine (rdigit_any c w).mono ?_; rintro e w2 ⟨rfl, rfl⟩; rw [hd]))
              go_round
              case rel =>
                obtain ⟨h3, h4⟩ := Hlt.out _ Hh.out
                exact ⟨k + 1, 16 * n + (c - 55), by omega, by have := HPk.out; omega, by omega, h4, by first | rfl | rw [hm5], by go_num, Lib.hid (HS.out _ Hh.out)⟩
              case measure => simp [intOf]; omega
            · have HS2 := Lib.hid (HN.out (hexv_none (by omega) (by omega) (by omega)))
              by_cases h97 : 97 ≤ c
              · have h102 : ¬ c ≤ 102 := by omega
                have h65 : 65 ≤ c := by omega
                have h70 : ¬ c ≤ 70 := by omega
                clear h1 h2 h3
                go_wp2_with (first
                  | (go_at_call 74; refine (rdigit_any c w).mono ?_; rintro e w2 ⟨rfl, rfl⟩; rw [hd])
                  | (go_at_call 37; refine (rfail_any b i p 0 130 s w Hr.out).mono ?_; rintro e w2 ⟨rfl, hsc, hg2⟩; have Hsc := Lib.hid hsc; have HG2 := Lib.hid hg2; clear hsc hg2))
                go_ret
                rw [← HS2.out]
                exact ⟨HG2.out, rfl, Hsc.out, by decide⟩
              · by_cases h65 : 65 ≤ c
                · have h70 : ¬ c ≤ 70 := by omega
                  clear h1 h2 h3
                  go_wp2_with (first
                    | (go_at_call 74; refine (rdigit_any c w).mono ?_; rintro e w2 ⟨rfl, rfl⟩; rw [hd])
                    | (go_at_call 37; refine (rfail_any b i p 0 130 s w Hr.out).mono ?_; rintro e w2 ⟨rfl, hsc, hg2⟩; have Hsc := Lib.hid hsc; have HG2 := Lib.hid hg2; clear hsc hg2))
                  go_ret
                  rw [← HS2.out]
                  exact ⟨HG2.out, rfl, Hsc.out, by decide⟩
                · clear h1 h2 h3
                  go_wp2_with (first
                    | (go_at_call 74; refine (rdigit_any c w).mono ?_; rintro e w2 ⟨rfl, rfl⟩; rw [hd])
                    | (go_at_call 37; refine (rfail_any b i p 0 130 s w Hr.out).mono ?_; rintro e w2 ⟨rfl, hsc, hg2⟩; have Hsc := Lib.hid hsc; have HG2 := Lib.hid hg2; clear hsc hg2))
                  go_ret
                  rw [← HS2.out]
                  exact ⟨HG2.out, rfl, Hsc.out, by decide⟩
      · have hl3 : ¬ (p : Int) < (s.size : Int) := by omega
        have h0 : c = 0 := by rw [← hc]; exact ch_out (by omega)
        have HS2 := Lib.hid (HN.out (by rw [h0]; decide))
        subst h0
        have hd : digitB 0 = false := by decide
        clear hc hp hl2
        go_wp2_with (first
          | (go_at_call 74; refine (rdigit_any 0 w).mono ?_; rintro e w2 ⟨rfl, rfl⟩; rw [hd])
          | (go_at_call 37; refine (rfail_any b i p 0 130 s w Hr.out).mono ?_; rintro e w2 ⟨rfl, hsc, hg2⟩; have Hsc := Lib.hid hsc; have HG2 := Lib.hid hg2; clear hsc hg2))
        go_ret
        rw [← HS2.out]
        exact ⟨HG2.out, rfl, Hsc.out, by decide⟩
    · have hk4 : k = 4 := by omega
      subst hk4
      have HS2 : Hid (R.ok n (a + 4) = RES) := Lib.hid (by rw [← Hw.out]; rfl)
      go_wp2_with fail
      go_ret
      rw [← HS2.out]
      exact ⟨grown_refl _ _, rfl, Hr.out⟩
end
section
open Go.RowKit
set_option linter.unusedVariables false
set_option linter.unusedSimpArgs false
/-- New bytes in a block of their own. -/
def NewBytes (l : List Int) (w : World) (e : Ending) (w' : World) : Prop :=
  e = .returned (.slice (some ⟨w.heap.size, 0, none⟩) l.length l.length) ∧ Row w' w.heap.size 5 (l.map (Value.int .u8)) ∧ w.grownBy w' none
set_option maxHeartbeats 3200000 in
set_option maxRecDepth 100000 in
theorem rencoded_any (v : Int) (w : World) (h0 : 0 ≤ v) (h1 : v ≤ 1114111) (hs : v < 55296 ∨ 57343 < v) :
    Calls Tryd.prog 116 #[.int .i64 v] w (NewBytes (Lib.encodeRuneZ v) w) := by
  have q1 : IntKind.i64.wrap (v.tdiv 64) = v / 64 := IntWalk.i64_quo v 64 ⟨h0, by omega, by omega⟩
  have q2 : IntKind.i64.wrap (v.tdiv 4096) = v / 4096 := IntWalk.i64_quo v 4096 ⟨h0, by omega, by omega⟩
  have q3 : IntKind.i64.wrap (v.tdiv 262144) = v / 262144 := IntWalk.i64_quo v 262144 ⟨h0, by omega, by omega⟩
  have r1 : v.tmod 64 = v % 64 := IntWalk.rem_in v 64 h0
  have r2 : (v / 64).tmod 64 = v / 64 % 64 := IntWalk.rem_in _ 64 (by omega)
  have r3 : (v / 4096).tmod 64 = v / 4096 % 64 := IntWalk.rem_in _ 64 (by omega)
  have hm : 0 ≤ v % 64 ∧ v % 64 ≤ 63 := by omega
  have hm2 : 0 ≤ v / 64 % 64 ∧ v / 64 % 64 ≤ 63 := by omega
  have hm3 : 0 ≤ v / 4096 % 64 ∧ v / 4096 % 64 ≤ 63 := by omega
  by_cases k1 : v < 128
  · have HE := Lib.hid (Lib.encodeRuneZ_one h0 (by omega))
    have hw1 : IntKind.u8.wrap v = v := IntWalk.u8_in _ (by omega)
    go_enter Tryd.func116, Tryd.ntmps116
    go_wp2
    go_ret
    rw [HE.out]
    exact ⟨rfl, Row.new w [.int .u8 v] 5, (grown_new w _).1⟩
  · by_cases k2 : v < 2048
    · have HE := Lib.hid (Lib.encodeRuneZ_two (r := v) (by omega) (by omega))
      go_enter Tryd.func116, Tryd.ntmps116
      go_wp2
      go_ret
      rw [HE.out]
      exact ⟨rfl, Row.new w [.int .u8 (192 + v / 64), .int .u8 (128 + v % 64)] 5, (grown_new w _).1⟩
    · by_cases k3 : v < 65536
      · have HE := Lib.hid (Lib.encodeRuneZ_three (r := v) (by omega))
        go_enter Tryd.func116, Tryd.ntmps116
        go_wp2
        go_ret
        rw [HE.out]
        exact ⟨rfl, Row.new w [.int .u8 (224 + v / 4096), .int .u8 (128 + v / 64 % 64), .int .u8 (128 + v % 64)] 5, (grown_new w _).1⟩
      · have HE := Lib.hid (Lib.encodeRuneZ_four (r := v) (by omega) h1)
        go_enter Tryd.func116, Tryd.ntmps116
        go_wp2
        go_ret
        rw [HE.out]
        exact ⟨rfl, Row.new w [.int .u8 (240 + v / 262144), .int .u8 (128 + v / 4096 % 64), .int .u8 (128 + v / 64 % 64), .int .u8 (128 + v % 64)] 5, (grown_new w _).1⟩
/-- What the reference's escapes hand out: bytes in new memory, the reader behind the escape; or a failure. -/
def REsc (r : R Int) (b : Nat) (s : ByteArray) (w : World) (e : Ending) (w' : World) : Prop :=
  w.grownBy w' (some b) ∧ match r with
    | .ok v j => (∃ g, w.heap.size ≤ g ∧ e = .returned (.slice (some ⟨g, 0, none⟩) (Lib.encodeRuneZ v).length (Lib.encodeRuneZ v).length) ∧ Row w' g 5 ((Lib.encodeRuneZ v).map (Value.int .u8))) ∧ Sc w' b s j 0
    | .no j er => e = .returned (.slice none 0 0) ∧ Sc w' b s j er ∧ er ≠ 0
theorem REsc.ok {r : R Int} {b : Nat} {s : ByteArray} {w w' : World} {e : Ending} (h : REsc r b s w e w') {v : Int} {j : Nat} (hr : r = .ok v j) :
    ∃ g, e = .returned (.slice (some ⟨g, 0, none⟩) (Lib.encodeRuneZ v).length (Lib.encodeRuneZ v).length) ∧ w.heap.size ≤ g ∧ Row w' g 5 ((Lib.encodeRuneZ v).map (Value.int .u8)) ∧ Sc w' b s j 0 ∧ w.grownBy w' (some b) := by
  subst hr; obtain ⟨h1, ⟨g, h2, h3, h4⟩, h5⟩ := h; exact ⟨g, h3, h2, h4, h5, h1⟩
theorem REsc.no {r : R Int} {b : Nat} {s : ByteArray} {w w' : World} {e : Ending} (h : REsc r b s w e w') {er : Int} {j : Nat} (hr : r = .no j er) :
    e = .returned (.slice none 0 0) ∧ Sc w' b s j er ∧ er ≠ 0 ∧ w.grownBy w' (some b) := by subst hr; exact ⟨h.2.1, h.2.2.1, h.2.2.2, h.1⟩
end
section
open Go.RowKit
set_option linter.unusedVariables false
set_option linter.unusedSimpArgs false
theorem ret_sl {g h n : Nat} (e : g = h) : Ending.returned (.slice (some ⟨g, 0, none⟩) n n) = .returned (.slice (some ⟨h, 0, none⟩) n n) := by rw [e]
theorem ret_nil {a : Value} (e : a = .slice none 0 0) : Ending.returned a = .returned (.slice none 0 0) := by rw [e]
set_option maxHeartbeats 400000 in
set_option maxRecDepth 100000 in
theorem rsign_no (b i j p2 : Nat) (e : Int) (s : ByteArray) (w : World) (RES : R Int) (HS : Hid (R.no j e = RES)) (Hr : Hid (Sc w b s p2 0)) (hw2 : IntKind.i64.wrap ((i : Int) + 2) = (p2 : Int)) (hs : s.size ≤ 1099511627776) (Hi : Hid (p2 ≤ s.size)) (Hf : Hid (four s p2 = .no j e)) :
    Calls Tryd.prog 90 #[.pointer (some ⟨b, 0, none⟩), .int .i64 i] w (REsc RES b s w) := by
  go_enter Tryd.func90, Tryd.ntmps90
  go_wp2_with fail
  refine (rfour_any b p2 p2 s w Hr.out hs Hi.out).mono ?_
  intro e1 w1 hd
  obtain ⟨rfl, hsc, hne, hg⟩ := hd.no Hf.out
  have Hg := Lib.hid hg; have Hsc := Lib.hid hsc; have c2 := hsc.e
  have hne2 : (e != 0) = true := by simpa using hne
  have Hne := Lib.hid hne
  clear hg hd hsc hne
  go_wp2_with fail
  go_ret
  rw [← HS.out]
  exact ⟨Hg.out, rfl, Hsc.out, Hne.out⟩
set_option maxHeartbeats 12800000 in
set_option maxRecDepth 100000 in
theorem rsign_any (b i : Nat) (s : ByteArray) (w : World) (hr : Sc w b s (i + 2) 0) (hs : s.size ≤ 1099511627776) (hi : i + 2 ≤ s.size) :
    Calls Tryd.prog 90 #[.pointer (some ⟨b, 0, none⟩), .int .i64 i] w (REsc (signOf s i) b s w) := by
  obtain ⟨RES, hR⟩ : ∃ r, signOf s i = r := ⟨_, rfl⟩
  rw [hR]
  obtain ⟨p2, hp2⟩ : ∃ p, i + 2 = p := ⟨_, rfl⟩
  have hw2 : IntKind.i64.wrap ((i : Int) + 2) = (p2 : Int) := by rw [IntWalk.i64_in _ (by omega)]; omega
  rw [hp2] at hr hi
  have Hr := Lib.hid hr
  have Hi := Lib.hid hi
  have HIle : Hid (i ≤ 1099511627776) := Lib.hid (by omega)
  have HP2 := Lib.hid hp2
  clear hi hp2
  cases hf : four s p2 with
  | no j e =>
    have HS : Hid (R.no j e = RES) := Lib.hid (by rw [← hR]; unfold signOf; rw [HP2.out, hf])
    have Hf := Lib.hid hf
    clear hR hr hf
    exact rsign_no b i j p2 e s w RES HS Hr hw2 hs Hi Hf
  | ok v j =>
    obtain ⟨hj, hjs, hv0, hv1⟩ := four_ok hf
    have hjs' := hjs Hi.out
    have Hf := Lib.hid hf
    have his := signIs (i := i) (j := j) (v := v) (by rw [HP2.out]; exact hf)
    rw [hR] at his
    have HPj : Hid (j = i + 6) := Lib.hid (by have := HP2.out; omega)
    have hw6 : IntKind.i64.wrap ((i : Int) + 6) = (j : Int) := by have := HPj.out; have := HIle.out; rw [IntWalk.i64_in _ (by omega)]; omega
    have Hjs := Lib.hid hjs'
    clear hjs'
    have HI := Lib.hid his
    clear hR hr hf hj hjs his
    go_enter Tryd.func90, Tryd.ntmps90
    go_upto_region 5 with (go_at_call 115; refine (rfour_any b p2 p2 s w Hr.out hs Hi.out).mono ?_; intro e1 w1 hd; obtain ⟨rfl, hsc, hg⟩ := hd.ok Hf.out; have Hg := Lib.hid hg; have Hs1 := Lib.hid hsc; have c0 := hsc.s; have c1 := hsc.i; have d1 := hsc.free 1; have c2 := hsc.e; clear hg hd hsc)
    by_cases h1 : v < 55296
    · have hx : True := trivial
      go_wp2_with (first
        | (have _ := w1; go_at_call 116; refine (rencoded_any v _ hv0 (by omega) (by omega)).mono ?_; rintro e w2 ⟨rfl, hrow, hg⟩; have Hrow := Lib.hid hrow; have HG2 := Lib.hid hg; clear hrow hg))
      go_ret
      rw [HI.out.plain (.inl h1)]
      have hg1 := grown_set Hg.out (.inl rfl) 1 (.int .i64 (j : Int))
      exact ⟨grown_trans hg1 (grown_none HG2.out _), ⟨_, hg1.size, ret_sl (by simp), Hrow.out⟩, (Hs1.out.set j).grown HG2.out (by simp)⟩
    · by_cases h2 : 57343 < v
      · have hx : True := trivial
        go_wp2_with (first
          | (have _ := w1; go_at_call 116; refine (rencoded_any v _ hv0 (by omega) (by omega)).mono ?_; rintro e w2 ⟨rfl, hrow, hg⟩; have Hrow := Lib.hid hrow; have HG2 := Lib.hid hg; clear hrow hg))
        go_ret
        rw [HI.out.plain (.inr h2)]
        have hg1 := grown_set Hg.out (.inl rfl) 1 (.int .i64 (j : Int))
        exact ⟨grown_trans hg1 (grown_none HG2.out _), ⟨_, hg1.size, ret_sl (by simp), Hrow.out⟩, (Hs1.out.set j).grown HG2.out (by simp)⟩
      · have h1' : 55296 ≤ v := by omega
        have h2' : v ≤ 57343 := by omega
        clear h1 h2
        by_cases h3 : 56319 < v
        · have hx : True := trivial
          go_wp2_with (first
            | (have _ := w1; go_at_call 37; refine (rfail_any b j i 0 131 s _ (Hs1.out.set j)).mono ?_; rintro e w2 ⟨rfl, hsc, hg⟩; have Hsc := Lib.hid hsc; have HG2 := Lib.hid (grown_trans (grown_set Hg.out (.inl rfl) 1 (.int .i64 (j : Int))) hg); clear hsc hg))
          go_ret
          rw [HI.out.half h1' h2' (.inl h3)]
          exact ⟨HG2.out, rfl, Hsc.out, by decide⟩
        · have h3' : v ≤ 56319 := by omega
          clear h3
          obtain ⟨p7, hp7⟩ : ∃ p, j + 1 = p := ⟨_, rfl⟩
          have hw7 : IntKind.i64.wrap ((i : Int) + 7) = (p7 : Int) := by have := HPj.out; have := HIle.out; rw [IntWalk.i64_in _ (by omega)]; omega
          have HP7 := Lib.hid hp7
          by_cases h4 : p7 < s.size
          · have h4' : (p7 : Int) < (s.size : Int) := by omega
            have h4j : j < s.size := by omega
            have hc6 := (ch_in (s := s) (i := j) h4j).symm
            have hc7 := (ch_in (s := s) (i := p7) h4).symm
            obtain ⟨p8, hp8⟩ : ∃ p, j + 2 = p := ⟨_, rfl⟩
            have hw8 : IntKind.i64.wrap ((i : Int) + 8) = (p8 : Int) := by have := HPj.out; have := HIle.out; rw [IntWalk.i64_in _ (by omega)]; omega
            have H8 : Hid (p8 ≤ s.size) := Lib.hid (by omega)
            have HP8 := Lib.hid hp8
            clear hp7 hp8
            by_cases h6 : ch s j = 92
            · by_cases h7 : ch s p7 = 117
              · have H6 := Lib.hid h6
                have H7 : Hid (ch s (j + 1) = 117) := Lib.hid (by rw [HP7.out]; exact h7)
                rw [h6] at hc6
                rw [h7] at hc7
                clear h6 h7
                cases hf2 : four s p8 with
                | no k e =>
                  have Hf2 : Hid (four s p8 = R.no k e) := Lib.hid hf2
                  clear hf2
                  go_wp2_with fail
                  refine (rfour_any b j p8 s _ (Hs1.out.set j) hs H8.out).mono ?_
                  intro e1 w2 hd
                  obtain ⟨rfl, hsc, hne, hg⟩ := hd.no Hf2.out
                  have Hg2 := Lib.hid (grown_trans (grown_set Hg.out (.inl rfl) 1 (.int .i64 (j : Int))) hg); have Hs2 := Lib.hid hsc; have c3 := hsc.e
                  have hne2 : (e != 0) = true := by simpa using hne
                  have Hne := Lib.hid hne
                  clear hg hd hsc hne
                  go_wp2_with fail
                  go_ret
                  rw [HI.out.bad h1' h3' H6.out H7.out _ _ (by rw [HP8.out]; exact Hf2.out)]
                  exact ⟨Hg2.out, rfl, Hs2.out, Hne.out⟩
                | ok u k =>
                  obtain ⟨hk, _, hu0, hu1⟩ := four_ok hf2
                  have hw12 : IntKind.i64.wrap ((i : Int) + 12) = (k : Int) := by have := HPj.out; have := HP8.out; have := HIle.out; rw [IntWalk.i64_in _ (by omega)]; omega
                  have Hf2 : Hid (four s p8 = R.ok u k) := Lib.hid hf2
                  clear hf2 hk
                  by_cases hu2 : u < 56320
                  · have hx : True := trivial
                    go_wp2_with (first
                      | (have _ := w2; go_at_call 37; refine (rfail_any b j i 0 131 s _ Hs2.out).mono ?_; rintro e w3 ⟨rfl, hsc, hg⟩; have Hsc := Lib.hid hsc; have HG3 := Lib.hid (grown_trans Hg2.out hg); clear hsc hg)
                      | (have _ := w1; go_at_call 115; refine (rfour_any b j p8 s _ (Hs1.out.set j) hs H8.out).mono ?_; intro e1 w2 hd; obtain ⟨rfl, hsc, hg⟩ := hd.ok Hf2.out; have Hg2 := Lib.hid (grown_trans (grown_set Hg.out (.inl rfl) 1 (.int .i64 (j : Int))) hg); have Hs2 := Lib.hid hsc; have c0 := hsc.s; have c1 := hsc.i; have d1 := hsc.free 1; have c2 := hsc.e; clear hg hd hsc))
                    go_ret
                    rw [HI.out.two h1' h3' H6.out H7.out _ _ (by rw [HP8.out]; exact Hf2.out), if_pos (.inl hu2)]
                    exact ⟨HG3.out, rfl, Hsc.out, by decide⟩
                  · by_cases hu3 : 57343 < u
                    · have hx : True := trivial
                      go_wp2_with (first
                        | (have _ := w2; go_at_call 37; refine (rfail_any b j i 0 131 s _ Hs2.out).mono ?_; rintro e w3 ⟨rfl, hsc, hg⟩; have Hsc := Lib.hid hsc; have HG3 := Lib.hid (grown_trans Hg2.out hg); clear hsc hg)
                        | (have _ := w1; go_at_call 115; refine (rfour_any b j p8 s _ (Hs1.out.set j) hs H8.out).mono ?_; intro e1 w2 hd; obtain ⟨rfl, hsc, hg⟩ := hd.ok Hf2.out; have Hg2 := Lib.hid (grown_trans (grown_set Hg.out (.inl rfl) 1 (.int .i64 (j : Int))) hg); have Hs2 := Lib.hid hsc; have c0 := hsc.s; have c1 := hsc.i; have d1 := hsc.free 1; have c2 := hsc.e; clear hg hd hsc))
                      go_ret
                      rw [HI.out.two h1' h3' H6.out H7.out _ _ (by rw [HP8.out]; exact Hf2.out), if_pos (.inr hu3)]
                      exact ⟨HG3.out, rfl, Hsc.out, by decide⟩
                    · have hV : 65536 + 1024 * (v - 55296) + u - 56320 = 65536 + (v - 55296) * 1024 + (u - 56320) := by omega
                      go_wp2_with (first
                        | (have _ := w2; go_at_call 116; refine (rencoded_any (65536 + (v - 55296) * 1024 + (u - 56320)) _ (by omega) (by omega) (by omega)).mono ?_; rintro e w3 ⟨rfl, hrow, hg⟩; have Hrow := Lib.hid hrow; have HG3 := Lib.hid hg; clear hrow hg)
                        | (have _ := w1; go_at_call 115; refine (rfour_any b j p8 s _ (Hs1.out.set j) hs H8.out).mono ?_; intro e1 w2 hd; obtain ⟨rfl, hsc, hg⟩ := hd.ok Hf2.out; have Hg2 := Lib.hid (grown_trans (grown_set Hg.out (.inl rfl) 1 (.int .i64 (j : Int))) hg); have Hs2 := Lib.hid hsc; have c0 := hsc.s; have c1 := hsc.i; have d1 := hsc.free 1; have c2 := hsc.e; clear hg hd hsc))
                      go_ret
                      rw [HI.out.two h1' h3' H6.out H7.out _ _ (by rw [HP8.out]; exact Hf2.out), if_neg (by omega)]
                      have hg1 := grown_set Hg2.out (.inl rfl) 1 (.int .i64 (k : Int))
                      exact ⟨grown_trans hg1 (grown_none HG3.out _), ⟨_, hg1.size, ret_sl (by simp), Hrow.out⟩, (Hs2.out.set k).grown HG3.out (by simp)⟩
              · have H5 : Hid (56319 < v ∨ ch s j ≠ 92 ∨ ch s (j + 1) ≠ 117) := Lib.hid (.inr (.inr (by rw [HP7.out]; exact h7)))
                have hb7 : (ch s p7 != 117) = true := by simpa using h7
                rw [h6] at hc6
                clear h6 h7
                go_wp2_with (first
                  | (have _ := w1; go_at_call 37; refine (rfail_any b j i 0 131 s _ (Hs1.out.set j)).mono ?_; rintro e w2 ⟨rfl, hsc, hg⟩; have Hsc := Lib.hid hsc; have HG2 := Lib.hid (grown_trans (grown_set Hg.out (.inl rfl) 1 (.int .i64 (j : Int))) hg); clear hsc hg))
                go_ret
                rw [HI.out.half h1' h2' H5.out]
                exact ⟨HG2.out, rfl, Hsc.out, by decide⟩
            · have H5 : Hid (56319 < v ∨ ch s j ≠ 92 ∨ ch s (j + 1) ≠ 117) := Lib.hid (.inr (.inl h6))
              have hb6 : (ch s j != 92) = true := by simpa using h6
              clear h6
              go_wp2_with (first
                | (have _ := w1; go_at_call 37; refine (rfail_any b j i 0 131 s _ (Hs1.out.set j)).mono ?_; rintro e w2 ⟨rfl, hsc, hg⟩; have Hsc := Lib.hid hsc; have HG2 := Lib.hid (grown_trans (grown_set Hg.out (.inl rfl) 1 (.int .i64 (j : Int))) hg); clear hsc hg))
              go_ret
              rw [HI.out.half h1' h2' H5.out]
              exact ⟨HG2.out, rfl, Hsc.out, by decide⟩
          · have h4' : ¬ (p7 : Int) < (s.size : Int) := by omega
            have h4'' : (s.size : Int) ≤ (p7 : Int) := by omega
            have H5 : Hid (56319 < v ∨ ch s j ≠ 92 ∨ ch s (j + 1) ≠ 117) := Lib.hid (.inr (.inr (by rw [ch_out (by omega)]; decide)))
            go_wp2_with (first
              | (have _ := w1; go_at_call 37; refine (rfail_any b j i 0 131 s _ (Hs1.out.set j)).mono ?_; rintro e w2 ⟨rfl, hsc, hg⟩; have Hsc := Lib.hid hsc; have HG2 := Lib.hid (grown_trans (grown_set Hg.out (.inl rfl) 1 (.int .i64 (j : Int))) hg); clear hsc hg))
            go_ret
            rw [HI.out.half h1' h2' H5.out]
            exact ⟨HG2.out, rfl, Hsc.out, by decide⟩
end
section
open Go.RowKit
set_option linter.unusedVariables false
set_option linter.unusedSimpArgs false
theorem esc_one {W w : World} {b j g : Nat} {s : ByteArray} {v : Int} (hgz : g = w.heap.size) (hv0 : 0 ≤ v) (hv1 : v ≤ 127) (hg : W.grownBy w (some b)) (hs : Sc w b s j 0) :
    REsc (.ok v j) b s W (.returned (.slice (some ⟨g, 0, none⟩) 1 1)) (w.alloc (.cells #[.int .u8 v] 5)) := by
  subst hgz
  have he := Lib.encodeRuneZ_one hv0 hv1
  refine ⟨grown_alloc hg _, ⟨w.heap.size, hg.size, ?_, ?_⟩, Row.alloc hs _⟩
  · rw [he]; rfl
  · rw [he]; exact Row.new w [.int .u8 v] 5
set_option maxHeartbeats 6400000 in
set_option maxRecDepth 100000 in
theorem rescape_any (b i : Nat) (s : ByteArray) (w : World) (hr : Sc w b s i 0) (hs : s.size ≤ 1099511627776) (hi : i < s.size) :
    Calls Tryd.prog 76 #[.pointer (some ⟨b, 0, none⟩)] w (REsc (escape s i) b s w) := by
  obtain ⟨RES, hR⟩ : ∃ r, escape s i = r := ⟨_, rfl⟩
  rw [hR]
  have HR := Lib.hid hR
  have Hr := Lib.hid hr
  have c0 := hr.s
  have c1 := hr.i
  have d1 := hr.free 1
  obtain ⟨p1, hp1⟩ : ∃ p, i + 1 = p := ⟨_, rfl⟩
  obtain ⟨p2, hp2⟩ : ∃ p, i + 2 = p := ⟨_, rfl⟩
  have hw1 : IntKind.i64.wrap ((i : Int) + 1) = (p1 : Int) := by rw [IntWalk.i64_in _ (by omega)]; omega
  have hw2 : IntKind.i64.wrap ((i : Int) + 2) = (p2 : Int) := by rw [IntWalk.i64_in _ (by omega)]; omega
  have HP1 := Lib.hid hp1
  have HP2 := Lib.hid hp2
  have Hi := Lib.hid hi
  clear hR hr
  by_cases hend : p1 = s.size
  · have he : ((p1 : Int) == (s.size : Int)) = true := by simp; omega
    have h0 : ch s (i + 1) = 0 := ch_out (by omega)
    have HE : Hid (RES = .no p1 130) := Lib.hid (by rw [← HR.out]; unfold escape; rw [h0, hp1]; rfl)
    clear hp1 hp2 hi hend h0
    go_enter Tryd.func76, Tryd.ntmps76
    go_wp2_with (first
      | (go_at_call 37; refine (rfail_any b i p1 0 130 s w Hr.out).mono ?_; rintro e w2 ⟨rfl, hsc, hg⟩; have Hsc := Lib.hid hsc; have HG2 := Lib.hid hg; clear hsc hg))
    go_ret
    rw [HE.out]
    exact ⟨HG2.out, rfl, Hsc.out, by decide⟩
  · have he : ((p1 : Int) == (s.size : Int)) = false := by simp; omega
    have hlt : p1 < s.size := by omega
    have hl3 : (p1 : Int) < (s.size : Int) := by omega
    obtain ⟨c, hc⟩ : ∃ c, ch s p1 = c := ⟨_, rfl⟩
    have hcs : ((s[p1]'hlt).toNat : Int) = c := by rw [← hc]; exact (ch_in hlt).symm
    have Hc : Hid (ch s (i + 1) = c) := Lib.hid (by rw [hp1]; exact hc)
    have Hp2 : Hid (p2 ≤ s.size) := Lib.hid (by omega)
    have HS : Hid (Sc (w.setCell ⟨b, 1, none⟩ (.int .i64 (p2 : Int))) b s p2 0) := Lib.hid (Hr.out.set p2)
    have HG : Hid (w.grownBy (w.setCell ⟨b, 1, none⟩ (.int .i64 (p2 : Int))) (some b)) := Lib.hid (grown_set (grown_refl _ _) (.inl rfl) _ _)
    have hRE : Hid (escape s i = RES) := HR
    clear hp1 hp2 hi hend hc HR
    go_enter Tryd.func76, Tryd.ntmps76
    go_upto_region 7 with fail
    by_cases h34 : c = 34
    · have HE : Hid (RES = .ok 34 p2) := Lib.hid (by rw [← hRE.out]; unfold escape; rw [Hc.out, h34, HP2.out]; rfl)
      subst h34
      go_wp2_with fail
      go_ret
      rw [HE.out]
      exact esc_one (v := 34) (by simp) (by decide) (by decide) HG.out HS.out
    by_cases h92 : c = 92
    · have HE : Hid (RES = .ok 92 p2) := Lib.hid (by rw [← hRE.out]; unfold escape; rw [Hc.out, h92, HP2.out]; rfl)
      subst h92
      go_wp2_with fail
      go_ret
      rw [HE.out]
      exact esc_one (v := 92) (by simp) (by decide) (by decide) HG.out HS.out
    by_cases h47 : c = 47
    · have HE : Hid (RES = .ok 47 p2) := Lib.hid (by rw [← hRE.out]; unfold escape; rw [Hc.out, h47, HP2.out]; rfl)
      subst h47
      go_wp2_with fail
      go_ret
      rw [HE.out]
      exact esc_one (v := 47) (by simp) (by decide) (by decide) HG.out HS.out
    by_cases h98 : c = 98
    · have HE : Hid (RES = .ok 8 p2) := Lib.hid (by rw [← hRE.out]; unfold escape; rw [Hc.out, h98, HP2.out]; rfl)
      subst h98
      go_wp2_with fail
      go_ret
      rw [HE.out]
      exact esc_one (v := 8) (by simp) (by decide) (by decide) HG.out HS.out
    by_cases h102 : c = 102
    · have HE : Hid (RES = .ok 12 p2) := Lib.hid (by rw [← hRE.out]; unfold escape; rw [Hc.out, h102, HP2.out]; rfl)
      subst h102
      go_wp2_with fail
      go_ret
      rw [HE.out]
      exact esc_one (v := 12) (by simp) (by decide) (by decide) HG.out HS.out
    by_cases h110 : c = 110
    · have HE : Hid (RES = .ok 10 p2) := Lib.hid (by rw [← hRE.out]; unfold escape; rw [Hc.out, h110, HP2.out]; rfl)
      subst h110
      go_wp2_with fail
      go_ret
      rw [HE.out]
      exact esc_one (v := 10) (by simp) (by decide) (by decide) HG.out HS.out
    by_cases h114 : c = 114
    · have HE : Hid (RES = .ok 13 p2) := Lib.hid (by rw [← hRE.out]; unfold escape; rw [Hc.out, h114, HP2.out]; rfl)
      subst h114
      go_wp2_with fail
      go_ret
      rw [HE.out]
      exact esc_one (v := 13) (by simp) (by decide) (by decide) HG.out HS.out
    by_cases h116 : c = 116
    · have HE : Hid (RES = .ok 9 p2) := Lib.hid (by rw [← hRE.out]; unfold escape; rw [Hc.out, h116, HP2.out]; rfl)
      subst h116
      go_wp2_with fail
      go_ret
      rw [HE.out]
      exact esc_one (v := 9) (by simp) (by decide) (by decide) HG.out HS.out
    by_cases h117 : c = 117
    · have HE : Hid (signOf s i = RES) := Lib.hid (by rw [← hRE.out]; unfold escape; rw [Hc.out, h117]; rfl)
      subst h117
      have hsg := rsign_any b i s (w.setCell ⟨b, 1, none⟩ (.int .i64 (p2 : Int))) (by rw [HP2.out]; exact HS.out) hs (by rw [HP2.out]; exact Hp2.out)
      rw [HE.out] at hsg
      have Hsg := Lib.hid hsg
      clear hsg
      cases hres : RES with
      | no j er =>
        have HX := Lib.hid hres
        clear hres
        go_wp2_with (first
          | (go_at_call 90; refine Hsg.out.mono ?_; intro e w2 hd; obtain ⟨rfl, hsc, hne, hg⟩ := hd.no HX.out; have Hsc := Lib.hid hsc; have Hg2 := Lib.hid (grown_trans HG.out hg); have Hne := Lib.hid hne; clear hd hsc hne hg))
        go_ret
        rw [HX.out]
        exact ⟨Hg2.out, rfl, Hsc.out, Hne.out⟩
      | ok v j =>
        have HX := Lib.hid hres
        clear hres
        go_wp2_with (first
          | (go_at_call 90; refine Hsg.out.mono ?_; intro e w2 hd; obtain ⟨g, rfl, hgl, hrow, hsc, hg⟩ := hd.ok HX.out; have Hsc := Lib.hid hsc; have Hrow := Lib.hid hrow; have Hgl : Hid (w.heap.size ≤ g) := Lib.hid (Nat.le_trans HG.out.size hgl); have Hg2 := Lib.hid (grown_trans HG.out hg); clear hd hsc hrow hgl hg))
        go_ret
        rw [HX.out]
        exact ⟨Hg2.out, ⟨g, Hgl.out, rfl, Hrow.out⟩, Hsc.out⟩
    · have HE : Hid (RES = .no p1 130) := Lib.hid (by
        rw [← hRE.out]; unfold escape
        rw [Hc.out, if_neg (by omega), if_neg h98, if_neg h102, if_neg h110, if_neg h114, if_neg h116, if_neg h117, HP1.out])
      have b34 : (c == 34) = false := by simpa using h34
      have b92 : (c == 92) = false := by simpa using h92
      have b47 : (c == 47) = false := by simpa using h47
      have b98 : (c == 98) = false := by simpa using h98
      have b102 : (c == 102) = false := by simpa using h102
      have b110 : (c == 110) = false := by simpa using h110
      have b114 : (c == 114) = false := by simpa using h114
      have b116 : (c == 116) = false := by simpa using h116
      have b117 : (c == 117) = false := by simpa using h117
      clear h34 h92 h47 h98 h102 h110 h114 h116 h117
      go_wp2_with (first
        | (go_at_call 37; refine (rfail_any b p2 p1 0 130 s _ HS.out).mono ?_; rintro e w2 ⟨rfl, hsc, hg⟩; have Hsc := Lib.hid hsc; have HG2 := Lib.hid (grown_trans HG.out hg); clear hsc hg))
      go_ret
      rw [HE.out]
      exact ⟨HG2.out, rfl, Hsc.out, by decide⟩
end
end Go.Proofs.YtlbilofnbhhmjaaDoor
