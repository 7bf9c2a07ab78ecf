/- The reference's reader: a value. -/
import Derived.Test.YtlbilofnbhhmjaaDoorRObj
import Derived.Test.YtlbilofnbhhmjaaDoorRList
import Derived.Test.YtlbilofnbhhmjaaDoorVal
namespace Go.Proofs.YtlbilofnbhhmjaaDoor
open Go.RowKit
set_option linter.unusedVariables false
set_option linter.unusedSimpArgs false
theorem rval_done {W w2 w3 w4 : World} {b j Br : Nat} {s : ByteArray} {v : J} {cs : List Value} {F : List Nat} (h2 : W.grownBy w2 none) (hg : w2.grownBy w3 (some b)) (hsc : Sc w3 b s j 0) (hj : JAt w3 w2.heap.size v cs F) (h4 : w3.grownBy w4 (some Br))
    (hBr : W.heap.size ≤ Br) (hBr2 : Br < w2.heap.size) (hb : b < Br) : RDoesJ (.ok v j) b s W (.returned (.agg cs.toArray)) w4 :=
  ⟨grown_own (grown_trans (grown_none h2 _) hg) h4 (fun x hx => .inr (by have := Option.some.inj hx; omega)), cs, F, rfl,
    (hj.kept h4 (fun g hgm e => by have := (hj.lt g hgm).1; have := Option.some.inj e; omega)).mono h2.size, Sc.grown hsc h4 (by simp; omega)⟩
theorem rval_no {W w2 w3 w4 : World} {b j Br : Nat} {er : Int} {s : ByteArray} {cs : List Value} (h2 : W.grownBy w2 none) (hg : w2.grownBy w3 (some b)) (hsc : Sc w3 b s j er) (hne : er ≠ 0) (h5 : cs.length = 5) (h6 : ∀ u ∈ cs, u.oneCell' = true) (h4 : w3.grownBy w4 (some Br))
    (hBr : W.heap.size ≤ Br) (hb : b < Br) : RDoesJ (.no j er) b s W (.returned (.agg cs.toArray)) w4 :=
  ⟨grown_own (grown_trans (grown_none h2 _) hg) h4 (fun x hx => .inr (by have := Option.some.inj hx; omega)), ⟨cs, rfl, h5, h6⟩, Sc.grown hsc h4 (by simp; omega), hne⟩
set_option maxHeartbeats 12800000 in
set_option maxRecDepth 100000 in
theorem rvalue_zero (b i : Nat) (dep : Int) (s : ByteArray) (w : World) (hr : Sc w b s i 0) (hs : s.size ≤ 1073741824) (hi : i ≤ s.size) (hd : 16 < dep) (hd1 : dep ≤ 1000) :
    Calls Tryd.prog 36 #[.pointer (some ⟨b, 0, none⟩), .int .i64 dep] w (RDoesJ (value s 0 i) b s w) := by
  obtain ⟨RES, hR⟩ : ∃ r, value s 0 i = r := ⟨_, rfl⟩
  rw [hR]
  have HR := Lib.hid hR
  clear hR
  have Hr := Lib.hid hr
  have HZ : Hid (∀ v ∈ zero5, v.oneCell' = true) := Lib.hid (by decide)
  obtain ⟨c, hc⟩ : ∃ c, ch s i = c := ⟨_, rfl⟩
  have Hc := Lib.hid hc
  clear hr hc
  cases hbg : beginsB c with
  | false =>
    have Hbg := Lib.hid hbg
    have HE : Hid (RES = .no i 130) := Lib.hid (by rw [← HR.out]; unfold value; rw [if_neg (by rw [Hc.out, hbg]; simp)])
    clear hbg
    go_enter Tryd.func36, Tryd.ntmps36
    go_upto_region 2 with (first
      | (have _ := w1; go_at_call 51; refine (rnext_any b i 0 s w1 Hr1.out (by omega) (by omega)).mono ?_; rintro e w2 ⟨rfl, hg⟩; rw [Hc.out]; have Hr2 := Lib.hid (Hr1.out.grown hg (by simp)); have HB2 := Lib.hid (Row.grown HB1.out hg (by simp)); have HG2 := Lib.hid (grown_own HG1.out hg (by simp)); have HS2 : Hid (w.heap.size < w2.heap.size) := Lib.hid (Nat.lt_of_lt_of_le HS1.out hg.size); clear hg)
      | (refine wpList_alloc_abs rfl 29 rfl zero5 _ (zero29 _) rfl ?_; intro w1 hr1 hg1 hs1; have HB1 := Lib.hid hr1; have HG1 := Lib.hid hg1; have Hr1 := Lib.hid (Hr.out.grown hg1 (by simp)); have HS1 : Hid (w.heap.size < w1.heap.size) := Lib.hid hr1.lt; clear hr1 hg1 hs1; simp only [Act.put, List.setIfInBounds_toArray, List.set_cons_zero, List.set_cons_succ]))
    obtain ⟨Br, hBr⟩ : ∃ x, w.heap.size = x := ⟨_, rfl⟩
    rw [hBr] at HB2 HS2 ⊢
    have HD : Hid (b < Br ∧ w.heap.size ≤ Br ∧ Br < w2.heap.size) := Lib.hid ⟨by rw [← hBr]; exact Hr.out.lt, by omega, HS2.out⟩
    have c1 := Hr2.out.i
    clear HB1 HG1 Hr1 HS1 hBr HS2
    go_wp2_with (first
      | (have _ := w4; refine wpList_store_Row rfl 29 _ _ rfl Br zero5 rfl rfl 29 zero5 HB4.out size29 rfl HZ.out ?_; intro w20 hr20 hg20 hs20; clear hs20; simp only [Act.put, List.setIfInBounds_toArray, List.set_cons_zero, List.set_cons_succ])
      | (have _ := w2; go_at_call 37; refine (rfail_any b i i 0 130 s w2 Hr2.out).mono ?_; rintro e w4 ⟨rfl, hsc, hg⟩; have Hsc4 := Lib.hid hsc; have HG4 := Lib.hid hg; have HB4 := Lib.hid (Row.grown HB2.out hg (by have := HD.out; simp; omega)); clear hsc hg)
      | (go_at_call 52; refine (rbegins_any c w2).mono ?_; rintro e w3 ⟨rfl, rfl⟩; rw [Hbg.out]))
    refine bodyPost_ret (v := .agg zero5.toArray) (results_cell_row (p := 4) (ty := 29) rfl _ _ Br 29 zero5.toArray (0, 0) _ rfl hr20 Tryd.underlying29 rfl size29) rfl ?_
    rw [HE.out]
    exact rval_no HG2.out HG4.out Hsc4.out (by decide) rfl HZ.out hg20 HD.out.2.1 HD.out.1
  | true =>
    have Hbg := Lib.hid hbg
    have HE : Hid (RES = .no i 133) := Lib.hid (by rw [← HR.out]; unfold value; rw [if_pos (by rw [Hc.out, hbg])])
    clear hbg
    go_enter Tryd.func36, Tryd.ntmps36
    go_upto_region 2 with (first
      | (have _ := w1; go_at_call 51; refine (rnext_any b i 0 s w1 Hr1.out (by omega) (by omega)).mono ?_; rintro e w2 ⟨rfl, hg⟩; rw [Hc.out]; have Hr2 := Lib.hid (Hr1.out.grown hg (by simp)); have HB2 := Lib.hid (Row.grown HB1.out hg (by simp)); have HG2 := Lib.hid (grown_own HG1.out hg (by simp)); have HS2 : Hid (w.heap.size < w2.heap.size) := Lib.hid (Nat.lt_of_lt_of_le HS1.out hg.size); clear hg)
      | (refine wpList_alloc_abs rfl 29 rfl zero5 _ (zero29 _) rfl ?_; intro w1 hr1 hg1 hs1; have HB1 := Lib.hid hr1; have HG1 := Lib.hid hg1; have Hr1 := Lib.hid (Hr.out.grown hg1 (by simp)); have HS1 : Hid (w.heap.size < w1.heap.size) := Lib.hid hr1.lt; clear hr1 hg1 hs1; simp only [Act.put, List.setIfInBounds_toArray, List.set_cons_zero, List.set_cons_succ]))
    obtain ⟨Br, hBr⟩ : ∃ x, w.heap.size = x := ⟨_, rfl⟩
    rw [hBr] at HB2 HS2 ⊢
    have HD : Hid (b < Br ∧ w.heap.size ≤ Br ∧ Br < w2.heap.size) := Lib.hid ⟨by rw [← hBr]; exact Hr.out.lt, by omega, HS2.out⟩
    have c1 := Hr2.out.i
    clear HB1 HG1 Hr1 HS1 hBr HS2
    go_wp2_with (first
      | (have _ := w4; refine wpList_store_Row rfl 29 _ _ rfl Br zero5 rfl rfl 29 zero5 HB4.out size29 rfl HZ.out ?_; intro w20 hr20 hg20 hs20; clear hs20; simp only [Act.put, List.setIfInBounds_toArray, List.set_cons_zero, List.set_cons_succ])
      | (have _ := w2; go_at_call 37; refine (rfail_any b i i 0 133 s w2 Hr2.out).mono ?_; rintro e w4 ⟨rfl, hsc, hg⟩; have Hsc4 := Lib.hid hsc; have HG4 := Lib.hid hg; have HB4 := Lib.hid (Row.grown HB2.out hg (by have := HD.out; simp; omega)); clear hsc hg)
      | (go_at_call 52; refine (rbegins_any c w2).mono ?_; rintro e w3 ⟨rfl, rfl⟩; rw [Hbg.out]))
    refine bodyPost_ret (v := .agg zero5.toArray) (results_cell_row (p := 4) (ty := 29) rfl _ _ Br 29 zero5.toArray (0, 0) _ rfl hr20 Tryd.underlying29 rfl size29) rfl ?_
    rw [HE.out]
    exact rval_no HG2.out HG4.out Hsc4.out (by decide) rfl HZ.out hg20 HD.out.2.1 HD.out.1
set_option maxHeartbeats 12800000 in
set_option maxRecDepth 100000 in
theorem rvalue_step (b i d : Nat) (dep : Int) (s : ByteArray) (w : World) (hV : RValIs s b dep (value s d)) (hr : Sc w b s i 0) (hs : s.size ≤ 1073741824) (hi : i ≤ s.size) (hd0 : 0 ≤ dep) (hd1 : dep ≤ 16) :
    Calls Tryd.prog 36 #[.pointer (some ⟨b, 0, none⟩), .int .i64 dep] w (RDoesJ (value s (d + 1) i) b s w) := by
  obtain ⟨RES, hR⟩ : ∃ r, value s (d + 1) i = r := ⟨_, rfl⟩
  rw [hR]
  have HR := Lib.hid hR
  have HV := Lib.hid hV
  have hd16 : decide (16 < dep) = false := by simpa using hd1
  clear hR hV
  have Hr := Lib.hid hr
  have HZ : Hid (∀ v ∈ zero5, v.oneCell' = true) := Lib.hid (by decide)
  obtain ⟨c, hc⟩ : ∃ c, ch s i = c := ⟨_, rfl⟩
  have Hc := Lib.hid hc
  clear hr hc
  cases hbg : beginsB c with
  | false =>
    have Hbg := Lib.hid hbg
    have HE : Hid (RES = .no i 130) := Lib.hid (by rw [← HR.out]; exact value_begins s _ i (by rw [Hc.out, hbg]))
    clear hbg
    go_enter Tryd.func36, Tryd.ntmps36
    go_upto_region 2 with (first
      | (have _ := w1; go_at_call 51; refine (rnext_any b i 0 s w1 Hr1.out (by omega) (by omega)).mono ?_; rintro e w2 ⟨rfl, hg⟩; rw [Hc.out]; have Hr2 := Lib.hid (Hr1.out.grown hg (by simp)); have HB2 := Lib.hid (Row.grown HB1.out hg (by simp)); have HG2 := Lib.hid (grown_own HG1.out hg (by simp)); have HS2 : Hid (w.heap.size < w2.heap.size) := Lib.hid (Nat.lt_of_lt_of_le HS1.out hg.size); clear hg)
      | (refine wpList_alloc_abs rfl 29 rfl zero5 _ (zero29 _) rfl ?_; intro w1 hr1 hg1 hs1; have HB1 := Lib.hid hr1; have HG1 := Lib.hid hg1; have Hr1 := Lib.hid (Hr.out.grown hg1 (by simp)); have HS1 : Hid (w.heap.size < w1.heap.size) := Lib.hid hr1.lt; clear hr1 hg1 hs1; simp only [Act.put, List.setIfInBounds_toArray, List.set_cons_zero, List.set_cons_succ]))
    obtain ⟨Br, hBr⟩ : ∃ x, w.heap.size = x := ⟨_, rfl⟩
    rw [hBr] at HB2 HS2 ⊢
    have HD : Hid (b < Br ∧ w.heap.size ≤ Br ∧ Br < w2.heap.size) := Lib.hid ⟨by rw [← hBr]; exact Hr.out.lt, by omega, HS2.out⟩
    have c1 := Hr2.out.i
    clear HB1 HG1 Hr1 HS1 hBr HS2
    go_wp2_with (first
      | (have _ := w4; refine wpList_store_Row rfl 29 _ _ rfl Br zero5 rfl rfl 29 zero5 HB4.out size29 rfl HZ.out ?_; intro w20 hr20 hg20 hs20; clear hs20; simp only [Act.put, List.setIfInBounds_toArray, List.set_cons_zero, List.set_cons_succ])
      | (have _ := w2; go_at_call 37; refine (rfail_any b i i 0 130 s w2 Hr2.out).mono ?_; rintro e w4 ⟨rfl, hsc, hg⟩; have Hsc4 := Lib.hid hsc; have HG4 := Lib.hid hg; have HB4 := Lib.hid (Row.grown HB2.out hg (by have := HD.out; simp; omega)); clear hsc hg)
      | (go_at_call 52; refine (rbegins_any c w2).mono ?_; rintro e w3 ⟨rfl, rfl⟩; rw [Hbg.out]))
    refine bodyPost_ret (v := .agg zero5.toArray) (results_cell_row (p := 4) (ty := 29) rfl _ _ Br 29 zero5.toArray (0, 0) _ rfl hr20 Tryd.underlying29 rfl size29) rfl ?_
    rw [HE.out]
    exact rval_no HG2.out HG4.out Hsc4.out (by decide) rfl HZ.out hg20 HD.out.2.1 HD.out.1
  | true =>
    have hlt := ch_pos (s := s) (i := i) (fun e => by rw [Hc.out] at e; rw [e] at hbg; cases hbg)
    have HI : Hid (ValueIs s d i RES) := Lib.hid (by rw [← HR.out]; exact valueIs (by rw [Hc.out, hbg]))
    have Hbg := Lib.hid hbg
    clear hbg HR
    go_enter Tryd.func36, Tryd.ntmps36
    go_upto_region 2 with (first
      | (have _ := w1; go_at_call 51; refine (rnext_any b i 0 s w1 Hr1.out (by omega) (by omega)).mono ?_; rintro e w2 ⟨rfl, hg⟩; rw [Hc.out]; have Hr2 := Lib.hid (Hr1.out.grown hg (by simp)); have HB2 := Lib.hid (Row.grown HB1.out hg (by simp)); have HG2 := Lib.hid (grown_own HG1.out hg (by simp)); have HS2 : Hid (w.heap.size < w2.heap.size) := Lib.hid (Nat.lt_of_lt_of_le HS1.out hg.size); clear hg)
      | (refine wpList_alloc_abs rfl 29 rfl zero5 _ (zero29 _) rfl ?_; intro w1 hr1 hg1 hs1; have HB1 := Lib.hid hr1; have HG1 := Lib.hid hg1; have Hr1 := Lib.hid (Hr.out.grown hg1 (by simp)); have HS1 : Hid (w.heap.size < w1.heap.size) := Lib.hid hr1.lt; clear hr1 hg1 hs1; simp only [Act.put, List.setIfInBounds_toArray, List.set_cons_zero, List.set_cons_succ]))
    obtain ⟨Br, hBr⟩ : ∃ x, w.heap.size = x := ⟨_, rfl⟩
    rw [hBr] at HB2 HS2 ⊢
    have HD : Hid (b < Br ∧ w.heap.size ≤ Br ∧ Br < w2.heap.size) := Lib.hid ⟨by rw [← hBr]; exact Hr.out.lt, by omega, HS2.out⟩
    have c1 := Hr2.out.i
    clear HB1 HG1 Hr1 HS1 hBr HS2
    go_upto_region 8 with (go_at_call 52; refine (rbegins_any c w2).mono ?_; rintro e w3 ⟨rfl, rfl⟩; rw [Hbg.out])
    by_cases h123 : c = 123
    · have HM := Lib.hid (HI.out.obj (by rw [Hc.out]; exact h123))
      subst h123
      cases hm : RES with
      | no j er =>
        have HE := Lib.hid hm
        go_wp2_with (first
          | (have _ := w4; refine wpList_store_Row rfl 29 _ _ rfl Br cs rfl rfl 29 zero5 HB4.out (by rw [h5]; exact size29) (by rw [h5]; rfl) h5c ?_; intro w20 hr20 hg20 hs20; clear hs20; simp only [Act.put, List.setIfInBounds_toArray, List.set_cons_zero, List.set_cons_succ])
          | (go_at_call 53; refine (robject_any b i dep s (value s d) w2 HV.out Hr2.out hs hlt hd0 (by omega)).mono ?_; rw [HM.out]; intro e w4 hd; obtain ⟨cs, rfl, h5, h5c, hsc, hne, hg⟩ := hd.no HE.out; have Hsc4 := Lib.hid hsc; have HG4 := Lib.hid hg; have HB4 := Lib.hid (Row.grown HB2.out hg (by have := HD.out; simp; omega)); clear hd hsc hg))
        refine bodyPost_ret (v := .agg cs.toArray) (results_cell_row (p := 4) (ty := 29) rfl _ _ Br 29 cs.toArray (0, 0) _ rfl hr20 Tryd.underlying29 rfl (by rw [List.size_toArray, h5]; exact size29)) rfl ?_
        rw [HE.out]
        exact rval_no HG2.out HG4.out Hsc4.out hne h5 h5c hg20 HD.out.2.1 HD.out.1
      | ok v j =>
        have HE := Lib.hid hm
        go_wp2_with (first
          | (have _ := w4; refine wpList_store_Row rfl 29 _ _ rfl Br cs rfl rfl 29 zero5 HB4.out (by rw [Hj4.out.five.1]; exact size29) (by rw [Hj4.out.five.1]; rfl) Hj4.out.cells ?_; intro w20 hr20 hg20 hs20; clear hs20; simp only [Act.put, List.setIfInBounds_toArray, List.set_cons_zero, List.set_cons_succ])
          | (go_at_call 53; refine (robject_any b i dep s (value s d) w2 HV.out Hr2.out hs hlt hd0 (by omega)).mono ?_; rw [HM.out]; intro e w4 hd; obtain ⟨cs, F, rfl, hj, hsc, hg⟩ := hd.ok HE.out; have Hsc4 := Lib.hid hsc; have HG4 := Lib.hid hg; have Hj4 := Lib.hid hj; have HB4 := Lib.hid (Row.grown HB2.out hg (by have := HD.out; simp; omega)); clear hd hsc hg hj))
        refine bodyPost_ret (v := .agg cs.toArray) (results_cell_row (p := 4) (ty := 29) rfl _ _ Br 29 cs.toArray (0, 0) _ rfl hr20 Tryd.underlying29 rfl (by rw [List.size_toArray, Hj4.out.five.1]; exact size29)) rfl ?_
        rw [HE.out]
        exact rval_done HG2.out HG4.out Hsc4.out Hj4.out hg20 HD.out.2.1 HD.out.2.2 HD.out.1
    have b123 : (c == 123) = false := by simpa using h123
    by_cases h91 : c = 91
    · have HM := Lib.hid (HI.out.list (by rw [Hc.out]; exact h91))
      subst h91
      cases hm : RES with
      | no j er =>
        have HE := Lib.hid hm
        go_wp2_with (first
          | (have _ := w4; refine wpList_store_Row rfl 29 _ _ rfl Br cs rfl rfl 29 zero5 HB4.out (by rw [h5]; exact size29) (by rw [h5]; rfl) h5c ?_; intro w20 hr20 hg20 hs20; clear hs20; simp only [Act.put, List.setIfInBounds_toArray, List.set_cons_zero, List.set_cons_succ])
          | (go_at_call 54; refine (rlist_any b i dep s (value s d) w2 HV.out Hr2.out hs hlt hd0 (by omega)).mono ?_; rw [HM.out]; intro e w4 hd; obtain ⟨cs, rfl, h5, h5c, hsc, hne, hg⟩ := hd.no HE.out; have Hsc4 := Lib.hid hsc; have HG4 := Lib.hid hg; have HB4 := Lib.hid (Row.grown HB2.out hg (by have := HD.out; simp; omega)); clear hd hsc hg))
        refine bodyPost_ret (v := .agg cs.toArray) (results_cell_row (p := 4) (ty := 29) rfl _ _ Br 29 cs.toArray (0, 0) _ rfl hr20 Tryd.underlying29 rfl (by rw [List.size_toArray, h5]; exact size29)) rfl ?_
        rw [HE.out]
        exact rval_no HG2.out HG4.out Hsc4.out hne h5 h5c hg20 HD.out.2.1 HD.out.1
      | ok v j =>
        have HE := Lib.hid hm
        go_wp2_with (first
          | (have _ := w4; refine wpList_store_Row rfl 29 _ _ rfl Br cs rfl rfl 29 zero5 HB4.out (by rw [Hj4.out.five.1]; exact size29) (by rw [Hj4.out.five.1]; rfl) Hj4.out.cells ?_; intro w20 hr20 hg20 hs20; clear hs20; simp only [Act.put, List.setIfInBounds_toArray, List.set_cons_zero, List.set_cons_succ])
          | (go_at_call 54; refine (rlist_any b i dep s (value s d) w2 HV.out Hr2.out hs hlt hd0 (by omega)).mono ?_; rw [HM.out]; intro e w4 hd; obtain ⟨cs, F, rfl, hj, hsc, hg⟩ := hd.ok HE.out; have Hsc4 := Lib.hid hsc; have HG4 := Lib.hid hg; have Hj4 := Lib.hid hj; have HB4 := Lib.hid (Row.grown HB2.out hg (by have := HD.out; simp; omega)); clear hd hsc hg hj))
        refine bodyPost_ret (v := .agg cs.toArray) (results_cell_row (p := 4) (ty := 29) rfl _ _ Br 29 cs.toArray (0, 0) _ rfl hr20 Tryd.underlying29 rfl (by rw [List.size_toArray, Hj4.out.five.1]; exact size29)) rfl ?_
        rw [HE.out]
        exact rval_done HG2.out HG4.out Hsc4.out Hj4.out hg20 HD.out.2.1 HD.out.2.2 HD.out.1
    have b91 : (c == 91) = false := by simpa using h91
    by_cases h34 : c = 34
    · cases hx : text s i with
      | no j er =>
        have HX := Lib.hid hx
        have HE := Lib.hid (HI.out.textNo (by rw [Hc.out]; exact h34) _ _ hx)
        subst h34
        clear hx
        go_wp2_with (first
          | (have _ := w4; refine wpList_store_Row rfl 29 _ _ rfl Br (leaf5 3 false ⟨#[]⟩) rfl rfl 29 zero5 HB4.out size29 rfl (leaf_cells _ _ _) ?_; intro w20 hr20 hg20 hs20; clear hs20; simp only [Act.put, List.setIfInBounds_toArray, List.set_cons_zero, List.set_cons_succ])
          | (go_at_call 55; refine (rtext_any b i s w2 Hr2.out hs hlt).mono ?_; intro e w4 hd; obtain ⟨vz, rfl, rfl, hsc, hne, hg⟩ := hd.no HX.out; have Hsc4 := Lib.hid hsc; have HG4 := Lib.hid hg; have HB4 := Lib.hid (Row.grown HB2.out hg (by have := HD.out; simp; omega)); clear hd hsc hg))
        refine bodyPost_ret (v := .agg (leaf5 3 false ⟨#[]⟩).toArray) (results_cell_row (p := 4) (ty := 29) rfl _ _ Br 29 (leaf5 3 false ⟨#[]⟩).toArray (0, 0) _ rfl hr20 Tryd.underlying29 rfl size29) rfl ?_
        rw [HE.out]
        exact rval_no HG2.out HG4.out Hsc4.out hne rfl (leaf_cells _ _ _) hg20 HD.out.2.1 HD.out.1
      | ok l j =>
        have HX := Lib.hid hx
        have HE := Lib.hid (HI.out.textOk (by rw [Hc.out]; exact h34) _ _ hx)
        subst h34
        clear hx
        go_wp2_with (first
          | (have _ := w4; refine wpList_store_Row rfl 29 _ _ rfl Br (leaf5 3 false (str l)) rfl rfl 29 zero5 HB4.out size29 rfl (leaf_cells _ _ _) ?_; intro w20 hr20 hg20 hs20; clear hs20; simp only [Act.put, List.setIfInBounds_toArray, List.set_cons_zero, List.set_cons_succ])
          | (go_at_call 55; refine (rtext_any b i s w2 Hr2.out hs hlt).mono ?_; intro e w4 hd; obtain ⟨rfl, hsc, hg⟩ := hd.ok HX.out; have Hsc4 := Lib.hid hsc; have HG4 := Lib.hid hg; have HB4 := Lib.hid (Row.grown HB2.out hg (by have := HD.out; simp; omega)); clear hd hsc hg))
        refine bodyPost_ret (v := .agg (leaf5 3 false (str l)).toArray) (results_cell_row (p := 4) (ty := 29) rfl _ _ Br 29 (leaf5 3 false (str l)).toArray (0, 0) _ rfl hr20 Tryd.underlying29 rfl size29) rfl ?_
        rw [HE.out]
        exact rval_done HG2.out HG4.out Hsc4.out (leaf_at _ _ _ _ _) hg20 HD.out.2.1 HD.out.2.2 HD.out.1
    have b34 : (c == 34) = false := by simpa using h34
    by_cases h116 : c = 116
    · cases hx : word s ⟨#[116, 114, 117, 101]⟩ i with
      | no j er =>
        have HX := Lib.hid hx
        have HE := Lib.hid (HI.out.trueNo (by rw [Hc.out]; exact h116) _ _ hx)
        subst h116
        clear hx
        go_wp2_with (first
          | (have _ := w4; refine wpList_store_Row rfl 29 _ _ rfl Br (leaf5 1 true ⟨#[]⟩) rfl rfl 29 zero5 HB4.out size29 rfl (leaf_cells _ _ _) ?_; intro w20 hr20 hg20 hs20; clear hs20; simp only [Act.put, List.setIfInBounds_toArray, List.set_cons_zero, List.set_cons_succ])
          | (go_at_call 56; refine (rword_any b i s ⟨#[116, 114, 117, 101]⟩ w2 Hr2.out (by omega) hi (by decide) hzTrue).mono ?_; intro e w4 hd; obtain ⟨vz, rfl, rfl, hsc, hne, hg⟩ := hd.no HX.out; have Hsc4 := Lib.hid hsc; have HG4 := Lib.hid hg; have HB4 := Lib.hid (Row.grown HB2.out hg (by have := HD.out; simp; omega)); clear hd hsc hg))
        refine bodyPost_ret (v := .agg (leaf5 1 true ⟨#[]⟩).toArray) (results_cell_row (p := 4) (ty := 29) rfl _ _ Br 29 (leaf5 1 true ⟨#[]⟩).toArray (0, 0) _ rfl hr20 Tryd.underlying29 rfl size29) rfl ?_
        rw [HE.out]
        exact rval_no HG2.out HG4.out Hsc4.out hne rfl (leaf_cells _ _ _) hg20 HD.out.2.1 HD.out.1
      | ok l j =>
        have HX := Lib.hid hx
        have HE := Lib.hid (HI.out.trueOk (by rw [Hc.out]; exact h116) _ _ hx)
        subst h116
        clear hx
        go_wp2_with (first
          | (have _ := w4; refine wpList_store_Row rfl 29 _ _ rfl Br (leaf5 1 true ⟨#[]⟩) rfl rfl 29 zero5 HB4.out size29 rfl (leaf_cells _ _ _) ?_; intro w20 hr20 hg20 hs20; clear hs20; simp only [Act.put, List.setIfInBounds_toArray, List.set_cons_zero, List.set_cons_succ])
          | (go_at_call 56; refine (rword_any b i s ⟨#[116, 114, 117, 101]⟩ w2 Hr2.out (by omega) hi (by decide) hzTrue).mono ?_; intro e w4 hd; obtain ⟨rfl, hsc, hg⟩ := hd.ok HX.out; have Hsc4 := Lib.hid hsc; have HG4 := Lib.hid hg; have HB4 := Lib.hid (Row.grown HB2.out hg (by have := HD.out; simp; omega)); clear hd hsc hg))
        refine bodyPost_ret (v := .agg (leaf5 1 true ⟨#[]⟩).toArray) (results_cell_row (p := 4) (ty := 29) rfl _ _ Br 29 (leaf5 1 true ⟨#[]⟩).toArray (0, 0) _ rfl hr20 Tryd.underlying29 rfl size29) rfl ?_
        rw [HE.out]
        exact rval_done HG2.out HG4.out Hsc4.out (leaf_at _ _ _ _ _) hg20 HD.out.2.1 HD.out.2.2 HD.out.1
    have b116 : (c == 116) = false := by simpa using h116
    by_cases h102 : c = 102
    · cases hx : word s ⟨#[102, 97, 108, 115, 101]⟩ i with
      | no j er =>
        have HX := Lib.hid hx
        have HE := Lib.hid (HI.out.falseNo (by rw [Hc.out]; exact h102) _ _ hx)
        subst h102
        clear hx
        go_wp2_with (first
          | (have _ := w4; refine wpList_store_Row rfl 29 _ _ rfl Br (leaf5 1 false ⟨#[]⟩) rfl rfl 29 zero5 HB4.out size29 rfl (leaf_cells _ _ _) ?_; intro w20 hr20 hg20 hs20; clear hs20; simp only [Act.put, List.setIfInBounds_toArray, List.set_cons_zero, List.set_cons_succ])
          | (go_at_call 56; refine (rword_any b i s ⟨#[102, 97, 108, 115, 101]⟩ w2 Hr2.out (by omega) hi (by decide) hzFalse).mono ?_; intro e w4 hd; obtain ⟨vz, rfl, rfl, hsc, hne, hg⟩ := hd.no HX.out; have Hsc4 := Lib.hid hsc; have HG4 := Lib.hid hg; have HB4 := Lib.hid (Row.grown HB2.out hg (by have := HD.out; simp; omega)); clear hd hsc hg))
        refine bodyPost_ret (v := .agg (leaf5 1 false ⟨#[]⟩).toArray) (results_cell_row (p := 4) (ty := 29) rfl _ _ Br 29 (leaf5 1 false ⟨#[]⟩).toArray (0, 0) _ rfl hr20 Tryd.underlying29 rfl size29) rfl ?_
        rw [HE.out]
        exact rval_no HG2.out HG4.out Hsc4.out hne rfl (leaf_cells _ _ _) hg20 HD.out.2.1 HD.out.1
      | ok l j =>
        have HX := Lib.hid hx
        have HE := Lib.hid (HI.out.falseOk (by rw [Hc.out]; exact h102) _ _ hx)
        subst h102
        clear hx
        go_wp2_with (first
          | (have _ := w4; refine wpList_store_Row rfl 29 _ _ rfl Br (leaf5 1 false ⟨#[]⟩) rfl rfl 29 zero5 HB4.out size29 rfl (leaf_cells _ _ _) ?_; intro w20 hr20 hg20 hs20; clear hs20; simp only [Act.put, List.setIfInBounds_toArray, List.set_cons_zero, List.set_cons_succ])
          | (go_at_call 56; refine (rword_any b i s ⟨#[102, 97, 108, 115, 101]⟩ w2 Hr2.out (by omega) hi (by decide) hzFalse).mono ?_; intro e w4 hd; obtain ⟨rfl, hsc, hg⟩ := hd.ok HX.out; have Hsc4 := Lib.hid hsc; have HG4 := Lib.hid hg; have HB4 := Lib.hid (Row.grown HB2.out hg (by have := HD.out; simp; omega)); clear hd hsc hg))
        refine bodyPost_ret (v := .agg (leaf5 1 false ⟨#[]⟩).toArray) (results_cell_row (p := 4) (ty := 29) rfl _ _ Br 29 (leaf5 1 false ⟨#[]⟩).toArray (0, 0) _ rfl hr20 Tryd.underlying29 rfl size29) rfl ?_
        rw [HE.out]
        exact rval_done HG2.out HG4.out Hsc4.out (leaf_at _ _ _ _ _) hg20 HD.out.2.1 HD.out.2.2 HD.out.1
    have b102 : (c == 102) = false := by simpa using h102
    by_cases h110 : c = 110
    · cases hx : word s ⟨#[110, 117, 108, 108]⟩ i with
      | no j er =>
        have HX := Lib.hid hx
        have HE := Lib.hid (HI.out.nullNo (by rw [Hc.out]; exact h110) _ _ hx)
        subst h110
        clear hx
        go_wp2_with (first
          | (have _ := w4; refine wpList_store_Row rfl 29 _ _ rfl Br (leaf5 0 false ⟨#[]⟩) rfl rfl 29 zero5 HB4.out size29 rfl (leaf_cells _ _ _) ?_; intro w20 hr20 hg20 hs20; clear hs20; simp only [Act.put, List.setIfInBounds_toArray, List.set_cons_zero, List.set_cons_succ])
          | (go_at_call 56; refine (rword_any b i s ⟨#[110, 117, 108, 108]⟩ w2 Hr2.out (by omega) hi (by decide) hzNull).mono ?_; intro e w4 hd; obtain ⟨vz, rfl, rfl, hsc, hne, hg⟩ := hd.no HX.out; have Hsc4 := Lib.hid hsc; have HG4 := Lib.hid hg; have HB4 := Lib.hid (Row.grown HB2.out hg (by have := HD.out; simp; omega)); clear hd hsc hg))
        refine bodyPost_ret (v := .agg (leaf5 0 false ⟨#[]⟩).toArray) (results_cell_row (p := 4) (ty := 29) rfl _ _ Br 29 (leaf5 0 false ⟨#[]⟩).toArray (0, 0) _ rfl hr20 Tryd.underlying29 rfl size29) rfl ?_
        rw [HE.out]
        exact rval_no HG2.out HG4.out Hsc4.out hne rfl (leaf_cells _ _ _) hg20 HD.out.2.1 HD.out.1
      | ok l j =>
        have HX := Lib.hid hx
        have HE := Lib.hid (HI.out.nullOk (by rw [Hc.out]; exact h110) _ _ hx)
        subst h110
        clear hx
        go_wp2_with (first
          | (have _ := w4; refine wpList_store_Row rfl 29 _ _ rfl Br (leaf5 0 false ⟨#[]⟩) rfl rfl 29 zero5 HB4.out size29 rfl (leaf_cells _ _ _) ?_; intro w20 hr20 hg20 hs20; clear hs20; simp only [Act.put, List.setIfInBounds_toArray, List.set_cons_zero, List.set_cons_succ])
          | (go_at_call 56; refine (rword_any b i s ⟨#[110, 117, 108, 108]⟩ w2 Hr2.out (by omega) hi (by decide) hzNull).mono ?_; intro e w4 hd; obtain ⟨rfl, hsc, hg⟩ := hd.ok HX.out; have Hsc4 := Lib.hid hsc; have HG4 := Lib.hid hg; have HB4 := Lib.hid (Row.grown HB2.out hg (by have := HD.out; simp; omega)); clear hd hsc hg))
        refine bodyPost_ret (v := .agg (leaf5 0 false ⟨#[]⟩).toArray) (results_cell_row (p := 4) (ty := 29) rfl _ _ Br 29 (leaf5 0 false ⟨#[]⟩).toArray (0, 0) _ rfl hr20 Tryd.underlying29 rfl size29) rfl ?_
        rw [HE.out]
        exact rval_done HG2.out HG4.out Hsc4.out (leaf_at _ _ _ _ _) hg20 HD.out.2.1 HD.out.2.2 HD.out.1
    have b110 : (c == 110) = false := by simpa using h110
    obtain ⟨hn1, hn2⟩ := num_to (s := s) (i := i) hi
    cases hx : num s i with
    | no j er =>
      rw [hx] at hn1
      obtain ⟨k1, k2, rfl⟩ := hn1
      have HE := Lib.hid (HI.out.numNo (by rw [Hc.out]; exact h123) (by rw [Hc.out]; exact h91) (by rw [Hc.out]; exact h34) (by rw [Hc.out]; exact h116) (by rw [Hc.out]; exact h102) (by rw [Hc.out]; exact h110) _ _ hx)
      have HX : Hid (numP (num s i) = ((j : Int), false)) := Lib.hid (by rw [hx]; rfl)
      have c0 := Hr2.out.s
      clear hx hn2 h123 h91 h34 h116 h102 h110
      go_upto_region 26 with (go_at_call 57; refine (rnumber_any i s w2 (by omega) hi).mono ?_; rw [HX.out]; rintro e w3 ⟨rfl, rfl⟩)
      have d1 := Hr2.out.free 1
      have Hsc3 := Lib.hid (Hr2.out.set j)
      have HG3 : Hid (w2.grownBy (w2.setCell ⟨b, 1, none⟩ (.int .i64 (j : Int))) (some b)) := Lib.hid (grown_set (grown_refl _ _) (.inl rfl) _ _)
      have HB3 := Lib.hid (Row.grown HB2.out HG3.out (by have := HD.out; simp; omega))
      go_upto_region 27 with fail
      generalize hw3 : w2.setCell ⟨b, 1, none⟩ (.int .i64 (j : Int)) = w3 at Hsc3 HG3 HB3 ⊢
      clear hw3 d1 c1 c0
      go_upto_region 29 with (go_at_call 37; refine (rfail_any b j j 0 130 s w3 Hsc3.out).mono ?_; rintro e w4 ⟨rfl, hsc, hg⟩; have Hsc4 := Lib.hid hsc; have HG4 := Lib.hid hg; have HB4 := Lib.hid (Row.grown HB3.out hg (by have := HD.out; simp; omega)); clear hsc hg)
      have c0 := Hsc4.out.s
      go_wp2_with (first
        | (have _ := w4; refine wpList_store_Row rfl 29 _ _ rfl Br (leaf5 2 false (s.extract i j)) rfl rfl 29 zero5 HB4.out size29 rfl (leaf_cells _ _ _) ?_; intro w20 hr20 hg20 hs20; clear hs20; simp only [Act.put, List.setIfInBounds_toArray, List.set_cons_zero, List.set_cons_succ]))
      refine bodyPost_ret (v := .agg (leaf5 2 false (s.extract i j)).toArray) (results_cell_row (p := 4) (ty := 29) rfl _ _ Br 29 (leaf5 2 false (s.extract i j)).toArray (0, 0) _ rfl hr20 Tryd.underlying29 rfl size29) rfl ?_
      rw [HE.out]
      exact rval_no HG2.out (grown_trans HG3.out HG4.out) Hsc4.out (by decide) rfl (leaf_cells _ _ _) hg20 HD.out.2.1 HD.out.1
    | ok u j =>
      rw [hx] at hn1
      obtain ⟨k1, k2⟩ := hn1
      have HE := Lib.hid (HI.out.numOk (by rw [Hc.out]; exact h123) (by rw [Hc.out]; exact h91) (by rw [Hc.out]; exact h34) (by rw [Hc.out]; exact h116) (by rw [Hc.out]; exact h102) (by rw [Hc.out]; exact h110) _ _ hx)
      have HX : Hid (numP (num s i) = ((j : Int), true)) := Lib.hid (by rw [hx]; rfl)
      have c0 := Hr2.out.s
      clear hx hn2 h123 h91 h34 h116 h102 h110
      go_upto_region 26 with (go_at_call 57; refine (rnumber_any i s w2 (by omega) hi).mono ?_; rw [HX.out]; rintro e w3 ⟨rfl, rfl⟩)
      have d1 := Hr2.out.free 1
      have Hsc3 := Lib.hid (Hr2.out.set j)
      have HG3 : Hid (w2.grownBy (w2.setCell ⟨b, 1, none⟩ (.int .i64 (j : Int))) (some b)) := Lib.hid (grown_set (grown_refl _ _) (.inl rfl) _ _)
      have HB3 := Lib.hid (Row.grown HB2.out HG3.out (by have := HD.out; simp; omega))
      go_upto_region 27 with fail
      generalize hw3 : w2.setCell ⟨b, 1, none⟩ (.int .i64 (j : Int)) = w3 at Hsc3 HG3 HB3 ⊢
      clear hw3 d1 c1 c0
      have c0 := Hsc3.out.s
      go_wp2_with (first
        | (have _ := w3; refine wpList_store_Row rfl 29 _ _ rfl Br (leaf5 2 false (s.extract i j)) rfl rfl 29 zero5 HB3.out size29 rfl (leaf_cells _ _ _) ?_; intro w20 hr20 hg20 hs20; clear hs20; simp only [Act.put, List.setIfInBounds_toArray, List.set_cons_zero, List.set_cons_succ]))
      refine bodyPost_ret (v := .agg (leaf5 2 false (s.extract i j)).toArray) (results_cell_row (p := 4) (ty := 29) rfl _ _ Br 29 (leaf5 2 false (s.extract i j)).toArray (0, 0) _ rfl hr20 Tryd.underlying29 rfl size29) rfl ?_
      rw [HE.out]
      exact rval_done HG2.out HG3.out Hsc3.out (leaf_at _ _ _ _ _) hg20 HD.out.2.1 HD.out.2.2 HD.out.1
theorem rvalIs (b : Nat) (s : ByteArray) (hs : s.size ≤ 1073741824) : ∀ d : Nat, d ≤ 16 → RValIs s b (16 - (d : Int)) (value s d)
  | 0, _ => ⟨fun i w hr hi => rvalue_zero b i _ s w hr hs hi (by simp) (by simp), value_fwd s 0⟩
  | d + 1, hd => ⟨fun i w hr hi => by
      have := rvalue_step b i d (16 - (d : Int)) s w (rvalIs b s hs d (by omega)) hr hs hi (by omega) (by omega)
      rw [show (16 : Int) - ((d + 1 : Nat) : Int) + 1 = 16 - d by omega]
      exact this, value_fwd s (d + 1)⟩
end Go.Proofs.YtlbilofnbhhmjaaDoor
