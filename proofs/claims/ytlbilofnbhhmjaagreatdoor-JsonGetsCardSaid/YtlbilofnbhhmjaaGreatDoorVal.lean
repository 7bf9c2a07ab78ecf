/- json's reader: value. -/
import Derived.Test.YtlbilofnbhhmjaaGreatDoorVal0
namespace Go.Proofs.YtlbilofnbhhmjaaGreatDoor
open Go.RowKit
set_option linter.unusedVariables false
set_option linter.unusedSimpArgs false
def leaf5 (kd : Int) (bo : Bool) (t : ByteArray) : List Value := [.int .i8 kd, .bool bo, .string t, .slice none 0 0, .slice none 0 0]
theorem leaf_at (w : World) (lo : Nat) (kd : Int) (bo : Bool) (t : ByteArray) : JAt w lo (.mk kd bo t [] []) (leaf5 kd bo t) [] := by
  unfold JAt
  exact ⟨_, _, [], [], rfl, World.ownsRow_nil _ _ _ _, World.ownsRow_nil _ _ _ _, jsAt_nil _ _, rfl, List.nodup_nil⟩
theorem leaf_cells (kd : Int) (bo : Bool) (t : ByteArray) : ∀ v ∈ leaf5 kd bo t, v.oneCell' = true := by intro u hu; simp [leaf5] at hu; rcases hu with rfl | rfl | rfl | rfl | rfl <;> rfl
/-- The value is laid into the result's block. -/
theorem val_done {W w2 w3 w4 : World} {b j : Nat} {s : ByteArray} {v : J} {cs : List Value} {F : List Nat} (hg : W.grownBy w2 none) (hlt : W.heap.size < w2.heap.size) (h : w2.grownBy w3 (some b)) (hrd : Rd w3 b s j) (hj : JAt w3 w2.heap.size v cs F) (hg4 : w3.grownBy w4 (some W.heap.size)) (hb : b < W.heap.size) :
    DoesJ (.ok v j) b s W (.returned (.agg cs.toArray)) w4 := by
  have hF := hj.lt
  refine ⟨grown_own (grown_trans (grown_none hg _) h) hg4 (fun x hx => .inr (by have := Option.some.inj hx; omega)), cs, F, rfl, (hj.kept hg4 (fun g hg e => by have := hF g hg; have := Option.some.inj e; omega)).mono (by omega), hrd.grown hg4 (by simp; omega)⟩
theorem num_ok_any (i j : Nat) (u : Unit) (s : ByteArray) (w : World) (hs : s.size ≤ 1099511627776) (hi : i ≤ s.size) (h : num s i = .ok u j) : Calls Tryz.prog 20 #[.string s, .int .i64 i] w fun e w' => e = .returned (.int .i64 j) ∧ w = w' := by
  have := numberEnd_any i s w (by omega) hi; rw [h] at this; exact this
theorem num_no_any (i j : Nat) (er : Int) (s : ByteArray) (w : World) (hs : s.size ≤ 1099511627776) (hi : i ≤ s.size) (h : num s i = .no j er) : Calls Tryz.prog 20 #[.string s, .int .i64 i] w fun e w' => e = .returned (.int .i64 (-1 - j)) ∧ w = w' := by
  have := numberEnd_any i s w (by omega) hi; rw [h] at this; exact this
set_option maxHeartbeats 6400000 in
set_option maxRecDepth 100000 in
theorem value_zero (b i : Nat) (dep : Int) (s : ByteArray) (w : World) (hr : Rd w b s i) (hs : s.size ≤ 1073741824) (hi : i ≤ s.size) (hd0 : 16 < dep) (hd1 : dep ≤ 1000) :
    Calls Tryz.prog 28 #[.pointer (some ⟨b, 0, none⟩), .int .i64 dep] w (DoesJ (value s 0 i) b s w) := by
  have Hr := Lib.hid hr
  clear hr
  obtain ⟨c, hc⟩ : ∃ c, ch s i = c := ⟨_, rfl⟩
  have Hc := Lib.hid hc
  clear hc
  cases hbg : beginsB c with
  | false =>
    have HE : Hid (value s 0 i = .no i 130) := Lib.hid (value_begins s 0 i (by rw [Hc.out]; exact hbg))
    go_enter Tryz.func28, Tryz.ntmps28
    go_wp2_with (first
      | (have _ := w2; go_at_call 29; refine (fail_any _ 130 _).mono ?_; rintro e w3 ⟨rfl, rfl⟩)
      | (have _ := w2; go_at_call 42; refine (begins_any c w2).mono ?_; rintro e w3 ⟨rfl, rfl⟩; rw [hbg])
      | (have _ := w1; go_at_call 41; refine (next_any b i s w1 Hr1.out (by omega) (by omega)).mono ?_; rintro e w2 ⟨rfl, hg2⟩; rw [Hc.out]; have Hg2 := Lib.hid (grown_own Hg1.out hg2 (by simp)); have c2 := (Hr1.out.grown hg2 (by simp)).i; clear hg2)
      | (refine wpList_alloc_abs rfl 26 rfl zero5 _ (zero29 _) rfl ?_; intro w1 hr1 hg1 hs1; have Hg1 := Lib.hid hg1; have Hr1 := Lib.hid (Hr.out.grown hg1 (by simp)); clear hr1 hg1 hs1; simp only [Act.put, List.setIfInBounds_toArray, List.set_cons_zero, List.set_cons_succ]))
    exact ⟨rfl, by rw [HE.out]; exact ⟨grown_none Hg2.out _, rfl⟩⟩
  | true =>
    have HE : Hid (value s 0 i = .no i 133) := Lib.hid (by unfold value; rw [if_pos (by rw [Hc.out]; exact hbg)])
    go_enter Tryz.func28, Tryz.ntmps28
    go_wp2_with (first
      | (have _ := w2; go_at_call 29; refine (fail_any _ 133 _).mono ?_; rintro e w3 ⟨rfl, rfl⟩)
      | (have _ := w2; go_at_call 42; refine (begins_any c w2).mono ?_; rintro e w3 ⟨rfl, rfl⟩; rw [hbg])
      | (have _ := w1; go_at_call 41; refine (next_any b i s w1 Hr1.out (by omega) (by omega)).mono ?_; rintro e w2 ⟨rfl, hg2⟩; rw [Hc.out]; have Hg2 := Lib.hid (grown_own Hg1.out hg2 (by simp)); have c2 := (Hr1.out.grown hg2 (by simp)).i; clear hg2)
      | (refine wpList_alloc_abs rfl 26 rfl zero5 _ (zero29 _) rfl ?_; intro w1 hr1 hg1 hs1; have Hg1 := Lib.hid hg1; have Hr1 := Lib.hid (Hr.out.grown hg1 (by simp)); clear hr1 hg1 hs1; simp only [Act.put, List.setIfInBounds_toArray, List.set_cons_zero, List.set_cons_succ]))
    exact ⟨rfl, by rw [HE.out]; exact ⟨grown_none Hg2.out _, rfl⟩⟩
set_option maxHeartbeats 6400000 in
set_option maxRecDepth 100000 in
theorem value_step (b i d : Nat) (dep : Int) (s : ByteArray) (w : World) (hV : ValIs s b dep (value s d)) (hr : Rd w b s i) (hs : s.size ≤ 1073741824) (hi : i ≤ s.size) (hT : Lib.Utf8Tabs 1 2 w) (hb : 2 < b) (hd0 : 0 ≤ dep) (hd1 : dep ≤ 16) :
    Calls Tryz.prog 28 #[.pointer (some ⟨b, 0, none⟩), .int .i64 dep] w (DoesJ (value s (d + 1) i) b s w) := by
  have Hr := Lib.hid hr
  have HT := Lib.hid hT
  have HV := Lib.hid hV
  clear hr hT hV
  cases hbg : beginsB (ch s i) with
  | false =>
    obtain ⟨c, hc⟩ : ∃ c, ch s i = c := ⟨_, rfl⟩
    have HE : Hid (value s (d + 1) i = .no i 130) := Lib.hid (value_begins s (d + 1) i hbg)
    rw [hc] at hbg
    have Hc := Lib.hid hc
    clear hc
    go_enter Tryz.func28, Tryz.ntmps28
    go_wp2_with (first
      | (have _ := w2; go_at_call 29; refine (fail_any _ 130 _).mono ?_; rintro e w3 ⟨rfl, rfl⟩)
      | (have _ := w2; go_at_call 42; refine (begins_any c w2).mono ?_; rintro e w3 ⟨rfl, rfl⟩; rw [hbg])
      | (have _ := w1; go_at_call 41; refine (next_any b i s w1 Hr1.out (by omega) (by omega)).mono ?_; rintro e w2 ⟨rfl, hg2⟩; rw [Hc.out]; have Hg2 := Lib.hid (grown_own Hg1.out hg2 (by simp)); have c2 := (Hr1.out.grown hg2 (by simp)).i; clear hg2)
      | (refine wpList_alloc_abs rfl 26 rfl zero5 _ (zero29 _) rfl ?_; intro w1 hr1 hg1 hs1; have Hg1 := Lib.hid hg1; have Hr1 := Lib.hid (Hr.out.grown hg1 (by simp)); clear hr1 hg1 hs1; simp only [Act.put, List.setIfInBounds_toArray, List.set_cons_zero, List.set_cons_succ]))
    exact ⟨rfl, by rw [HE.out]; exact ⟨grown_none Hg2.out _, rfl⟩⟩
  | true =>
    obtain ⟨RES, hR⟩ : ∃ r, value s (d + 1) i = r := ⟨_, rfl⟩
    have HI : Hid (ValueIs s d i RES) := Lib.hid (by rw [← hR]; exact valueIs hbg)
    rw [hR]
    clear hR
    have hlt := ch_pos (s := s) (i := i) (fun e => by rw [e] at hbg; cases hbg)
    obtain ⟨c, hc⟩ : ∃ c, ch s i = c := ⟨_, rfl⟩
    rw [hc] at hbg
    have Hc := Lib.hid hc
    clear hc
    go_enter Tryz.func28, Tryz.ntmps28
    go_upto_region 7 with (first
      | (have _ := w2; go_at_call 42; refine (begins_any c w2).mono ?_; rintro e w3 ⟨rfl, rfl⟩; rw [hbg])
      | (have _ := w1; go_at_call 41; refine (next_any b i s w1 Hr1.out (by omega) (by omega)).mono ?_; rintro e w2 ⟨rfl, hg2⟩; rw [Hc.out]
         have Hg2 := Lib.hid (grown_own Hg1.out hg2 (by simp)); have Hr2 := Lib.hid (Hr1.out.grown hg2 (by simp)); have Hw2 := Lib.hid (Nat.lt_of_lt_of_le Hw1.out hg2.size); have Hres := Lib.hid (HB.out.grown hg2 (by simp)); clear hg2)
      | (refine wpList_alloc_abs rfl 26 rfl zero5 _ (zero29 _) rfl ?_; intro w1 hr1 hg1 hs1; have Hg1 := Lib.hid hg1; have Hr1 := Lib.hid (Hr.out.grown hg1 (by simp)); have HB := Lib.hid hr1; have Hw1 : Hid (w.heap.size < w1.heap.size) := Lib.hid (by omega); clear hr1 hg1 hs1; simp only [Act.put, List.setIfInBounds_toArray, List.set_cons_zero, List.set_cons_succ]))
    have HT2 : Hid (Lib.Utf8Tabs 1 2 w2) := Lib.hid (tabs_grown HT.out Hg2.out (by simp) (by simp))
    have Hb := Lib.hid Hr.out.lt
    obtain ⟨Br, hBr⟩ : ∃ n, w.heap.size = n := ⟨_, rfl⟩
    have HBr := Lib.hid hBr
    rw [hBr] at Hw2 Hres ⊢
    clear hBr
    have c0 := Hr2.out.s
    have c2 := Hr2.out.i
    have d2 := Hr2.out.free 1
    clear HB Hw1 Hr1 Hg1
    by_cases h123 : c = 123
    · subst h123
      have HM := Lib.hid (HI.out.obj Hc.out)
      cases hres : RES with
      | no j er =>
        have HE := Lib.hid hres
        clear hres
        go_wp2_with (first
          | (go_at_call 43; refine (object_any b i dep s (value s d) w2 HV.out Hr2.out hs hlt HT2.out hb hd0 (by omega)).mono ?_; intro e w3 hd
             obtain ⟨rfl, hg⟩ := hd.no (by rw [HM.out, HE.out]); have Hg3 := Lib.hid hg; clear hd hg))
        exact ⟨rfl, by rw [HE.out]; exact ⟨grown_trans (grown_none Hg2.out _) Hg3.out, rfl⟩⟩
      | ok v j =>
        have HE := Lib.hid hres
        clear hres
        go_wp2_with (first
          | (have _ := w3; refine wpList_store_Row rfl 26 _ _ rfl Br [p1, p2, p3, p4, p5] rfl rfl 26 zero5 (Hres.out.grown Hg3.out (by have := HBr.out; have := Hb.out; simp; omega)) size29 rfl Hj.out.cells ?_; intro w4 hr4 hg4 hs4; clear hs4; simp only [Act.put, List.setIfInBounds_toArray, List.set_cons_zero, List.set_cons_succ])
          | (go_at_call 43; refine (object_any b i dep s (value s d) w2 HV.out Hr2.out hs hlt HT2.out hb hd0 (by omega)).mono ?_; intro e w3 hd
             obtain ⟨cs, F, rfl, hj, hrd, hg⟩ := hd.ok (by rw [HM.out, HE.out])
             obtain ⟨p1, p2, p3, p4, p5, rfl⟩ := five_of hj.five.1
             have Hg3 := Lib.hid hg; have Hj := Lib.hid hj; have Hrd3 := Lib.hid hrd; clear hd hg hj hrd))
        refine bodyPost_ret (v := .agg [p1, p2, p3, p4, p5].toArray) (results_cell_row (p := 4) (ty := 26) rfl _ _ Br 26 [p1, p2, p3, p4, p5].toArray (0, 0) _ rfl hr4 Tryz.underlying26 rfl size29) rfl ?_
        rw [HE.out]
        have hg5 := hg4
        rw [← HBr.out] at hg5
        exact val_done Hg2.out (by rw [HBr.out]; exact Hw2.out) Hg3.out Hrd3.out Hj.out hg5 Hb.out
    by_cases h91 : c = 91
    · subst h91
      have HM := Lib.hid (HI.out.list Hc.out)
      cases hres : RES with
      | no j er =>
        have HE := Lib.hid hres
        clear hres
        go_wp2_with (first
          | (go_at_call 43; refine (list_any b i dep s (value s d) w2 HV.out Hr2.out hs hlt HT2.out hb hd0 (by omega)).mono ?_; intro e w3 hd
             obtain ⟨rfl, hg⟩ := hd.no (by rw [HM.out, HE.out]); have Hg3 := Lib.hid hg; clear hd hg))
        exact ⟨rfl, by rw [HE.out]; exact ⟨grown_trans (grown_none Hg2.out _) Hg3.out, rfl⟩⟩
      | ok v j =>
        have HE := Lib.hid hres
        clear hres
        go_wp2_with (first
          | (have _ := w3; refine wpList_store_Row rfl 26 _ _ rfl Br [p1, p2, p3, p4, p5] rfl rfl 26 zero5 (Hres.out.grown Hg3.out (by have := HBr.out; have := Hb.out; simp; omega)) size29 rfl Hj.out.cells ?_; intro w4 hr4 hg4 hs4; clear hs4; simp only [Act.put, List.setIfInBounds_toArray, List.set_cons_zero, List.set_cons_succ])
          | (go_at_call 43; refine (list_any b i dep s (value s d) w2 HV.out Hr2.out hs hlt HT2.out hb hd0 (by omega)).mono ?_; intro e w3 hd
             obtain ⟨cs, F, rfl, hj, hrd, hg⟩ := hd.ok (by rw [HM.out, HE.out])
             obtain ⟨p1, p2, p3, p4, p5, rfl⟩ := five_of hj.five.1
             have Hg3 := Lib.hid hg; have Hj := Lib.hid hj; have Hrd3 := Lib.hid hrd; clear hd hg hj hrd))
        refine bodyPost_ret (v := .agg [p1, p2, p3, p4, p5].toArray) (results_cell_row (p := 4) (ty := 26) rfl _ _ Br 26 [p1, p2, p3, p4, p5].toArray (0, 0) _ rfl hr4 Tryz.underlying26 rfl size29) rfl ?_
        rw [HE.out]
        have hg5 := hg4
        rw [← HBr.out] at hg5
        exact val_done Hg2.out (by rw [HBr.out]; exact Hw2.out) Hg3.out Hrd3.out Hj.out hg5 Hb.out
    by_cases h34 : c = 34
    · subst h34
      cases hx : text s i with
      | no j er =>
        have HX := Lib.hid hx
        have HE := Lib.hid (HI.out.textNo Hc.out _ _ hx)
        clear hx
        go_wp2_with (first
          | (go_at_call 44; refine (text_any b i s w2 Hr2.out hs hlt HT2.out hb).mono ?_; intro e w3 hd
             obtain ⟨rfl, hg⟩ := hd.no HX.out; have Hg3 := Lib.hid hg; clear hd hg))
        exact ⟨rfl, by rw [HE.out]; exact ⟨grown_trans (grown_none Hg2.out _) Hg3.out, rfl⟩⟩
      | ok l j =>
        have HX := Lib.hid hx
        have HE := Lib.hid (HI.out.textOk Hc.out _ _ hx)
        clear hx
        go_wp2_with (first
          | (have _ := w3; refine wpList_store_Row rfl 26 _ _ rfl Br (leaf5 3 false (str l)) rfl rfl 26 zero5 (Hres.out.grown Hg3.out (by have := HBr.out; have := Hb.out; simp; omega)) size29 rfl (leaf_cells _ _ _) ?_; intro w4 hr4 hg4 hs4; clear hs4; simp only [Act.put, List.setIfInBounds_toArray, List.set_cons_zero, List.set_cons_succ])
          | (go_at_call 44; refine (text_any b i s w2 Hr2.out hs hlt HT2.out hb).mono ?_; intro e w3 hd
             obtain ⟨rfl, hrd, hg⟩ := hd.ok HX.out
             have Hg3 := Lib.hid hg; have Hrd3 := Lib.hid hrd; clear hd hg hrd))
        refine bodyPost_ret (v := .agg (leaf5 3 false (str l)).toArray) (results_cell_row (p := 4) (ty := 26) rfl _ _ Br 26 (leaf5 3 false (str l)).toArray (0, 0) _ rfl hr4 Tryz.underlying26 rfl size29) rfl ?_
        rw [HE.out]
        have hg5 := hg4
        rw [← HBr.out] at hg5
        exact val_done Hg2.out (by rw [HBr.out]; exact Hw2.out) Hg3.out Hrd3.out (leaf_at _ _ _ _ _) hg5 Hb.out
    by_cases h116 : c = 116
    · subst h116
      cases hx : word s ⟨#[116, 114, 117, 101]⟩ i with
      | no j er =>
        have HX := Lib.hid hx
        have HE := Lib.hid (HI.out.trueNo Hc.out _ _ hx)
        clear hx
        go_wp2_with (first
          | (go_at_call 45; refine (word_any b i s ⟨#[116, 114, 117, 101]⟩ w2 Hr2.out (by omega) hi (by decide) hzTrue).mono ?_; intro e w3 hd
             obtain ⟨rfl, hg⟩ := hd.no HX.out; have Hg3 := Lib.hid hg; clear hd hg))
        exact ⟨rfl, by rw [HE.out]; exact ⟨grown_trans (grown_none Hg2.out _) Hg3.out, rfl⟩⟩
      | ok l j =>
        have HX := Lib.hid hx
        have HE := Lib.hid (HI.out.trueOk Hc.out _ _ hx)
        clear hx
        go_wp2_with (first
          | (have _ := w3; refine wpList_store_Row rfl 26 _ _ rfl Br (leaf5 1 true ⟨#[]⟩) rfl rfl 26 zero5 (Hres.out.grown Hg3.out (by have := HBr.out; have := Hb.out; simp; omega)) size29 rfl (leaf_cells _ _ _) ?_; intro w4 hr4 hg4 hs4; clear hs4; simp only [Act.put, List.setIfInBounds_toArray, List.set_cons_zero, List.set_cons_succ])
          | (go_at_call 45; refine (word_any b i s ⟨#[116, 114, 117, 101]⟩ w2 Hr2.out (by omega) hi (by decide) hzTrue).mono ?_; intro e w3 hd
             obtain ⟨rfl, hrd, hg⟩ := hd.ok HX.out
             have Hg3 := Lib.hid hg; have Hrd3 := Lib.hid hrd; clear hd hg hrd))
        refine bodyPost_ret (v := .agg (leaf5 1 true ⟨#[]⟩).toArray) (results_cell_row (p := 4) (ty := 26) rfl _ _ Br 26 (leaf5 1 true ⟨#[]⟩).toArray (0, 0) _ rfl hr4 Tryz.underlying26 rfl size29) rfl ?_
        rw [HE.out]
        have hg5 := hg4
        rw [← HBr.out] at hg5
        exact val_done Hg2.out (by rw [HBr.out]; exact Hw2.out) Hg3.out Hrd3.out (leaf_at _ _ _ _ _) hg5 Hb.out
    by_cases h102 : c = 102
    · subst h102
      cases hx : word s ⟨#[102, 97, 108, 115, 101]⟩ i with
      | no j er =>
        have HX := Lib.hid hx
        have HE := Lib.hid (HI.out.falseNo Hc.out _ _ hx)
        clear hx
        go_wp2_with (first
          | (go_at_call 45; refine (word_any b i s ⟨#[102, 97, 108, 115, 101]⟩ w2 Hr2.out (by omega) hi (by decide) hzFalse).mono ?_; intro e w3 hd
             obtain ⟨rfl, hg⟩ := hd.no HX.out; have Hg3 := Lib.hid hg; clear hd hg))
        exact ⟨rfl, by rw [HE.out]; exact ⟨grown_trans (grown_none Hg2.out _) Hg3.out, rfl⟩⟩
      | ok l j =>
        have HX := Lib.hid hx
        have HE := Lib.hid (HI.out.falseOk Hc.out _ _ hx)
        clear hx
        go_wp2_with (first
          | (have _ := w3; refine wpList_store_Row rfl 26 _ _ rfl Br (leaf5 1 false ⟨#[]⟩) rfl rfl 26 zero5 (Hres.out.grown Hg3.out (by have := HBr.out; have := Hb.out; simp; omega)) size29 rfl (leaf_cells _ _ _) ?_; intro w4 hr4 hg4 hs4; clear hs4; simp only [Act.put, List.setIfInBounds_toArray, List.set_cons_zero, List.set_cons_succ])
          | (go_at_call 45; refine (word_any b i s ⟨#[102, 97, 108, 115, 101]⟩ w2 Hr2.out (by omega) hi (by decide) hzFalse).mono ?_; intro e w3 hd
             obtain ⟨rfl, hrd, hg⟩ := hd.ok HX.out
             have Hg3 := Lib.hid hg; have Hrd3 := Lib.hid hrd; clear hd hg hrd))
        refine bodyPost_ret (v := .agg (leaf5 1 false ⟨#[]⟩).toArray) (results_cell_row (p := 4) (ty := 26) rfl _ _ Br 26 (leaf5 1 false ⟨#[]⟩).toArray (0, 0) _ rfl hr4 Tryz.underlying26 rfl size29) rfl ?_
        rw [HE.out]
        have hg5 := hg4
        rw [← HBr.out] at hg5
        exact val_done Hg2.out (by rw [HBr.out]; exact Hw2.out) Hg3.out Hrd3.out (leaf_at _ _ _ _ _) hg5 Hb.out
    by_cases h110 : c = 110
    · subst h110
      cases hx : word s ⟨#[110, 117, 108, 108]⟩ i with
      | no j er =>
        have HX := Lib.hid hx
        have HE := Lib.hid (HI.out.nullNo Hc.out _ _ hx)
        clear hx
        go_wp2_with (first
          | (go_at_call 45; refine (word_any b i s ⟨#[110, 117, 108, 108]⟩ w2 Hr2.out (by omega) hi (by decide) hzNull).mono ?_; intro e w3 hd
             obtain ⟨rfl, hg⟩ := hd.no HX.out; have Hg3 := Lib.hid hg; clear hd hg))
        exact ⟨rfl, by rw [HE.out]; exact ⟨grown_trans (grown_none Hg2.out _) Hg3.out, rfl⟩⟩
      | ok l j =>
        have HX := Lib.hid hx
        have HE := Lib.hid (HI.out.nullOk Hc.out _ _ hx)
        clear hx
        go_wp2_with (first
          | (have _ := w3; refine wpList_store_Row rfl 26 _ _ rfl Br (leaf5 0 false ⟨#[]⟩) rfl rfl 26 zero5 (Hres.out.grown Hg3.out (by have := HBr.out; have := Hb.out; simp; omega)) size29 rfl (leaf_cells _ _ _) ?_; intro w4 hr4 hg4 hs4; clear hs4; simp only [Act.put, List.setIfInBounds_toArray, List.set_cons_zero, List.set_cons_succ])
          | (go_at_call 45; refine (word_any b i s ⟨#[110, 117, 108, 108]⟩ w2 Hr2.out (by omega) hi (by decide) hzNull).mono ?_; intro e w3 hd
             obtain ⟨rfl, hrd, hg⟩ := hd.ok HX.out
             have Hg3 := Lib.hid hg; have Hrd3 := Lib.hid hrd; clear hd hg hrd))
        refine bodyPost_ret (v := .agg (leaf5 0 false ⟨#[]⟩).toArray) (results_cell_row (p := 4) (ty := 26) rfl _ _ Br 26 (leaf5 0 false ⟨#[]⟩).toArray (0, 0) _ rfl hr4 Tryz.underlying26 rfl size29) rfl ?_
        rw [HE.out]
        have hg5 := hg4
        rw [← HBr.out] at hg5
        exact val_done Hg2.out (by rw [HBr.out]; exact Hw2.out) Hg3.out Hrd3.out (leaf_at _ _ _ _ _) hg5 Hb.out
    have N1 := Lib.hid h123
    have N2 := Lib.hid h91
    have N3 := Lib.hid h34
    have N4 := Lib.hid h116
    have N5 := Lib.hid h102
    have N6 := Lib.hid h110
    have b123 : (c == 123) = false := by simpa using h123
    have b91 : (c == 91) = false := by simpa using h91
    have b34 : (c == 34) = false := by simpa using h34
    have b116 : (c == 116) = false := by simpa using h116
    have b102 : (c == 102) = false := by simpa using h102
    have b110 : (c == 110) = false := by simpa using h110
    clear h123 h91 h34 h116 h102 h110
    obtain ⟨hn1, hn2⟩ := num_to (s := s) (i := i) hi
    cases hx : num s i with
    | no j er =>
      rw [hx] at hn1
      obtain ⟨k1, k2, rfl⟩ := hn1
      have HX := Lib.hid hx
      have HE := Lib.hid (HI.out.numNo (by rw [Hc.out]; exact N1.out) (by rw [Hc.out]; exact N2.out) (by rw [Hc.out]; exact N3.out) (by rw [Hc.out]; exact N4.out) (by rw [Hc.out]; exact N5.out) (by rw [Hc.out]; exact N6.out) _ _ hx)
      clear hx hn2
      have hneg : ((-1 : Int) - (j : Int) < 0) := by omega
      have hw2 : IntKind.i64.wrap (-1 - (-1 - (j : Int))) = (j : Int) := by rw [IntWalk.i64_in _ (by omega)]; omega
      go_wp2_with (first
        | (go_at_call 20; refine (num_no_any i j 130 s w2 (by omega) hi HX.out).mono ?_; rintro e w5 ⟨rfl, rfl⟩))
      refine (fail_any _ 130 _).mono ?_
      rintro e w6 ⟨rfl, rfl⟩
      exact ⟨rfl, by rw [HE.out]; exact ⟨grown_set (grown_none Hg2.out _) (.inl rfl) _ _, rfl⟩⟩
    | ok u j =>
      rw [hx] at hn1
      obtain ⟨k1, k2⟩ := hn1
      have k3 := hn2 _ _ hx
      have HX := Lib.hid hx
      have HE := Lib.hid (HI.out.numOk (by rw [Hc.out]; exact N1.out) (by rw [Hc.out]; exact N2.out) (by rw [Hc.out]; exact N3.out) (by rw [Hc.out]; exact N4.out) (by rw [Hc.out]; exact N5.out) (by rw [Hc.out]; exact N6.out) _ _ hx)
      clear hx hn2
      have hneg : ¬ ((j : Int) < 0) := by omega
      go_upto_region 25 with (first
        | (go_at_call 20; refine (num_ok_any i j u s w2 (by omega) hi HX.out).mono ?_; rintro e w5 ⟨rfl, rfl⟩))
      have Hr3 := Lib.hid (Hr2.out.set j)
      have c3 := Hr3.out.i
      have c4 := Hr3.out.s
      refine wp_region_drawn_tail 11 (by kernel_rfl) (by kernel_rfl) ?_
      simp only [List.take_succ_cons, List.take_zero, List.drop_succ_cons, List.drop_zero]
      repeat (go_big_quiet_step (fail))
      refine wpQuiet_nil ?_
      rintro _ ⟨nq, rfl⟩
      go_wp2_with (first
        | (have _ := w2; refine wpList_store_Row rfl 26 _ _ rfl Br (leaf5 2 false (s.extract i j)) rfl rfl 26 zero5 ((Row.set_other Hres.out (by have := HBr.out; have := Hb.out; omega) _ _).drewN nq) size29 rfl (leaf_cells _ _ _) ?_; intro w4 hr4 hg4 hs4; clear hs4; simp only [Act.put, List.setIfInBounds_toArray, List.set_cons_zero, List.set_cons_succ]))
      refine bodyPost_ret (v := .agg (leaf5 2 false (s.extract i j)).toArray) (results_cell_row (p := 4) (ty := 26) rfl _ _ Br 26 (leaf5 2 false (s.extract i j)).toArray (0, 0) _ rfl hr4 Tryz.underlying26 rfl size29) rfl ?_
      rw [HE.out]
      have hg5 := hg4
      rw [← HBr.out] at hg5
      exact val_done Hg2.out (by rw [HBr.out]; exact Hw2.out) (grown_drewN (grown_set (grown_refl w2 (some b)) (.inl rfl) 1 (.int .i64 (j : Int))) nq) (Hr3.out.drewN nq) (leaf_at _ _ _ _ _) hg5 Hb.out
theorem valIs (b : Nat) (s : ByteArray) (hs : s.size ≤ 1073741824) (hb : 2 < b) : ∀ d : Nat, d ≤ 16 → ValIs s b (16 - (d : Int)) (value s d)
  | 0, _ => ⟨fun i w hr hi hT => value_zero b i _ s w hr hs hi (by simp) (by simp), value_fwd s 0, value_begins s 0⟩
  | d + 1, hd => ⟨fun i w hr hi hT => by
      have := value_step b i d (16 - (d : Int)) s w (valIs b s hs hb d (by omega)) hr hs hi hT hb (by omega) (by omega)
      rw [show (16 : Int) - ((d + 1 : Nat) : Int) + 1 = 16 - d by omega]
      exact this, value_fwd s (d + 1), value_begins s (d + 1)⟩
end Go.Proofs.YtlbilofnbhhmjaaGreatDoor
