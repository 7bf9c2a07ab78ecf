/- The reference's reader: a list. -/
import Derived.Test.YtlbilofnbhhmjaaDoorRLs
namespace Go.Proofs.YtlbilofnbhhmjaaDoor
open Go.RowKit
set_option linter.unusedVariables false
set_option linter.unusedSimpArgs false
set_option maxHeartbeats 6400000 in
set_option maxRecDepth 100000 in
theorem rlist_any (b i : Nat) (dep : Int) (s : ByteArray) (val : Nat → R J) (w : World) (hV : RValIs s b dep val) (hr : Sc w b s i 0) (hs : s.size ≤ 1073741824) (hi : i < s.size) (hd0 : 0 ≤ dep) (hd1 : dep ≤ 1000) :
    Calls Tryd.prog 54 #[.pointer (some ⟨b, 0, none⟩), .int .i64 dep] w (RDoesJ (members s val false i) b s w) := by
  obtain ⟨RES, hR⟩ : ∃ r, members s val false i = r := ⟨_, rfl⟩
  rw [hR]
  have HR := Lib.hid hR
  have Hr := Lib.hid hr
  have HV := Lib.hid hV
  have H1 := Lib.hid (show ∀ v ∈ five 4 (.slice none 0 0) (.slice none 0 0), v.oneCell' = true by decide)
  clear hR hr hV
  go_enter Tryd.func54, Tryd.ntmps54
  go_upto_region 2 with (first
    | (have _ := w2; refine wpList_store_Row rfl 29 _ _ rfl w1.heap.size (five 4 (.slice none 0 0) (.slice none 0 0)) rfl rfl 29 zero5 hr2 size29 rfl H1.out ?_; intro w3 hr3 hg3 hs3; clear hs3; simp only [Act.put, List.setIfInBounds_toArray, List.set_cons_zero, List.set_cons_succ])
    | (have _ := w1; refine wpList_alloc_abs rfl 29 rfl zero5 _ (zero29 _) rfl ?_; intro w2 hr2 hg2 hs2; clear hs2; simp only [Act.put, List.setIfInBounds_toArray, List.set_cons_zero, List.set_cons_succ])
    | (refine wpList_alloc_abs rfl 29 rfl zero5 _ (zero29 _) rfl ?_; intro w1 hr1 hg1 hs1; simp only [Act.put, List.setIfInBounds_toArray, List.set_cons_zero, List.set_cons_succ]))
  have hg4 : w.grownBy w3 none := grown_own (grown_own hg1 hg2 (by simp)) hg3 (fun x hx => .inr (by have := Option.some.inj hx; omega))
  have hBr : Row w3 w.heap.size 29 zero5 := (hr1.grown hg2 (by simp)).grown hg3 (by simp; omega)
  obtain ⟨N0, hN0⟩ : ∃ n, w.heap.size = n := ⟨_, rfl⟩
  have HNW : Hid (w.heap.size ≤ N0) := Lib.hid (by omega)
  obtain ⟨Bj, hBjn⟩ : ∃ n, w1.heap.size = n := ⟨_, rfl⟩
  obtain ⟨N, hN⟩ : ∃ n, w3.heap.size = n := ⟨_, rfl⟩
  rw [hN0] at hBr hs1 ⊢
  rw [hBjn] at hr3 hs1 ⊢
  have HD : Hid (b < N0 ∧ N0 < Bj ∧ Bj < N) := Lib.hid ⟨by rw [← hN0]; exact Hr.out.lt, by omega, by rw [← hN]; exact hr3.lt⟩
  have Hr3 : Hid (Sc w3 b s i 0) := Lib.hid (Hr.out.grown hg4 (by simp))
  have HG3 := Lib.hid hg4
  have HBr := Lib.hid hBr
  have HBj := Lib.hid hr3
  have HN := Lib.hid hN
  clear hg1 hg2 hg3 hr1 hr2 hr3 hs1 hg4 hBr hN0 hBjn hN
  have c1 := Hr3.out.i
  have d1 := Hr3.out.free 1
  go_upto_region 3 with fail
  have HL0 : Hid (RLs w (w3.setCell ⟨b, 1, none⟩ (.int .i64 ((i + 1 : Nat) : Int))) b s (i + 1) 0 N N0 Bj 4 (.slice none 0 0) [] (.slice none 0 0)) := Lib.hid (by
    have hd := HD.out
    have hgs := grown_set (grown_refl w3 (some b)) (.inl rfl) 1 (.int .i64 ((i + 1 : Nat) : Int))
    exact ⟨Hr3.out.set (i + 1), HBr.out.grown hgs (by simp; omega), HBj.out.grown hgs (by simp; omega), grown_trans (grown_none HG3.out _) hgs, by rw [← HN.out]; exact hgs.size⟩)
  have e1 : (i : Int) + 1 = ((i + 1 : Nat) : Int) := by omega
  rw [e1]
  clear e1
  generalize hW4 : w3.setCell ⟨b, 1, none⟩ (.int .i64 ((i + 1 : Nat) : Int)) = W4 at HL0 ⊢
  clear hW4 c1 d1 HBr HBj Hr3 HG3
  have Hbn : Hid (N0 ≠ b ∧ Bj ≠ b ∧ ∀ g, N ≤ g → some g ≠ some b) := Lib.hid (by have := HD.out; exact ⟨by omega, by omega, fun g hg e => by have := Option.some.inj e; omega⟩)
  have hq1 := skip_ge s (i + 1)
  have hq2 := skip_le (s := s) (i := i + 1) (by omega)
  have hRES : (ch s (skip s (i + 1)) = 93 → RES = .ok (.mk 4 false ⟨#[]⟩ [] []) (skip s (i + 1) + 1)) ∧ (ch s (skip s (i + 1)) ≠ 93 → itemsN s val false (s.size + 1) (skip s (i + 1)) [] [] = RES) := by
    refine ⟨fun h => ?_, fun h => ?_⟩
    · rw [← HR.out]; unfold members; simp only [Bool.false_eq_true, if_false]; rw [if_pos h]
    · rw [← HR.out]; unfold members; simp only [Bool.false_eq_true, if_false]; rw [if_neg h]
  have hbl := rblanks_any b (i + 1) 0 s W4 HL0.out.rd (by omega) (by omega)
  obtain ⟨q, hq⟩ : ∃ q, skip s (i + 1) = q := ⟨_, rfl⟩
  rw [hq] at hq1 hq2 hRES hbl
  obtain ⟨c, hc⟩ : ∃ c, ch s q = c := ⟨_, rfl⟩
  rw [hc] at hRES
  have Hc := Lib.hid hc
  have Hbl := Lib.hid hbl
  have HRES := Lib.hid hRES
  clear hq hc hRES hbl HR
  by_cases h93 : c = 93
  · have HE := Lib.hid (HRES.out.1 h93)
    subst h93
    go_wp2_with (first
      | (have _ := w6; refine wpList_load_Row rfl 29 _ rfl Bj rfl (five 4 (.slice none 0 0) (.slice none 0 0)) 29 (Row.set_other HL6.out.loc Hbn.out.2.1 _ _) _ Tryd.underlying29 rfl size29 ?_; simp only [Act.put, List.setIfInBounds_toArray, List.set_cons_zero, List.set_cons_succ])
      | (have _ := w6; refine wpList_store_Row rfl 29 _ _ rfl N0 (five 4 (.slice none 0 0) (.slice none 0 0)) rfl rfl 29 zero5 (Row.set_other HL6.out.res Hbn.out.1 _ _) size29 rfl H1.out ?_; intro w7 hr7 hg7 hs7; clear hs7; simp only [Act.put, List.setIfInBounds_toArray, List.set_cons_zero, List.set_cons_succ])
      | (have _ := w5; go_at_call 51; refine (rnext_any b q 0 s w5 HL5.out.rd (by omega) (by omega)).mono ?_; rintro e w6 ⟨rfl, hg⟩; rw [Hc.out]; have HL6 := Lib.hid (HL5.out.keep (grown_none hg _) (HL5.out.rd.grown hg (by simp)) Hbn.out.1 Hbn.out.2.1); have c6 := HL6.out.rd.i; have d6 := HL6.out.rd.free 1; clear hg)
      | (go_at_call 35; refine Hbl.out.mono ?_; rintro e w5 ⟨rfl, hsc, hg⟩; have HL5 := Lib.hid (HL0.out.keep hg hsc Hbn.out.1 Hbn.out.2.1); clear hsc hg))
    refine bodyPost_ret (v := .agg (five 4 (.slice none 0 0) (.slice none 0 0)).toArray) (results_cell_row (p := 4) (ty := 29) rfl _ _ N0 29 (five 4 (.slice none 0 0) (.slice none 0 0)).toArray (0, 0) _ rfl hr7 Tryd.underlying29 rfl size29) rfl ?_
    rw [HE.out]
    exact HL6.out.done (rows_nil _ _) (ks := []) (World.ownsRow_nil _ _ _ _) (fun g h => by cases h) hr7 hg7 HNW.out (by have := HD.out; omega) (by have := HD.out; omega)
  have b93 : (c == 93) = false := by simpa using h93
  have HI0 := Lib.hid (HRES.out.2 h93)
  clear h93 HRES
  go_upto_region 5 with (first
    | (have _ := w5; go_at_call 51; refine (rnext_any b q 0 s w5 HL5.out.rd (by omega) (by omega)).mono ?_; rintro e w6 ⟨rfl, hg⟩; rw [Hc.out]; have HL6 := Lib.hid (HL5.out.keep (grown_none hg _) (HL5.out.rd.grown hg (by simp)) Hbn.out.1 Hbn.out.2.1); clear hg)
    | (go_at_call 35; refine Hbl.out.mono ?_; rintro e w5 ⟨rfl, hsc, hg⟩; have HL5 := Lib.hid (HL0.out.keep hg hsc Hbn.out.1 Hbn.out.2.1); clear hsc hg))
  have HR6 : Hid (Rows_ w6 N [] (.slice none 0 0) [] []) := Lib.hid (rows_nil _ _)
  have Hq := Lib.hid hq1
  have Hq2 := Lib.hid hq2
  clear Hc b93 HL5 HL0 Hbl
  go_wp2_with fail
  go_loopg [] (s.size - q) (fun d wr => ∃ (f p : Nat) (ls : List J) (vl : Value) (xs : List Value) (G : List Nat), p ≤ s.size ∧ d = s.size - p ∧ s.size + 1 ≤ f + p ∧ ls.length ≤ p ∧ Hid (RLs w wr b s p 0 N N0 Bj 4 (.slice none 0 0) ls vl) ∧ Hid (Rows_ wr N ls vl xs G) ∧
    Hid (itemsN s val false f p [] ls = RES))
  case atStart => exact ⟨s.size + 1, q, [], _, [], [], by omega, rfl, by omega, by simp, HL6, HR6, HI0⟩
  case round =>
    clear HL6 HR6 HI0 Hq Hq2
    obtain ⟨f, p, ls, vl, xs, G, hp, rfl, hf, hlp, HL, HRw, HI⟩ := hrel
    obtain ⟨A, cp, rfl, hA, hcp⟩ := ownsRow_val HRw.out.1
    have Hvl : Hid (∀ u ∈ five 4 (.slice none 0 0) (.slice A ls.length cp), u.oneCell' = true) := Lib.hid five_one
    obtain ⟨f, rfl⟩ : ∃ g, f = g + 1 := ⟨f - 1, by omega⟩
    have HLI : Hid (ListIs s val f p ls RES) := Lib.hid (by rw [← HI.out]; exact listIs s val f p ls)
    obtain ⟨c, hc⟩ : ∃ c, ch s p = c := ⟨_, rfl⟩
    have Hc := Lib.hid hc
    clear hc hcp hA HI
    have cL : wr.cell? ⟨Bj, 4, none⟩ = some (.slice A ls.length cp) := HL.out.loc.at_ rfl
    by_cases hx : ls.length = 256 ∧ beginsB c = true
    · obtain ⟨h256, hbg⟩ := hx
      have b256 : ((ls.length : Int) == 256) = true := by simp; omega
      have HE := Lib.hid (HLI.out.long h256 (by rw [Hc.out]; exact hbg))
      have Hbg := Lib.hid hbg
      clear h256 hbg
      go_wp2_with (first
        | (have _ := w3; refine wpList_load_Row rfl 29 _ rfl Bj rfl (five 4 (.slice none 0 0) (.slice A ls.length cp)) 29 HL3.out.loc _ Tryd.underlying29 rfl size29 ?_; simp only [Act.put, List.setIfInBounds_toArray, List.set_cons_zero, List.set_cons_succ])
        | (have _ := w3; refine wpList_store_Row rfl 29 _ _ rfl N0 (five 4 (.slice none 0 0) (.slice A ls.length cp)) rfl rfl 29 zero5 HL3.out.res size29 rfl Hvl.out ?_; intro w7 hr7 hg7 hs7; clear hs7; simp only [Act.put, List.setIfInBounds_toArray, List.set_cons_zero, List.set_cons_succ])
        | (have _ := w1; go_at_call 37; refine (rfail_any b p p 0 3 s w1 HL1.out.rd).mono ?_; rintro e w3 ⟨rfl, hsc, hg⟩; have HL3 := Lib.hid (HL1.out.keep hg hsc Hbn.out.1 Hbn.out.2.1); clear hsc hg)
        | (have _ := w1; go_at_call 52; refine (rbegins_any c w1).mono ?_; rintro e w2 ⟨rfl, rfl⟩; rw [Hbg.out])
        | (go_at_call 51; refine (rnext_any b p 0 s wr HL.out.rd (by omega) (by omega)).mono ?_; rintro e w1 ⟨rfl, hg⟩; rw [Hc.out]; have HL1 := Lib.hid (HL.out.keep (grown_none hg _) (HL.out.rd.grown hg (by simp)) Hbn.out.1 Hbn.out.2.1); have c1 := HL1.out.rd.i; clear hg))
      refine bodyPost_ret (v := .agg (five 4 (.slice none 0 0) (.slice A ls.length cp)).toArray) (results_cell_row (p := 4) (ty := 29) rfl _ _ N0 29 (five 4 (.slice none 0 0) (.slice A ls.length cp)).toArray (0, 0) _ rfl hr7 Tryd.underlying29 rfl size29) rfl ?_
      rw [HE.out]
      exact HL3.out.no (by decide) Hvl.out hg7 HNW.out (by have := HD.out; omega)
    · have Hn : Hid (¬ (ls.length = 256 ∧ beginsB (ch s p) = true)) := Lib.hid (by rw [Hc.out]; exact hx)
      go_upto_region 7 with fail
      go_cut [37] (fun v37 wx => v37 = .bool false ∧ Hid (RLs w wx b s p 0 N N0 Bj 4 (.slice none 0 0) ls (.slice A ls.length cp)) ∧ Hid (Rows_ wx N ls (.slice A ls.length cp) xs G))
      case first =>
        by_cases h256 : ls.length = 256
        · have b256 : ((ls.length : Int) == 256) = true := by simp; omega
          have hbg : beginsB c = false := by
            cases h : beginsB c with
            | false => rfl
            | true => exact absurd ⟨h256, h⟩ hx
          have Hbg := Lib.hid hbg
          clear h256 hbg hx
          go_wp2_with (first
            | (have _ := w1; go_at_call 52; refine (rbegins_any c w1).mono ?_; rintro e w2 ⟨rfl, rfl⟩; rw [Hbg.out])
            | (go_at_call 51; refine (rnext_any b p 0 s wr HL.out.rd (by omega) (by omega)).mono ?_; rintro e w1 ⟨rfl, hg⟩; rw [Hc.out]; have HL1 := Lib.hid (HL.out.keep (grown_none hg _) (HL.out.rd.grown hg (by simp)) Hbn.out.1 Hbn.out.2.1); have HR1 := Lib.hid (HRw.out.kept hg (fun g h _ => by simp)); clear hg))
          go_meet
          case rel => exact ⟨rfl, HL1, HR1⟩
        · have b256 : ((ls.length : Int) == 256) = false := by simp; omega
          clear hx h256
          go_wp2_with fail
          go_meet
          case rel => exact ⟨rfl, HL, HRw⟩
      case rest =>
        obtain ⟨rfl, HL1, HR1⟩ := hcut
        clear HL HRw cL hx
        cases hval : val p with
        | no j er =>
          have HX := Lib.hid hval
          have HE := Lib.hid (HLI.out.no_ Hn.out _ _ hval)
          clear hval
          go_upto_region 11 with (first
            | (have _ := w2; refine wpList_alloc_abs rfl 29 rfl zero5 _ (zero29 _) rfl ?_; intro w3 hr3 hg3 hs3; clear hs3; simp only [Act.put, List.setIfInBounds_toArray, List.set_cons_zero, List.set_cons_succ])
            | (have _ := w3; refine wpList_store_Row rfl 29 _ _ rfl w2.heap.size cs rfl rfl 29 zero5 hr3 (by rw [h5]; exact size29) (by rw [h5]; rfl) h5c ?_; intro w4 hr4 hg4 hs4; clear hs4; simp only [Act.put, List.setIfInBounds_toArray, List.set_cons_zero, List.set_cons_succ])
            | (go_at_call 36; refine (HV.out.calls p wc HL1.out.rd hp).mono ?_; intro e w2 hd; obtain ⟨cs, rfl, h5, h5c, hsc, hne, hg⟩ := hd.no HX.out; have HL2 := Lib.hid (HL1.out.keep hg hsc Hbn.out.1 Hbn.out.2.1); clear hd hsc hg))
          have hg24 : w2.grownBy w4 none := grown_own hg3 hg4 (fun x hx => .inr (by have := Option.some.inj hx; omega))
          have HL4 := Lib.hid (HL2.out.keep (grown_none hg24 _) (HL2.out.rd.grown hg24 (by simp)) Hbn.out.1 Hbn.out.2.1)
          have ce := HL4.out.rd.e
          have bne : (er != 0) = true := by simpa using hne
          clear hg3 hg4 hr3 hr4 hg24 HL2 HL1 HR1
          go_wp2_with (first
            | (have _ := w4; refine wpList_load_Row rfl 29 _ rfl Bj rfl (five 4 (.slice none 0 0) (.slice A ls.length cp)) 29 HL4.out.loc _ Tryd.underlying29 rfl size29 ?_; simp only [Act.put, List.setIfInBounds_toArray, List.set_cons_zero, List.set_cons_succ])
            | (have _ := w4; refine wpList_store_Row rfl 29 _ _ rfl N0 (five 4 (.slice none 0 0) (.slice A ls.length cp)) rfl rfl 29 zero5 HL4.out.res size29 rfl Hvl.out ?_; intro w7 hr7 hg7 hs7; clear hs7; simp only [Act.put, List.setIfInBounds_toArray, List.set_cons_zero, List.set_cons_succ]))
          refine bodyPost_ret (v := .agg (five 4 (.slice none 0 0) (.slice A ls.length cp)).toArray) (results_cell_row (p := 4) (ty := 29) rfl _ _ N0 29 (five 4 (.slice none 0 0) (.slice A ls.length cp)).toArray (0, 0) _ rfl hr7 Tryd.underlying29 rfl size29) rfl ?_
          rw [HE.out]
          exact HL4.out.no hne Hvl.out hg7 HNW.out (by have := HD.out; omega)
        | ok v j =>
          have HX := Lib.hid hval
          obtain ⟨hj1, hj2⟩ := HV.out.fwd p v j hp hval
          clear hval
          go_upto_region 11 with (first
            | (have _ := w2; refine wpList_alloc_abs rfl 29 rfl zero5 _ (zero29 _) rfl ?_; intro w3 hr3 hg3 hs3; clear hs3; simp only [Act.put, List.setIfInBounds_toArray, List.set_cons_zero, List.set_cons_succ])
            | (have _ := w3; refine wpList_store_Row rfl 29 _ _ rfl w2.heap.size cs rfl rfl 29 zero5 hr3 (by rw [Hj.out.five.1]; exact size29) (by rw [Hj.out.five.1]; rfl) Hj.out.cells ?_; intro w4 hr4 hg4 hs4; clear hs4; simp only [Act.put, List.setIfInBounds_toArray, List.set_cons_zero, List.set_cons_succ])
            | (go_at_call 36; refine (HV.out.calls p wc HL1.out.rd hp).mono ?_; intro e w2 hd; obtain ⟨cs, F, rfl, hj, hsc, hg⟩ := hd.ok HX.out; have Hg2 := Lib.hid hg; have Hj := Lib.hid hj; have Hsc := Lib.hid hsc; clear hd hsc hg hj))
          have hg24 : w2.grownBy w4 none := grown_own hg3 hg4 (fun x hx => .inr (by have := Option.some.inj hx; omega))
          have Hr4 := Lib.hid hr4
          have Hg24 := Lib.hid hg24
          have HL4 := Lib.hid ((HL1.out.keep Hg2.out Hsc.out Hbn.out.1 Hbn.out.2.1).keep (grown_none hg24 _) (Hsc.out.grown hg24 (by simp)) Hbn.out.1 Hbn.out.2.1)
          have HR4 := Lib.hid ((HR1.out.kept Hg2.out (fun g h _ => Hbn.out.2.2 g h)).kept hg24 (fun _ _ _ => by simp))
          have ce := HL4.out.rd.e
          have cL : w4.cell? ⟨Bj, 4, none⟩ = some (.slice A ls.length cp) := HL4.out.loc.at_ rfl
          have hln : ls.length ≤ 1073741824 := by omega
          have hw4 := hr4.lt
          obtain ⟨B6, hB6⟩ : ∃ x, w2.heap.size = x := ⟨_, rfl⟩
          rw [hB6] at Hr4 ⊢
          clear hg3 hg4 hr3 hr4 hg24 hB6
          go_upto_region 14 with (first
            | (have _ := w5; refine wpList_append29 rfl (.tmp 56) (.tmp 58) rfl N (.slice A ls.length cp) ls.length xs rfl (HR4.out.kept hg5 (fun _ _ _ => by simp)).1 w4.heap.size cs rfl hr5 Hj.out.five.1 Hj.out.cells hln (Nat.le_trans HL4.out.big hg5.size) ?_
               intro v6 w6 ho6 hg6 hl6
               obtain ⟨A6, c6, rfl, -, -⟩ := ownsRow_val ho6
               have Hst := Lib.hid (HL1.out.step HR1.out Hg2.out Hsc.out Hj.out (grown_own Hg24.out hg5 (by simp)) ho6 hg6 hl6 HNW.out (by have := HD.out; omega) (by have := HD.out; omega) (by have := HD.out; omega))
               have hrb : Row w6 Bj 29 (five 4 (.slice none 0 0) (.slice A ls.length cp)) := Row.grown (HL4.out.loc.grown hg5 (by simp)) hg6 (fun e => by have := (World.ownsRow.lt HR4.out.1 Bj e.symm).1; have := HD.out; omega)
               have c7 := hrb.at_ (j := 4) rfl
               have d7 := hrb.frozen 4
               clear ho6 hg6 hl6 hr5 hg5 hrb
               simp only [Act.put, List.setIfInBounds_toArray, List.set_cons_zero, List.set_cons_succ])
            | (refine wpList_build29 rfl (.tmp 57) rfl cs rfl Hj.out.five.1 ?_; intro w5 hr5 hg5; simp only [Act.put, List.setIfInBounds_toArray, List.set_cons_zero, List.set_cons_succ])
            | (refine wpList_load_Row rfl 29 _ rfl B6 rfl cs 29 Hr4.out _ Tryd.underlying29 rfl (by rw [Hj.out.five.1]; exact size29) ?_; simp only [Act.put, List.setIfInBounds_toArray, List.set_cons_zero, List.set_cons_succ]))
          obtain ⟨M, hM⟩ : ∃ M, ls.length + 1 = M := ⟨_, rfl⟩
          rw [hM] at Hst ⊢
          have HM := Lib.hid hM
          generalize hw7 : w6.setCell ⟨Bj, 4, none⟩ (.slice A6 M c6) = w7 at Hst ⊢
          have HL7 := Lib.hid Hst.out.1
          have HR7 := Lib.hid Hst.out.2
          have Hv7 : Hid (∀ u ∈ (five 4 (.slice none 0 0) (.slice A6 M c6)), u.oneCell' = true) := Lib.hid five_one
          clear hM hw7 Hst c7 d7 ce cL hln hw4 Hr4 Hg24 HL4 HR4 HL1 HR1 Hg2 Hj Hsc Hvl
          have hk1 := skip_ge s j
          have hk2 := skip_le hj2
          have hbl := rblanks_any b j 0 s w7 HL7.out.rd (by omega) hj2
          have hend := HLI.out.end_ Hn.out v j HX.out
          have hmore := HLI.out.more Hn.out v j HX.out
          have hbad := HLI.out.bad Hn.out v j HX.out
          obtain ⟨k, hk⟩ : ∃ k, skip s j = k := ⟨_, rfl⟩
          rw [hk] at hk1 hk2 hbl hend hmore hbad
          obtain ⟨c2, hc2⟩ : ∃ c, ch s k = c := ⟨_, rfl⟩
          have hlt2 := ch_pos (s := s) (i := k)
          rw [hc2] at hend hmore hbad hlt2
          have Hc2 := Lib.hid hc2
          have Hbl := Lib.hid hbl
          have Hend := Lib.hid hend
          have Hmore := Lib.hid hmore
          have Hbad := Lib.hid hbad
          have Hlt2 := Lib.hid hlt2
          clear hk hc2 hbl hend hmore hbad hlt2
          go_upto_region 16 with (first
            | (have _ := w8; go_at_call 51; refine (rnext_any b k 0 s w8 HL8.out.rd (by omega) (by omega)).mono ?_; rintro e w9 ⟨rfl, hg⟩; rw [Hc2.out]; have HL9 := Lib.hid (HL8.out.keep (grown_none hg _) (HL8.out.rd.grown hg (by simp)) Hbn.out.1 Hbn.out.2.1); have HR9 := Lib.hid (HR8.out.kept hg (fun _ _ _ => by simp)); have c9 := HL9.out.rd.i; have d9 := HL9.out.rd.free 1; clear hg)
            | (go_at_call 35; refine Hbl.out.mono ?_; rintro e w8 ⟨rfl, hsc, hg⟩; have HL8 := Lib.hid (HL7.out.keep hg hsc Hbn.out.1 Hbn.out.2.1); have HR8 := Lib.hid (HR7.out.kept hg (fun g h _ => Hbn.out.2.2 g h)); clear hsc hg))
          by_cases h93 : c2 = 93
          · subst h93
            have HE := Lib.hid (Hend.out rfl)
            go_wp2_with (first
              | (refine wpList_load_Row rfl 29 _ rfl Bj rfl (five 4 (.slice none 0 0) (.slice A6 M c6)) 29 (Row.set_other HL9.out.loc Hbn.out.2.1 _ _) _ Tryd.underlying29 rfl size29 ?_; simp only [Act.put, List.setIfInBounds_toArray, List.set_cons_zero, List.set_cons_succ])
              | (refine wpList_store_Row rfl 29 _ _ rfl N0 (five 4 (.slice none 0 0) (.slice A6 M c6)) rfl rfl 29 zero5 (Row.set_other HL9.out.res Hbn.out.1 _ _) size29 rfl Hv7.out ?_; intro w10 hr10 hg10 hs10; clear hs10; simp only [Act.put, List.setIfInBounds_toArray, List.set_cons_zero, List.set_cons_succ]))
            refine bodyPost_ret (v := .agg (five 4 (.slice none 0 0) (.slice A6 M c6)).toArray) (results_cell_row (p := 4) (ty := 29) rfl _ _ N0 29 (five 4 (.slice none 0 0) (.slice A6 M c6)).toArray (0, 0) _ rfl hr10 Tryd.underlying29 rfl size29) rfl ?_
            rw [HE.out]
            exact HL9.out.done HR9.out (ks := []) (World.ownsRow_nil _ _ _ _) (fun g h => by cases h) hr10 hg10 HNW.out (by have := HD.out; omega) (by have := HD.out; omega)
          have b93 : (c2 == 93) = false := by simpa using h93
          have bn93 : (c2 != 93) = true := by simpa using h93
          by_cases h44 : c2 = 44
          · subst h44
            have HE := Lib.hid (Hmore.out rfl)
            have hlt3 := Hlt2.out (by decide)
            go_upto_region 22 with fail
            have e2 : (k : Int) + 1 = ((k + 1 : Nat) : Int) := by omega
            rw [e2]
            clear e2
            have hgs := grown_set (grown_refl w9 (some b)) (.inl rfl) 1 (.int .i64 ((k + 1 : Nat) : Int))
            have HL10 := Lib.hid (HL9.out.keep hgs (HL9.out.rd.set (k + 1)) Hbn.out.1 Hbn.out.2.1)
            have HR10 := Lib.hid (HR9.out.kept hgs (fun g h _ => Hbn.out.2.2 g h))
            generalize hw10 : w9.setCell ⟨b, 1, none⟩ (.int .i64 ((k + 1 : Nat) : Int)) = w10 at HL10 HR10 ⊢
            clear hgs hw10 c9 d9
            have hm1 := skip_ge s (k + 1)
            have hm2 := skip_le (s := s) (i := k + 1) (by omega)
            go_wp2_with (go_at_call 35; refine (rblanks_any b (k + 1) 0 s w10 HL10.out.rd (by omega) (by omega)).mono ?_; rintro e w11 ⟨rfl, hsc, hg⟩; have HL11 := Lib.hid (HL10.out.keep hg hsc Hbn.out.1 Hbn.out.2.1); have HR11 := Lib.hid (HR10.out.kept hg (fun g h _ => Hbn.out.2.2 g h)); clear hsc hg)
            go_roundg (s.size - skip s (k + 1))
            case measure => omega
            case rel => exact ⟨f, skip s (k + 1), ls ++ [v], _, xs ++ cs, G ++ F, hm2, rfl, by omega, by rw [List.length_append]; simp; omega, HL11, HR11, HE⟩
          · have HE := Lib.hid (Hbad.out h93 h44)
            have b44 : (c2 == 44) = false := by simpa using h44
            have bn44 : (c2 != 44) = true := by simpa using h44
            clear h93 h44
            go_wp2_with (first
              | (have _ := w10; refine wpList_load_Row rfl 29 _ rfl Bj rfl (five 4 (.slice none 0 0) (.slice A6 M c6)) 29 HL10.out.loc _ Tryd.underlying29 rfl size29 ?_; simp only [Act.put, List.setIfInBounds_toArray, List.set_cons_zero, List.set_cons_succ])
              | (have _ := w10; refine wpList_store_Row rfl 29 _ _ rfl N0 (five 4 (.slice none 0 0) (.slice A6 M c6)) rfl rfl 29 zero5 HL10.out.res size29 rfl Hv7.out ?_; intro w11 hr11 hg11 hs11; clear hs11; simp only [Act.put, List.setIfInBounds_toArray, List.set_cons_zero, List.set_cons_succ])
              | (go_at_call 37; refine (rfail_any b k k 0 130 s w9 HL9.out.rd).mono ?_; rintro e w10 ⟨rfl, hsc, hg⟩; have HL10 := Lib.hid (HL9.out.keep hg hsc Hbn.out.1 Hbn.out.2.1); clear hsc hg))
            refine bodyPost_ret (v := .agg (five 4 (.slice none 0 0) (.slice A6 M c6)).toArray) (results_cell_row (p := 4) (ty := 29) rfl _ _ N0 29 (five 4 (.slice none 0 0) (.slice A6 M c6)).toArray (0, 0) _ rfl hr11 Tryd.underlying29 rfl size29) rfl ?_
            rw [HE.out]
            exact HL10.out.no (by decide) Hv7.out hg11 HNW.out (by have := HD.out; omega)
end Go.Proofs.YtlbilofnbhhmjaaDoor
