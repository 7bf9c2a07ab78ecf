/- The reference's reader: an object. -/
import Derived.Test.YtlbilofnbhhmjaaDoorRLs
namespace Go.Proofs.YtlbilofnbhhmjaaDoor
open Go.RowKit
set_option linter.unusedVariables false
set_option linter.unusedSimpArgs false
set_option maxHeartbeats 6400000 in
set_option maxRecDepth 100000 in
theorem robject_any (b i : Nat) (dep : Int) (s : ByteArray) (val : Nat → R J) (w : World) (hV : RValIs s b dep val) (hr : Sc w b s i 0) (hs : s.size ≤ 1073741824) (hi : i < s.size) (hd0 : 0 ≤ dep) (hd1 : dep ≤ 1000) :
    Calls Tryd.prog 53 #[.pointer (some ⟨b, 0, none⟩), .int .i64 dep] w (RDoesJ (members s val true i) b s w) := by
  obtain ⟨RES, hR⟩ : ∃ r, members s val true i = r := ⟨_, rfl⟩
  rw [hR]
  have HR := Lib.hid hR
  have Hr := Lib.hid hr
  have HV := Lib.hid hV
  have H1 := Lib.hid (show ∀ v ∈ five 5 (.slice none 0 0) (.slice none 0 0), v.oneCell' = true by decide)
  clear hR hr hV
  go_enter Tryd.func53, Tryd.ntmps53
  go_upto_region 2 with (first
    | (have _ := w2; refine wpList_store_Row rfl 29 _ _ rfl w1.heap.size (five 5 (.slice none 0 0) (.slice none 0 0)) rfl rfl 29 zero5 hr2 size29 rfl H1.out ?_; intro w3 hr3 hg3 hs3; clear hs3; simp only [Act.put, List.setIfInBounds_toArray, List.set_cons_zero, List.set_cons_succ])
    | (have _ := w1; refine wpList_alloc_abs rfl 29 rfl zero5 _ (zero29 _) rfl ?_; intro w2 hr2 hg2 hs2; clear hs2; simp only [Act.put, List.setIfInBounds_toArray, List.set_cons_zero, List.set_cons_succ])
    | (refine wpList_alloc_abs rfl 29 rfl zero5 _ (zero29 _) rfl ?_; intro w1 hr1 hg1 hs1; simp only [Act.put, List.setIfInBounds_toArray, List.set_cons_zero, List.set_cons_succ]))
  have hg4 : w.grownBy w3 none := grown_own (grown_own hg1 hg2 (by simp)) hg3 (fun x hx => .inr (by have := Option.some.inj hx; omega))
  have hBr : Row w3 w.heap.size 29 zero5 := (hr1.grown hg2 (by simp)).grown hg3 (by simp; omega)
  obtain ⟨N0, hN0⟩ : ∃ n, w.heap.size = n := ⟨_, rfl⟩
  have HNW : Hid (w.heap.size ≤ N0) := Lib.hid (by omega)
  obtain ⟨Bj, hBjn⟩ : ∃ n, w1.heap.size = n := ⟨_, rfl⟩
  obtain ⟨N, hN⟩ : ∃ n, w3.heap.size = n := ⟨_, rfl⟩
  rw [hN0] at hBr hs1 ⊢
  rw [hBjn] at hr3 hs1 ⊢
  have HD : Hid (b < N0 ∧ N0 < Bj ∧ Bj < N) := Lib.hid ⟨by rw [← hN0]; exact Hr.out.lt, by omega, by rw [← hN]; exact hr3.lt⟩
  have Hr3 : Hid (Sc w3 b s i 0) := Lib.hid (Hr.out.grown hg4 (by simp))
  have HG3 := Lib.hid hg4
  have HBr := Lib.hid hBr
  have HBj := Lib.hid hr3
  have HN := Lib.hid hN
  clear hg1 hg2 hg3 hr1 hr2 hr3 hs1 hg4 hBr hN0 hBjn hN
  have c1 := Hr3.out.i
  have d1 := Hr3.out.free 1
  go_upto_region 3 with fail
  have HL0 : Hid (RLs w (w3.setCell ⟨b, 1, none⟩ (.int .i64 ((i + 1 : Nat) : Int))) b s (i + 1) 0 N N0 Bj 5 (.slice none 0 0) [] (.slice none 0 0)) := Lib.hid (by
    have hd := HD.out
    have hgs := grown_set (grown_refl w3 (some b)) (.inl rfl) 1 (.int .i64 ((i + 1 : Nat) : Int))
    exact ⟨Hr3.out.set (i + 1), HBr.out.grown hgs (by simp; omega), HBj.out.grown hgs (by simp; omega), grown_trans (grown_none HG3.out _) hgs, by rw [← HN.out]; exact hgs.size⟩)
  have e1 : (i : Int) + 1 = ((i + 1 : Nat) : Int) := by omega
  rw [e1]
  clear e1
  generalize hW4 : w3.setCell ⟨b, 1, none⟩ (.int .i64 ((i + 1 : Nat) : Int)) = W4 at HL0 ⊢
  clear hW4 c1 d1 HBr HBj Hr3 HG3
  have Hbn : Hid (N0 ≠ b ∧ Bj ≠ b ∧ ∀ g, N ≤ g → some g ≠ some b) := Lib.hid (by have := HD.out; exact ⟨by omega, by omega, fun g hg e => by have := Option.some.inj e; omega⟩)
  have hq1 := skip_ge s (i + 1)
  have hq2 := skip_le (s := s) (i := i + 1) (by omega)
  have hRES : (ch s (skip s (i + 1)) = 125 → RES = .ok (.mk 5 false ⟨#[]⟩ [] []) (skip s (i + 1) + 1)) ∧ (ch s (skip s (i + 1)) ≠ 125 → itemsN s val true (s.size + 1) (skip s (i + 1)) [] [] = RES) := by
    refine ⟨fun h => ?_, fun h => ?_⟩
    · rw [← HR.out]; unfold members; simp only [if_true]; rw [if_pos h]
    · rw [← HR.out]; unfold members; simp only [if_true]; rw [if_neg h]
  have hbl := rblanks_any b (i + 1) 0 s W4 HL0.out.rd (by omega) (by omega)
  obtain ⟨q, hq⟩ : ∃ q, skip s (i + 1) = q := ⟨_, rfl⟩
  rw [hq] at hq1 hq2 hRES hbl
  obtain ⟨c, hc⟩ : ∃ c, ch s q = c := ⟨_, rfl⟩
  rw [hc] at hRES
  have Hc := Lib.hid hc
  have Hbl := Lib.hid hbl
  have HRES := Lib.hid hRES
  clear hq hc hRES hbl HR
  by_cases h93 : c = 125
  · have HE := Lib.hid (HRES.out.1 h93)
    subst h93
    go_wp2_with (first
      | (have _ := w6; refine wpList_load_Row rfl 29 _ rfl Bj rfl (five 5 (.slice none 0 0) (.slice none 0 0)) 29 (Row.set_other HL6.out.loc Hbn.out.2.1 _ _) _ Tryd.underlying29 rfl size29 ?_; simp only [Act.put, List.setIfInBounds_toArray, List.set_cons_zero, List.set_cons_succ])
      | (have _ := w6; refine wpList_store_Row rfl 29 _ _ rfl N0 (five 5 (.slice none 0 0) (.slice none 0 0)) rfl rfl 29 zero5 (Row.set_other HL6.out.res Hbn.out.1 _ _) size29 rfl H1.out ?_; intro w7 hr7 hg7 hs7; clear hs7; simp only [Act.put, List.setIfInBounds_toArray, List.set_cons_zero, List.set_cons_succ])
      | (have _ := w5; go_at_call 51; refine (rnext_any b q 0 s w5 HL5.out.rd (by omega) (by omega)).mono ?_; rintro e w6 ⟨rfl, hg⟩; rw [Hc.out]; have HL6 := Lib.hid (HL5.out.keep (grown_none hg _) (HL5.out.rd.grown hg (by simp)) Hbn.out.1 Hbn.out.2.1); have c6 := HL6.out.rd.i; have d6 := HL6.out.rd.free 1; clear hg)
      | (go_at_call 35; refine Hbl.out.mono ?_; rintro e w5 ⟨rfl, hsc, hg⟩; have HL5 := Lib.hid (HL0.out.keep hg hsc Hbn.out.1 Hbn.out.2.1); clear hsc hg))
    refine bodyPost_ret (v := .agg (five 5 (.slice none 0 0) (.slice none 0 0)).toArray) (results_cell_row (p := 4) (ty := 29) rfl _ _ N0 29 (five 5 (.slice none 0 0) (.slice none 0 0)).toArray (0, 0) _ rfl hr7 Tryd.underlying29 rfl size29) rfl ?_
    rw [HE.out]
    exact HL6.out.done (rows_nil _ _) (ks := []) (World.ownsRow_nil _ _ _ _) (fun g h => by cases h) hr7 hg7 HNW.out (by have := HD.out; omega) (by have := HD.out; omega)
  have b93 : (c == 125) = false := by simpa using h93
  have HI0 := Lib.hid (HRES.out.2 h93)
  clear h93 HRES
  go_upto_region 5 with (first
    | (have _ := w5; go_at_call 51; refine (rnext_any b q 0 s w5 HL5.out.rd (by omega) (by omega)).mono ?_; rintro e w6 ⟨rfl, hg⟩; rw [Hc.out]; have HL6 := Lib.hid (HL5.out.keep (grown_none hg _) (HL5.out.rd.grown hg (by simp)) Hbn.out.1 Hbn.out.2.1); clear hg)
    | (go_at_call 35; refine Hbl.out.mono ?_; rintro e w5 ⟨rfl, hsc, hg⟩; have HL5 := Lib.hid (HL0.out.keep hg hsc Hbn.out.1 Hbn.out.2.1); clear hsc hg))
  have HO6 : Hid (ROb w w6 b s q 0 N N0 Bj [] [] (.slice none 0 0) (.slice none 0 0) [] []) := Lib.hid ⟨HL6.out, rows_nil _ _, World.ownsRow_nil _ _ _ _, fun g h => by cases h⟩
  have Hq := Lib.hid hq1
  have Hq2 := Lib.hid hq2
  clear Hc b93 HL5 HL0 Hbl HL6
  go_wp2_with fail
  go_loopg [] (s.size - q) (fun d wr => ∃ (f p : Nat) (ks : List ByteArray) (ls : List J) (vk vl : Value) (xs : List Value) (G : List Nat), p ≤ s.size ∧ d = s.size - p ∧ s.size + 1 ≤ f + p ∧ ks.length ≤ 256 ∧ ls.length = ks.length ∧ Hid (ROb w wr b s p 0 N N0 Bj ks ls vk vl xs G) ∧
    Hid (itemsN s val true f p ks ls = RES))
  case atStart => exact ⟨s.size + 1, q, [], [], _, _, [], [], by omega, rfl, by omega, by simp, rfl, HO6, HI0⟩
  case round =>
    clear HO6 HI0 Hq Hq2
    obtain ⟨f, p, ks, ls, vk, vl, xs, G, hp, rfl, hf, hkl, hkls, HO, HI⟩ := hrel
    obtain ⟨A, cp, rfl, hA, hcp⟩ := ownsRow_val HO.out.rows.1
    obtain ⟨A9, cp9, rfl, hA9, hcp9⟩ := ownsRow_val HO.out.keys
    have HKL := Lib.hid hkls
    have Hvl : Hid (∀ u ∈ (five 5 (.slice A9 ks.length cp9) (.slice A ls.length cp)), u.oneCell' = true) := Lib.hid five_one
    have Hbn3 : Hid (b < N) := Lib.hid (by have := HD.out; omega)
    obtain ⟨f, rfl⟩ : ∃ g, f = g + 1 := ⟨f - 1, by omega⟩
    have HLI : Hid (ObIs s val f p ks ls RES) := Lib.hid (by rw [← HI.out]; exact obIs s val f p ks ls)
    clear hcp hA hcp9 hA9 HI hkls
    have cK : wr.cell? ⟨Bj, 3, none⟩ = some (.slice A9 ks.length cp9) := HO.out.at_.loc.at_ rfl
    cases hkey : jkey s ks p with
    | no j er =>
      have HX := Lib.hid hkey
      have HE := Lib.hid (HLI.out.keyNo _ _ hkey)
      clear hkey
      go_upto_region 8 with (go_at_call 75; refine (rkey_any b p s A9 cp9 ks wr HO.out.at_.rd (HO.out.ksAt Hbn3.out) hs hp hkl).mono ?_; intro e w2 hd; obtain ⟨v2, rfl, rfl, hsc, hne, hg⟩ := hd.no HX.out; have HO2 := Lib.hid (HO.out.kept hg hsc Hbn.out.1 Hbn.out.2.1 Hbn3.out); clear hd hsc hg)
      have ce := HO2.out.at_.rd.e
      have bne : (er != 0) = true := by simpa using hne
      go_wp2_with (first
        | (refine wpList_load_Row rfl 29 _ rfl Bj rfl (five 5 (.slice A9 ks.length cp9) (.slice A ls.length cp)) 29 HO2.out.at_.loc _ Tryd.underlying29 rfl size29 ?_; simp only [Act.put, List.setIfInBounds_toArray, List.set_cons_zero, List.set_cons_succ])
        | (have _ := w2; refine wpList_store_Row rfl 29 _ _ rfl N0 (five 5 (.slice A9 ks.length cp9) (.slice A ls.length cp)) rfl rfl 29 zero5 HO2.out.at_.res size29 rfl Hvl.out ?_; intro w20 hr20 hg20 hs20; clear hs20; simp only [Act.put, List.setIfInBounds_toArray, List.set_cons_zero, List.set_cons_succ]))
      refine bodyPost_ret (v := .agg (five 5 (.slice A9 ks.length cp9) (.slice A ls.length cp)).toArray) (results_cell_row (p := 4) (ty := 29) rfl _ _ N0 29 (five 5 (.slice A9 ks.length cp9) (.slice A ls.length cp)).toArray (0, 0) _ rfl hr20 Tryd.underlying29 rfl size29) rfl ?_
      rw [HE.out]
      exact HO2.out.at_.no hne Hvl.out hg20 HNW.out (by have := HD.out; omega)
    | ok key j0 =>
      have HX0 := Lib.hid hkey
      obtain ⟨hj01, hj02, _, hk256⟩ := jkey_ok hp hkey
      clear hkey
      go_upto_region 10 with (go_at_call 75; refine (rkey_any b p s A9 cp9 ks wr HO.out.at_.rd (HO.out.ksAt Hbn3.out) hs hp hkl).mono ?_; intro e w2 hd; obtain ⟨rfl, hsc, hg⟩ := hd.ok HX0.out; have HO2 := Lib.hid (HO.out.kept hg hsc Hbn.out.1 Hbn.out.2.1 Hbn3.out); have ce := hsc.e; clear hd hsc hg)
      clear cK ce HO
      cases hval : val j0 with
      | no j er =>
        have HX := Lib.hid hval
        have HE := Lib.hid (HLI.out.valNo _ _ HX0.out _ _ hval)
        clear hval
        go_upto_region 11 with (first
          | (have _ := w3; refine wpList_alloc_abs rfl 29 rfl zero5 _ (zero29 _) rfl ?_; intro w4 hr4 hg4 hs4; clear hs4; simp only [Act.put, List.setIfInBounds_toArray, List.set_cons_zero, List.set_cons_succ])
          | (have _ := w4; refine wpList_store_Row rfl 29 _ _ rfl w3.heap.size cs rfl rfl 29 zero5 hr4 (by rw [h5]; exact size29) (by rw [h5]; rfl) h5c ?_; intro w5 hr5 hg5 hs5; clear hs5; simp only [Act.put, List.setIfInBounds_toArray, List.set_cons_zero, List.set_cons_succ])
          | (go_at_call 36; refine (HV.out.calls j0 w2 HO2.out.at_.rd hj02).mono ?_; intro e w3 hd; obtain ⟨cs, rfl, h5, h5c, hsc, hne, hg⟩ := hd.no HX.out; have HO3 := Lib.hid (HO2.out.kept hg hsc Hbn.out.1 Hbn.out.2.1 Hbn3.out); clear hd hsc hg))
        have HO5 := Lib.hid (HO3.out.quiet (grown_own hg4 hg5 (fun x hx => .inr (by have := Option.some.inj hx; omega))))
        have ce := HO5.out.at_.rd.e
        have bne : (er != 0) = true := by simpa using hne
        clear hg4 hg5 hr4 hr5 HO3 HO2
        go_wp2_with (first
          | (refine wpList_load_Row rfl 29 _ rfl Bj rfl (five 5 (.slice A9 ks.length cp9) (.slice A ls.length cp)) 29 HO5.out.at_.loc _ Tryd.underlying29 rfl size29 ?_; simp only [Act.put, List.setIfInBounds_toArray, List.set_cons_zero, List.set_cons_succ])
          | (have _ := w5; refine wpList_store_Row rfl 29 _ _ rfl N0 (five 5 (.slice A9 ks.length cp9) (.slice A ls.length cp)) rfl rfl 29 zero5 HO5.out.at_.res size29 rfl Hvl.out ?_; intro w20 hr20 hg20 hs20; clear hs20; simp only [Act.put, List.setIfInBounds_toArray, List.set_cons_zero, List.set_cons_succ]))
        refine bodyPost_ret (v := .agg (five 5 (.slice A9 ks.length cp9) (.slice A ls.length cp)).toArray) (results_cell_row (p := 4) (ty := 29) rfl _ _ N0 29 (five 5 (.slice A9 ks.length cp9) (.slice A ls.length cp)).toArray (0, 0) _ rfl hr20 Tryd.underlying29 rfl size29) rfl ?_
        rw [HE.out]
        exact HO5.out.at_.no hne Hvl.out hg20 HNW.out (by have := HD.out; omega)
      | ok v j =>
        have HX := Lib.hid hval
        obtain ⟨hj1, hj2⟩ := HV.out.fwd j0 v j hj02 hval
        clear hval
        go_upto_region 11 with (first
          | (have _ := w3; refine wpList_alloc_abs rfl 29 rfl zero5 _ (zero29 _) rfl ?_; intro w4 hr4 hg4 hs4; clear hs4; simp only [Act.put, List.setIfInBounds_toArray, List.set_cons_zero, List.set_cons_succ])
          | (have _ := w4; refine wpList_store_Row rfl 29 _ _ rfl w3.heap.size cs rfl rfl 29 zero5 hr4 (by rw [Hj.out.five.1]; exact size29) (by rw [Hj.out.five.1]; rfl) Hj.out.cells ?_; intro w5 hr5 hg5 hs5; clear hs5; simp only [Act.put, List.setIfInBounds_toArray, List.set_cons_zero, List.set_cons_succ])
          | (go_at_call 36; refine (HV.out.calls j0 w2 HO2.out.at_.rd hj02).mono ?_; intro e w3 hd; obtain ⟨cs, F, rfl, hj, hsc, hg⟩ := hd.ok HX.out; have HO3 := Lib.hid (HO2.out.kept hg hsc Hbn.out.1 Hbn.out.2.1 Hbn3.out); have HO3w := Lib.hid hg.size; have Hj := Lib.hid hj; clear hd hsc hg hj))
        have hg35 : w3.grownBy w5 none := grown_own hg4 hg5 (fun x hx => .inr (by have := Option.some.inj hx; omega))
        have HO5 := Lib.hid (HO3.out.quiet hg35)
        have HF5 : Hid (JAt w5 w2.heap.size v cs F) := Lib.hid (Hj.out.kept hg35 (by simp))
        have Hr5 := Lib.hid hr5
        have HN2 : Hid (N ≤ w2.heap.size) := Lib.hid HO2.out.at_.big
        have HB5 : Hid (w3.heap.size < w5.heap.size) := Lib.hid hr5.lt
        have HKb : Hid (∀ g, (Value.slice A9 ks.length cp9).ownBlock = some g → g < w2.heap.size) := Lib.hid (fun g hg => (World.ownsRow.lt HO2.out.keys g hg).2)
        have HW23 : Hid (w2.heap.size ≤ w3.heap.size) := Lib.hid HO3w.out
        have HFO : Hid (∀ g ∈ F, g ∉ obs (.slice A ls.length cp) ++ G ∧ (Value.slice A9 ks.length cp9).ownBlock ≠ some g) := Lib.hid (fun g hg => by
          have h1 := (Hj.out.lt g hg).1
          refine ⟨fun hm => ?_, fun e => by have := (World.ownsRow.lt HO2.out.keys g e).2; omega⟩
          rcases List.mem_append.1 hm with hm | hm
          · have := (World.ownsRow.lt HO2.out.rows.1 g (obs_mem.1 hm)).2; omega
          · have := (HO2.out.rows.2.1.lt g hm).2; omega)
        have HFl : Hid (∀ g ∈ F, g < w5.heap.size) := Lib.hid (fun g hg => (HF5.out.lt g hg).2)
        have HJ5 := Lib.hid Hj.out.five.1
        have HJc := Lib.hid Hj.out.cells
        obtain ⟨B6, hB6⟩ : ∃ x, w3.heap.size = x := ⟨_, rfl⟩
        rw [hB6] at Hr5 HB5 HW23 ⊢
        have ce := HO5.out.at_.rd.e
        have cK : w5.cell? ⟨Bj, 3, none⟩ = some (.slice A9 ks.length cp9) := HO5.out.at_.loc.at_ rfl
        clear hg4 hg5 hr4 hr5 HO3 HO2 Hj hg35 hB6
        go_upto_region 14 with (first
          | (have _ := w6; refine wpList_append9 rfl (.tmp 51) (.tmp 53) rfl N (.slice A9 ks.length cp9) ks.length (ks.map Value.string) rfl (World.ownsRow.kept HO5.out.keys hg6 (own_none (w := w5) _)) w5.heap.size key rfl hr6 (by omega) (Nat.le_trans HO5.out.at_.big hg6.size) ?_
             intro v7 w7 ho7 hg7 hl7
             obtain ⟨A7, c7, rfl, -, -⟩ := ownsRow_val ho7
             have HO8 := Lib.hid (HO5.out.key hg6 ho7 hg7 hl7 HNW.out (by have := HD.out; omega) (by have := HD.out; omega) (by have := HD.out; omega))
             have hne7 : ∀ x, x < N ∨ x = B6 → some x ≠ (Value.slice A9 ks.length cp9).ownBlock := fun x hx e => by
               have h1 := World.ownsRow.lt HO5.out.keys x e.symm
               rcases hx with h | h
               · omega
               · have h2 := HKb.out x e.symm; have := HW23.out; omega
             have hrb : Row w7 Bj 29 (five 5 (.slice A9 ks.length cp9) (.slice A ls.length cp)) := Row.grown (HO5.out.at_.loc.grown hg6 (by simp)) hg7 (hne7 Bj (.inl (by have := HD.out; omega)))
             have c8 := hrb.at_ (j := 3) rfl
             have d8 := hrb.frozen 3
             have Hg67 := Lib.hid (And.intro hg6 hg7)
             have Hlk : Hid (∀ g, (Value.slice A7 (ks.length + 1) c7).ownBlock = some g → (Value.slice A9 ks.length cp9).ownBlock = some g ∨ w5.heap.size ≤ g) := Lib.hid (fun g hg => by rcases hl7 g hg with h | h; exact .inl h; exact .inr (Nat.le_trans hg6.size h))
             have HJ7 : Hid (JAt w7 w2.heap.size v cs F) := Lib.hid ((HF5.out.kept hg6 (by simp)).kept hg7 (fun g hg e => by have := HKb.out g e.symm; have := (HF5.out.lt g hg).1; omega))
             have Hr7 : Hid (Row w7 B6 29 cs) := Lib.hid ((Hr5.out.grown hg6 (by simp)).grown hg7 (hne7 B6 (.inr rfl)))
             clear hr6 hrb hne7 ho7 hg6 hg7 hl7 Hg67
             simp only [Act.put, List.setIfInBounds_toArray, List.set_cons_zero, List.set_cons_succ])
          | (refine wpList_build9 rfl (.tmp 52) rfl key rfl ?_; intro w6 hr6 hg6; simp only [Act.put, List.setIfInBounds_toArray, List.set_cons_zero, List.set_cons_succ]))
        obtain ⟨L, hL⟩ : ∃ L, ks.length + 1 = L := ⟨_, rfl⟩
        rw [hL] at HO8 Hlk ⊢
        have HLk := Lib.hid hL
        have hgs : w7.grownBy (w7.setCell ⟨Bj, 3, none⟩ (.slice A7 L c7)) (some Bj) := grown_set (grown_refl _ _) (.inl rfl) _ _
        have HJ8 : Hid (JAt (w7.setCell ⟨Bj, 3, none⟩ (.slice A7 L c7)) N v cs F) := Lib.hid ((HJ7.out.kept hgs (fun g hg e => by have := Option.some.inj e; have := (HJ7.out.lt g hg).1; have := HN2.out; have := HD.out; omega)).mono HN2.out)
        have Hr8 : Hid (Row (w7.setCell ⟨Bj, 3, none⟩ (.slice A7 L c7)) B6 29 cs) := Lib.hid (Hr7.out.grown hgs (by have := HN2.out; have := HW23.out; have := HD.out; simp; omega))
        generalize hw8 : w7.setCell ⟨Bj, 3, none⟩ (.slice A7 L c7) = w8 at HO8 HJ8 Hr8 ⊢
        have HF8 : Hid (∀ g ∈ F, g ∉ obs (.slice A ls.length cp) ++ G ∧ (Value.slice A7 L c7).ownBlock ≠ some g) := Lib.hid (fun g hg => ⟨(HFO.out g hg).1, fun e => by
          rcases Hlk.out g e with h | h
          · exact (HFO.out g hg).2 h
          · have := HFl.out g hg; omega⟩)
        have cL : w8.cell? ⟨Bj, 4, none⟩ = some (.slice A ls.length cp) := HO8.out.at_.loc.at_ rfl
        have hln : ls.length ≤ 1073741824 := by have := HKL.out; omega
        have Hlsn := Lib.hid hln
        clear hL hgs hw8 c8 d8 ce cK HJ7 Hr7 Hlk hln
        go_upto_region 15 with (first
          | (have _ := w9; refine wpList_append29 rfl (.tmp 57) (.tmp 59) rfl N (.slice A ls.length cp) ls.length xs rfl (HO8.out.rows.kept hg9 (fun _ _ _ => by simp)).1 w8.heap.size cs rfl hr9 HJ5.out HJc.out Hlsn.out (Nat.le_trans HO8.out.at_.big hg9.size) ?_
             intro v10 w10 ho10 hg10 hl10
             obtain ⟨A6, c6, rfl, -, -⟩ := ownsRow_val ho10
             have HO11 := Lib.hid (HO8.out.val HJ8.out HF8.out hg9 ho10 hg10 hl10 HNW.out (by have := HD.out; omega) (by have := HD.out; omega) (by have := HD.out; omega))
             have hrb : Row w10 Bj 29 (five 5 (.slice A7 L c7) (.slice A ls.length cp)) := Row.grown (HO8.out.at_.loc.grown hg9 (by simp)) hg10 (fun e => by have := (World.ownsRow.lt HO8.out.rows.1 Bj e.symm).1; have := HD.out; omega)
             have c11 := hrb.at_ (j := 4) rfl
             have d11 := hrb.frozen 4
             clear ho10 hg10 hl10 hr9 hg9 hrb
             simp only [Act.put, List.setIfInBounds_toArray, List.set_cons_zero, List.set_cons_succ])
          | (refine wpList_build29 rfl (.tmp 58) rfl cs rfl HJ5.out ?_; intro w9 hr9 hg9; simp only [Act.put, List.setIfInBounds_toArray, List.set_cons_zero, List.set_cons_succ])
          | (refine wpList_load_Row rfl 29 _ rfl B6 rfl cs 29 Hr8.out _ Tryd.underlying29 rfl (by rw [HJ5.out]; exact size29) ?_; simp only [Act.put, List.setIfInBounds_toArray, List.set_cons_zero, List.set_cons_succ]))
        obtain ⟨M, hM⟩ : ∃ M, ls.length + 1 = M := ⟨_, rfl⟩
        rw [hM] at HO11 ⊢
        have HM := Lib.hid hM
        generalize hw11 : w10.setCell ⟨Bj, 4, none⟩ (.slice A6 M c6) = w11 at HO11 ⊢
        have Hv7 : Hid (∀ u ∈ (five 5 (.slice A7 L c7) (.slice A6 M c6)), u.oneCell' = true) := Lib.hid five_one
        clear hM hw11 c11 d11 cL Hr8 HO8 HJ8 HF8 Hr5 HO5 HF5 HFO HFl HJ5 HJc HKb HB5 HN2 HW23 HO3w
        have hk1 := skip_ge s j
        have hk2 := skip_le hj2
        have hbl := rblanks_any b j 0 s w11 HO11.out.at_.rd (by omega) hj2
        have hend := HLI.out.end_ _ _ HX0.out v j HX.out
        have hmore := HLI.out.more _ _ HX0.out v j HX.out
        have hbad := HLI.out.bad _ _ HX0.out v j HX.out
        obtain ⟨k, hk⟩ : ∃ k, skip s j = k := ⟨_, rfl⟩
        rw [hk] at hk1 hk2 hbl hend hmore hbad
        obtain ⟨c2, hc2⟩ : ∃ c, ch s k = c := ⟨_, rfl⟩
        have hlt2 := ch_pos (s := s) (i := k)
        rw [hc2] at hend hmore hbad hlt2
        have Hc2 := Lib.hid hc2
        have Hbl := Lib.hid hbl
        have Hend := Lib.hid hend
        have Hmore := Lib.hid hmore
        have Hbad := Lib.hid hbad
        have Hlt2 := Lib.hid hlt2
        clear hk hc2 hbl hend hmore hbad hlt2
        go_upto_region 17 with (first
          | (have _ := w12; go_at_call 51; refine (rnext_any b k 0 s w12 HO12.out.at_.rd (by omega) (by omega)).mono ?_; rintro e w13 ⟨rfl, hg⟩; rw [Hc2.out]; have HO13 := Lib.hid (HO12.out.quiet hg); have c9 := HO13.out.at_.rd.i; have d9 := HO13.out.at_.rd.free 1; clear hg)
          | (go_at_call 35; refine Hbl.out.mono ?_; rintro e w12 ⟨rfl, hsc, hg⟩; have HO12 := Lib.hid (HO11.out.kept hg hsc Hbn.out.1 Hbn.out.2.1 Hbn3.out); clear hsc hg))
        by_cases h125 : c2 = 125
        · subst h125
          have HE := Lib.hid (Hend.out rfl)
          go_wp2_with (first
            | (refine wpList_load_Row rfl 29 _ rfl Bj rfl (five 5 (.slice A7 L c7) (.slice A6 M c6)) 29 (Row.set_other HO13.out.at_.loc Hbn.out.2.1 _ _) _ Tryd.underlying29 rfl size29 ?_; simp only [Act.put, List.setIfInBounds_toArray, List.set_cons_zero, List.set_cons_succ])
            | (have _ := w13; refine wpList_store_Row rfl 29 _ _ rfl N0 (five 5 (.slice A7 L c7) (.slice A6 M c6)) rfl rfl 29 zero5 (Row.set_other HO13.out.at_.res Hbn.out.1 _ _) size29 rfl Hv7.out ?_; intro w20 hr20 hg20 hs20; clear hs20; simp only [Act.put, List.setIfInBounds_toArray, List.set_cons_zero, List.set_cons_succ]))
          refine bodyPost_ret (v := .agg (five 5 (.slice A7 L c7) (.slice A6 M c6)).toArray) (results_cell_row (p := 4) (ty := 29) rfl _ _ N0 29 (five 5 (.slice A7 L c7) (.slice A6 M c6)).toArray (0, 0) _ rfl hr20 Tryd.underlying29 rfl size29) rfl ?_
          rw [HE.out]
          exact HO13.out.at_.done HO13.out.rows (ks := ks ++ [key]) HO13.out.keys (fun g h => HO13.out.apart g h) hr20 hg20 HNW.out (by have := HD.out; omega) (by have := HD.out; omega)
        have b125 : (c2 == 125) = false := by simpa using h125
        have bn125 : (c2 != 125) = true := by simpa using h125
        by_cases h44 : c2 = 44
        · subst h44
          have HE := Lib.hid (Hmore.out rfl)
          have hlt3 := Hlt2.out (by decide)
          go_upto_region 23 with fail
          have e2 : (k : Int) + 1 = ((k + 1 : Nat) : Int) := by omega
          rw [e2]
          clear e2
          have hgs := grown_set (grown_refl w13 (some b)) (.inl rfl) 1 (.int .i64 ((k + 1 : Nat) : Int))
          have HO14 := Lib.hid (HO13.out.kept hgs (HO13.out.at_.rd.set (k + 1)) Hbn.out.1 Hbn.out.2.1 Hbn3.out)
          generalize hw14 : w13.setCell ⟨b, 1, none⟩ (.int .i64 ((k + 1 : Nat) : Int)) = w14 at HO14 ⊢
          clear hgs hw14 c9 d9
          have hm1 := skip_ge s (k + 1)
          have hm2 := skip_le (s := s) (i := k + 1) (by omega)
          go_wp2_with (go_at_call 35; refine (rblanks_any b (k + 1) 0 s w14 HO14.out.at_.rd (by omega) (by omega)).mono ?_; rintro e w15 ⟨rfl, hsc, hg⟩; have HO15 := Lib.hid (HO14.out.kept hg hsc Hbn.out.1 Hbn.out.2.1 Hbn3.out); clear hsc hg)
          go_roundg (s.size - skip s (k + 1))
          case measure => omega
          case rel => exact ⟨f, skip s (k + 1), ks ++ [key], ls ++ [v], _, _, xs ++ cs, G ++ F, hm2, rfl, by omega, by simp; omega, by have := HKL.out; simp; omega, HO15, HE⟩
        · have HE := Lib.hid (Hbad.out h125 h44)
          have b44 : (c2 == 44) = false := by simpa using h44
          have bn44 : (c2 != 44) = true := by simpa using h44
          clear h125 h44
          go_wp2_with (first
            | (have _ := w14; refine wpList_load_Row rfl 29 _ rfl Bj rfl (five 5 (.slice A7 L c7) (.slice A6 M c6)) 29 HO14.out.at_.loc _ Tryd.underlying29 rfl size29 ?_; simp only [Act.put, List.setIfInBounds_toArray, List.set_cons_zero, List.set_cons_succ])
            | (have _ := w14; refine wpList_store_Row rfl 29 _ _ rfl N0 (five 5 (.slice A7 L c7) (.slice A6 M c6)) rfl rfl 29 zero5 HO14.out.at_.res size29 rfl Hv7.out ?_; intro w20 hr20 hg20 hs20; clear hs20; simp only [Act.put, List.setIfInBounds_toArray, List.set_cons_zero, List.set_cons_succ])
            | (go_at_call 37; refine (rfail_any b k k 0 130 s w13 HO13.out.at_.rd).mono ?_; rintro e w14 ⟨rfl, hsc, hg⟩; have HO14 := Lib.hid (HO13.out.kept hg hsc Hbn.out.1 Hbn.out.2.1 Hbn3.out); clear hsc hg))
          refine bodyPost_ret (v := .agg (five 5 (.slice A7 L c7) (.slice A6 M c6)).toArray) (results_cell_row (p := 4) (ty := 29) rfl _ _ N0 29 (five 5 (.slice A7 L c7) (.slice A6 M c6)).toArray (0, 0) _ rfl hr20 Tryd.underlying29 rfl size29) rfl ?_
          rw [HE.out]
          exact HO14.out.at_.no (by decide) Hv7.out hg20 HNW.out (by have := HD.out; omega)
end Go.Proofs.YtlbilofnbhhmjaaDoor
