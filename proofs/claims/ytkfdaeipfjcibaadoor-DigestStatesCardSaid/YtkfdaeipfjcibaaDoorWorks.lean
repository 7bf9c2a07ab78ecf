/- The anchor of the statements: the sums of no bytes and of three. -/
import Derived.Test.YtkfdaeipfjcibaaDoorSame
import Derived.Lib.SlBytesConst
namespace Go.Proofs.YtkfdaeipfjcibaaDoor
open Go.RowKit
set_option linter.unusedVariables false
set_option linter.unusedSimpArgs false
theorem src_marked (w : World) (x : List Int) (fr : Nat × Nat) : Src (w.alloc (.cells (x.map (Value.int .u8)).toArray 5 fr)) (some ⟨w.heap.size, 0, none⟩) x := fun _ => ⟨_, rfl, rfl, fun j hj => by
  rw [Nat.zero_add, World.cell?_alloc_mark]; simp [hj]⟩
theorem src_nil (w : World) : Src w none [] := fun h => absurd h (by simp)
set_option maxHeartbeats 800000 in
set_option maxRecDepth 100000 in
theorem works_any (w : World) (hK : HasK w) : Calls Tryd.prog 8 #[] w fun e w' => e = .returned (.bool true) ∧ Below w.heap.size w w' := by
  have HK := Lib.hid hK
  clear hK
  obtain ⟨s1, h1⟩ : ∃ s, sha [] = s := ⟨_, rfl⟩
  obtain ⟨s2, h2⟩ : ∃ s, sha [97, 98, 99] = s := ⟨_, rfl⟩
  have n1 := sha_nil
  have n2 := sha_abc
  have l1 := sha_length []
  have l2 := sha_length [97, 98, 99]
  rw [h1] at n1 l1
  rw [h2] at n2 l2
  obtain ⟨C1, hC1⟩ : ∃ C, s1.map (Value.int .u8) = C := ⟨_, rfl⟩
  obtain ⟨C2, hC2⟩ : ∃ C, s2.map (Value.int .u8) = C := ⟨_, rfl⟩
  have HC1l : Hid (C1.length = 32) := Lib.hid (by rw [← hC1, List.length_map, l1])
  have HC2l : Hid (C2.length = 32) := Lib.hid (by rw [← hC2, List.length_map, l2])
  have H1c := Lib.hid (show ∀ v ∈ C1, v.oneCell' = true by rw [← hC1]; exact oneCell_bytes s1)
  have H2c := Lib.hid (show ∀ v ∈ C2, v.oneCell' = true by rw [← hC2]; exact oneCell_bytes s2)
  have g10 : Hid (C1[0]? = some (.int .u8 227)) := Lib.hid (by rw [← hC1, ← n1.1]; simp [l1])
  have g11 : Hid (C1[31]? = some (.int .u8 85)) := Lib.hid (by rw [← hC1, ← n1.2]; simp [l1])
  have g20 : Hid (C2[0]? = some (.int .u8 186)) := Lib.hid (by rw [← hC2, ← n2.1]; simp [l2])
  have g21 : Hid (C2[31]? = some (.int .u8 173)) := Lib.hid (by rw [← hC2, ← n2.2]; simp [l2])
  have hd1 : Hid (∀ wx : World, HasK wx → Calls Tryd.prog 10 #[.slice none 0 0] wx fun e w' => e = .returned (.agg C1.toArray) ∧ Below wx.heap.size wx w') := Lib.hid fun wx hk =>
    (dsum_any none 0 [] wx (src_nil wx) (by simp) hk (by simp)).mono fun e w' ⟨he, hb⟩ => ⟨by rw [he, h1, ← hC1]; rfl, hb⟩
  have hd2 : Hid (∀ (wx : World) (g : Nat), Src wx (some ⟨g, 0, none⟩) [97, 98, 99] → HasK wx → Calls Tryd.prog 10 #[.slice (some ⟨g, 0, none⟩) 3 3] wx fun e w' => e = .returned (.agg C2.toArray) ∧ Below wx.heap.size wx w') := Lib.hid fun wx g hr hk =>
    (dsum_any (some ⟨g, 0, none⟩) 3 [97, 98, 99] wx hr (by simp) hk (by simp)).mono fun e w' ⟨he, hb⟩ => ⟨by rw [he, h2, ← hC2]; rfl, hb⟩
  clear h1 h2 n1 n2 l1 l2 hC1 hC2
  have hcv := fun (w : World) (C : Array Value) (n c : Nat) => Lib.run_convert_bytes_const (P := Tryd.prog) w 22 5 C n c Tryd.underlying22 Tryd.underlying5
  go_enter Tryd.func8, Tryd.ntmps8
  go_upto_region 2 with (first
    | (go_at_call 10; refine (hd1.out w HK.out).mono ?_; rintro e w1 ⟨rfl, hb1⟩; have HB1 := Lib.hid hb1; clear hb1)
    | (refine wpList_alloc_abs rfl 25 rfl z32 _ (zero25 _) rfl ?_; intro w2 hr2 hg2 hs2; clear hs2; simp only [Act.put, List.setIfInBounds_toArray, List.set_cons_zero, List.set_cons_succ])
    | (refine wpList_store_Row rfl 25 _ _ rfl w1.heap.size C1 rfl rfl 25 z32 hr2 (by rw [HC1l.out]; exact size25) (by rw [HC1l.out]; rfl) H1c.out ?_; intro w3 hr3 hg3 hs3; clear hs3; simp only [Act.put, List.setIfInBounds_toArray, List.set_cons_zero, List.set_cons_succ]
       have hG3 : Hid (w.grownBy w3 none) := Lib.hid (grown_own (grown_own (grown_of_below HB1.out none) hg2 (by simp)) hg3 (by intro i hi; right; have := HB1.out.size; simp at hi; omega))
       have HR3 := Lib.hid hr3
       clear hr2 hg2 hr3 hg3 HB1))
  go_wp2_with (first
    | (go_at_call 10; refine (hd2.out _ _ (src_marked w3 [97, 98, 99] (3, 4)) (HK.out.grown (grown_alloc hG3.out _) (by simp))).mono ?_; rintro e w5 ⟨rfl, hb5⟩
       have hG5 : Hid (w.grownBy w5 none) := Lib.hid (grown_own (grown_alloc hG3.out _) (grown_of_below hb5 none) (by simp))
       have HR5 : Hid (Row w5 w1.heap.size 25 C1) := Lib.hid ((HR3.out.alloc _).below hb5 (HR3.out.alloc _).lt)
       clear hb5 hG3 HR3)
    | (refine wpList_alloc_abs rfl 25 rfl z32 _ (zero25 _) rfl ?_; intro w6 hr6 hg6 hs6; clear hs6; simp only [Act.put, List.setIfInBounds_toArray, List.set_cons_zero, List.set_cons_succ])
    | (refine wpList_store_Row rfl 25 _ _ rfl w5.heap.size C2 rfl rfl 25 z32 hr6 (by rw [HC2l.out]; exact size25) (by rw [HC2l.out]; rfl) H2c.out ?_; intro w7 hr7 hg7 hs7; clear hs7; simp only [Act.put, List.setIfInBounds_toArray, List.set_cons_zero, List.set_cons_succ]
       have hG7 : Hid (w.grownBy w7 none) := Lib.hid (grown_own (grown_own hG5.out hg6 (by simp)) hg7 (by intro i hi; right; have := hG5.out.size; simp at hi; omega))
       have c10 := ((HR5.out.grown hg6 (by simp)).grown hg7 (by have := HR5.out.lt; simp; omega)).at_ g10.out
       have c11 := ((HR5.out.grown hg6 (by simp)).grown hg7 (by have := HR5.out.lt; simp; omega)).at_ g11.out
       have c20 := hr7.at_ g20.out
       have c21 := hr7.at_ g21.out
       clear hr6 hg6 hr7 hg7 HR5 hG5))
  go_ret
  exact ⟨rfl, below_of_grown hG7.out⟩
end Go.Proofs.YtkfdaeipfjcibaaDoor
