/- Copy of a State, no nil one: a new block with the same cells. -/
import Derived.Test.YtkfdaeipfjcibaaDoorSum
namespace Go.Proofs.YtkfdaeipfjcibaaDoor
open Go.RowKit
set_option linter.unusedVariables false
set_option linter.unusedSimpArgs false
set_option maxHeartbeats 400000 in
set_option maxRecDepth 100000 in
theorem copy_any (b : Nat) (l : List Int) (w : World) (hr : Rep w b l) :
    Calls Tryd.prog 17 #[.pointer (some ⟨b, 0, none⟩)] w fun e w' => e = .returned (.pointer (some ⟨w.heap.size, 0, none⟩)) ∧ Rep w' w.heap.size l ∧ w.grownBy w' none ∧ w.heap.size < w'.heap.size := by
  obtain ⟨blk, hfit, hrow, hln⟩ := hr
  have h1S := oneCell_stc (comps IV l (l.length / 64)) blk l.length
  have hlS := stc_length (comps IV l (l.length / 64)) blk l.length hfit.1
  obtain ⟨S, hS⟩ : ∃ S, stc (comps IV l (l.length / 64)) blk l.length = S := ⟨_, rfl⟩
  rw [hS] at hrow h1S hlS
  have HS := Lib.hid hS
  have H73 := Lib.hid hlS
  have c0 : ∃ v, S[0]? = some v := ⟨_, List.getElem?_eq_getElem (by omega)⟩
  obtain ⟨v0, hv0⟩ := c0
  have d0 := hrow.at_ hv0
  clear hS hlS hv0
  go_enter Tryd.func17, Tryd.ntmps17
  go_wp2_with (first
    | (refine wpList_load_Row rfl 50 _ rfl b rfl S 50 hrow _ Tryd.underlying50 rfl (by rw [H73.out]; exact size50) ?_)
    | (refine wpList_alloc_abs rfl 50 rfl zState _ (zero50 _) rfl ?_; intro w2 hr2 hg2 hs2; clear hs2)
    | (refine wpList_store_Row rfl 50 _ _ rfl w.heap.size S rfl rfl 50 zState hr2 (by rw [H73.out]; exact size50) (by rw [H73.out]; exact zState_length) h1S ?_; intro w3 hr3 hg3 hs3; clear hs3))
  go_ret
  refine ⟨rfl, ⟨blk, hfit, by rw [HS.out]; exact hr3, hln⟩, grown_own hg2 hg3 (by intro i hi; right; simp at hi; omega), hr3.lt⟩
end Go.Proofs.YtkfdaeipfjcibaaDoor
