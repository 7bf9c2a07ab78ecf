/- The nil State: Add does nothing, Sum is zeros, Copy is nil; and place. -/
import Derived.Test.YtkfdaeipfjcibaaDoorCopy
namespace Go.Proofs.YtkfdaeipfjcibaaDoor
open Go.RowKit
set_option linter.unusedVariables false
set_option linter.unusedSimpArgs false
set_option maxHeartbeats 400000 in
set_option maxRecDepth 100000 in
theorem copy_nil (w : World) : Calls Tryd.prog 17 #[.pointer none] w fun e w' => e = .returned (.pointer none) ∧ w = w' := by
  go_enter Tryd.func17, Tryd.ntmps17
  go_wp2
  go_ret
  exact ⟨rfl, rfl⟩
set_option maxHeartbeats 400000 in
set_option maxRecDepth 100000 in
theorem add_nil (A : Option Addr) (n c : Nat) (w : World) : Calls Tryd.prog 15 #[.pointer none, .slice A n c] w fun e w' => e = .returned (.tuple #[]) ∧ w = w' := by
  go_enter Tryd.func15, Tryd.ntmps15
  go_wp2
  exact bodyPost_ret (results_none rfl _ _ _) rfl ⟨rfl, rfl⟩
set_option maxHeartbeats 400000 in
set_option maxRecDepth 100000 in
theorem fin_nil (w : World) : Calls Tryd.prog 16 #[.pointer none] w fun e w' => e = .returned (.agg z32.toArray) ∧ Below w.heap.size w w' := by
  have H1 := Lib.hid (show ∀ v ∈ z32, v.oneCell' = true by decide)
  go_enter Tryd.func16, Tryd.ntmps16
  go_wp2_with (first
    | (refine wpList_alloc_abs rfl 25 rfl z32 _ (zero25 _) rfl ?_; intro w1 hr1 hg1 hs1; simp only [Act.put, List.setIfInBounds_toArray, List.set_cons_zero, List.set_cons_succ])
    | (have _ := w1; refine wpList_load_Row rfl 25 _ rfl w.heap.size rfl z32 25 hr1 _ Tryd.underlying25 rfl size25 ?_; simp only [Act.put, List.setIfInBounds_toArray, List.set_cons_zero, List.set_cons_succ])
    | (have _ := w1; refine wpList_store_Row rfl 25 _ _ rfl w.heap.size z32 rfl rfl 25 z32 hr1 size25 rfl H1.out ?_; intro w2 hr2 hg2 hs2; simp only [Act.put, List.setIfInBounds_toArray, List.set_cons_zero, List.set_cons_succ]))
  refine bodyPost_ret (v := .agg z32.toArray) (results_cell_row (p := 2) (ty := 25) rfl _ _ w.heap.size 25 z32.toArray (0, 0) _ rfl hr2 Tryd.underlying25 rfl size25) rfl ⟨rfl, ?_⟩
  exact below_of_grown (grown_own hg1 hg2 (by intro i hi; right; simp at hi; omega))
set_option maxHeartbeats 400000 in
set_option maxRecDepth 100000 in
theorem place_any (n : Int) (w : World) : Calls Tryd.prog 14 #[.int .i64 n] w fun e w' => (∃ k : Nat, k < 4 ∧ e = .returned (.int .i64 (k : Int))) ∧ w = w' := by
  have h1 : n.tmod 4 < 4 := Int.tmod_lt_of_pos n (by decide)
  have h2 : -4 < n.tmod 4 := Int.lt_tmod_of_pos n (by decide)
  go_enter Tryd.func14, Tryd.ntmps14
  go_wp2
  all_goals go_ret
  · exact ⟨⟨(n.tmod 4 + 4).toNat, by omega, by show Ending.returned (.int .i64 _) = _; congr 2; omega⟩, rfl⟩
  · exact ⟨⟨(n.tmod 4).toNat, by omega, by show Ending.returned (.int .i64 _) = _; congr 2; omega⟩, rfl⟩
end Go.Proofs.YtkfdaeipfjcibaaDoor
