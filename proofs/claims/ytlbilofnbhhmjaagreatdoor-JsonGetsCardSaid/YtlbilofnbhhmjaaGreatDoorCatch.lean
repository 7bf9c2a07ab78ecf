/- json's Parse: its deferred closure. -/
import Derived.Test.YtlbilofnbhhmjaaGreatDoorVal
import Derived.Defers
import Derived.Recover
import Derived.Laws.Pointers
namespace Go.Proofs.YtlbilofnbhhmjaaGreatDoor
open Go.RowKit
set_option linter.unusedVariables false
set_option linter.unusedSimpArgs false
set_option maxHeartbeats 800000 in
theorem catch_idle (p q r : Addr) (w : World) :
    CallsD Tryz.prog 26 #[.pointer (some p), .pointer (some q), .pointer (some r)] .returning w fun e u' w' => e = .returned (.tuple #[]) ∧ u' = .returning ∧ w' = w := by
  refine callsD_of_wpS Tryz.func26 rfl fun c₀ cs hu => ?_
  apply wpS_seq
  apply wpS_region
  simp [wpOpsS, go_sem, recoverD, hu, Tryz.ntmps26, Exit.thenS]
  refine wpS_of_wp ?_
  rw [show (#[Value.pointer (some p), Value.pointer (some q), Value.pointer (some r)] ++ (Array.replicate 14 undef).setIfInBounds 3 Value.nilIface) = #[Value.pointer (some p), Value.pointer (some q), Value.pointer (some r), undef, undef, undef, Value.nilIface, undef, undef, undef, undef, undef, undef, undef, undef, undef, undef] from rfl]
  have hn : ∀ w : World, (binOp .eql 20 .nilIface .nilIface).run Tryz.prog w = .ok (.bool true) w := fun w => by kernel_rfl
  go_wp2
  cases c₀
  simp_all [bodyPostS, results, Tryz.results26]
theorem assert52 (v : Value) (w : World) : (Instr.typeAssert (.iface 56 v) 20 56 true).run Tryz.prog w = .ok (.tuple #[v, .bool true]) w := by kernel_rfl
theorem info52 : (Tryz.prog.info? 56).map (·.size) = some 2 := by kernel_rfl
theorem zero52 (w : World) : (zeroValue 56).run Tryz.prog w = .ok (.agg #[.int .i64 0, .int .i64 0]) w := by kernel_rfl
set_option maxHeartbeats 1600000 in
set_option maxRecDepth 100000 in
theorem catch_panics (p2 p3 p4 j : Nat) (er : Int) (c3 c4 : Int) (ds : List Value) (W w : World) (h2 : Row w p2 26 ds) (hds : ds.length = 5) (h3 : Row w p3 3 [.int .i64 c3]) (h4 : Row w p4 33 [.int .i64 c4]) (hW : W.grownBy w none) (k2 : W.heap.size ≤ p2) (k3 : p2 < p3) (k4 : p3 < p4) :
    CallsD Tryz.prog 26 #[.pointer (some ⟨p2, 0, none⟩), .pointer (some ⟨p3, 0, none⟩), .pointer (some ⟨p4, 0, none⟩)] (.panicking (oops j er)) w fun e u' w' =>
      e = .returned (.tuple #[]) ∧ u' = .panicking [{ v := .iface 56 (.agg #[.int .i64 (j : Int), .int .i64 er]), recovered := true }] ∧ Row w' p2 26 zero5 ∧ Row w' p3 3 [.int .i64 j] ∧ Row w' p4 33 [.int .i64 er] ∧ W.grownBy w' none := by
  have H2 := Lib.hid h2
  have H3 := Lib.hid h3
  have H4 := Lib.hid h4
  have HW := Lib.hid hW
  clear h2 h3 h4 hW
  refine callsD_of_wpS Tryz.func26 rfl fun c₀ cs hu => ?_
  apply wpS_seq
  apply wpS_region
  unfold oops at hu
  simp [wpOpsS, go_sem, recoverD, hu, Tryz.ntmps26, Exit.thenS]
  refine wpS_of_wp ?_
  rw [show (#[Value.pointer (some ⟨p2, 0, none⟩), Value.pointer (some ⟨p3, 0, none⟩), Value.pointer (some ⟨p4, 0, none⟩)] ++ (Array.replicate 14 undef).setIfInBounds 3 (Value.iface 56 (Value.agg #[Value.int IntKind.i64 ↑j, Value.int IntKind.i64 er]))) = #[Value.pointer (some ⟨p2, 0, none⟩), Value.pointer (some ⟨p3, 0, none⟩), Value.pointer (some ⟨p4, 0, none⟩), undef, undef, undef, (Value.iface 56 (Value.agg #[Value.int IntKind.i64 ↑j, Value.int IntKind.i64 er])), undef, undef, undef, undef, undef, undef, undef, undef, undef, undef] from rfl]
  have hta := assert52
  go_upto_region 7 with (first
    | (have _ := w1; refine wpList_store_Row rfl 56 _ _ rfl w.heap.size [.int .i64 (j : Int), .int .i64 er] rfl rfl 56 [.int .i64 0, .int .i64 0] Hr1.out info52 rfl (by intro v hv; simp at hv; rcases hv with rfl | rfl <;> rfl) ?_; intro w2 hr2 hg2 hs2; have Hr2 := Lib.hid hr2; have Hg2 := Lib.hid (grown_own Hg1.out hg2 (fun x hx => .inr (by have := Option.some.inj hx; omega))); clear hr2 hg2 hs2; simp only [Act.put, List.setIfInBounds_toArray, List.set_cons_zero, List.set_cons_succ])
    | (refine wpList_alloc_abs rfl 56 rfl [.int .i64 0, .int .i64 0] _ (zero52 _) rfl ?_; intro w1 hr1 hg1 hs1; have Hg1 := Lib.hid hg1; have Hr1 := Lib.hid hr1; clear hr1 hg1 hs1; simp only [Act.put, List.setIfInBounds_toArray, List.set_cons_zero, List.set_cons_succ]))
  have HL : Hid (p4 < w.heap.size) := Lib.hid H4.out.lt
  have q2 : Hid (Row w2 p2 26 ds) := Lib.hid (H2.out.grown Hg2.out (by simp))
  have q3 : Hid (Row w2 p3 3 [.int .i64 c3]) := Lib.hid (H3.out.grown Hg2.out (by simp))
  have q4 : Hid (Row w2 p4 33 [.int .i64 c4]) := Lib.hid (H4.out.grown Hg2.out (by simp))
  have HW2 : Hid (W.grownBy w2 none) := Lib.hid (grown_trans HW.out Hg2.out)
  have Hlw : Hid (w.heap.size < w2.heap.size) := Lib.hid Hr2.out.lt
  obtain ⟨B, hB⟩ : ∃ n, w.heap.size = n := ⟨_, rfl⟩
  rw [hB] at Hr2 HL Hlw ⊢
  clear hB Hg2 Hr1 Hg1 H2 H3 H4
  have n1 : ¬ p2 = B := by have := HL.out; omega
  have n2 : ¬ p3 = B := by have := HL.out; omega
  have n3 : ¬ p4 = B := by have := HL.out; omega
  have n4 : ¬ p3 = p4 := by omega
  have n5 : ¬ p2 = p3 := by omega
  have n6 : ¬ p2 = p4 := by omega
  have l0 : w2.cell? ⟨B, 0, none⟩ = some (.int .i64 j) := Hr2.out.at_ rfl
  have l1 : w2.cell? ⟨B, 1, none⟩ = some (.int .i64 er) := Hr2.out.at_ rfl
  obtain ⟨d0, d1, d2, d3, d4, rfl⟩ := five_of hds
  have r0 : w2.cell? ⟨p2, 0, none⟩ = some d0 := q2.out.at_ rfl
  have r1 : w2.cell? ⟨p2, 1, none⟩ = some d1 := q2.out.at_ rfl
  have r2 : w2.cell? ⟨p2, 2, none⟩ = some d2 := q2.out.at_ rfl
  have r3 : w2.cell? ⟨p2, 3, none⟩ = some d3 := q2.out.at_ rfl
  have r4 : w2.cell? ⟨p2, 4, none⟩ = some d4 := q2.out.at_ rfl
  have f0 : w2.frozen? ⟨p2, 0, none⟩ = false := q2.out.frozen 0
  have f1 : w2.frozen? ⟨p2, 1, none⟩ = false := q2.out.frozen 1
  have f2 : w2.frozen? ⟨p2, 2, none⟩ = false := q2.out.frozen 2
  have f3 : w2.frozen? ⟨p2, 3, none⟩ = false := q2.out.frozen 3
  have f4 : w2.frozen? ⟨p2, 4, none⟩ = false := q2.out.frozen 4
  have r5 : w2.cell? ⟨p3, 0, none⟩ = some (.int .i64 c3) := q3.out.at_ rfl
  have r6 : w2.cell? ⟨p4, 0, none⟩ = some (.int .i64 c4) := q4.out.at_ rfl
  have f5 : w2.frozen? ⟨p3, 0, none⟩ = false := q3.out.frozen 0
  have f6 : w2.frozen? ⟨p4, 0, none⟩ = false := q4.out.frozen 0
  go_region
  have R2 := (((((((q2.out.set 0 (Value.int .i8 0)).set 1 (.bool false)).set 2 (.string ⟨#[]⟩)).set 3 (.slice none 0 0)).set 4 (.slice none 0 0)).set_other n5 0 (.int .i64 (j : Int))).set_other n6 0 (.int .i64 er)).drewN 1
  have R3 := ((((((((q3.out.set_other (fun e => n5 e.symm) 0 (Value.int .i8 0)).set_other (fun e => n5 e.symm) 1 (.bool false)).set_other (fun e => n5 e.symm) 2 (.string ⟨#[]⟩)).set_other (fun e => n5 e.symm) 3 (.slice none 0 0)).set_other (fun e => n5 e.symm) 4 (.slice none 0 0)).set 0 (.int .i64 (j : Int))).set_other n4 0 (.int .i64 er)).drewN 1)
  have R4 := ((((((((q4.out.set_other (fun e => n6 e.symm) 0 (Value.int .i8 0)).set_other (fun e => n6 e.symm) 1 (.bool false)).set_other (fun e => n6 e.symm) 2 (.string ⟨#[]⟩)).set_other (fun e => n6 e.symm) 3 (.slice none 0 0)).set_other (fun e => n6 e.symm) 4 (.slice none 0 0)).set_other (fun e => n4 e.symm) 0 (.int .i64 (j : Int))).set 0 (.int .i64 er)).drewN 1)
  have RG := grown_drewN (grown_set (grown_set (grown_set (grown_set (grown_set (grown_set (grown_set HW2.out (.inr k2) 0 (Value.int .i8 0)) (.inr k2) 1 (.bool false)) (.inr k2) 2 (.string ⟨#[]⟩)) (.inr k2) 3 (.slice none 0 0)) (.inr k2) 4 (.slice none 0 0)) (.inr (show W.heap.size ≤ p3 by omega)) 0 (.int .i64 (j : Int))) (.inr (show W.heap.size ≤ p4 by omega)) 0 (.int .i64 er)) 1
  refine ⟨rfl, _, rfl, _, results_none rfl _ _ _, rfl, rfl, R2, R3, R4, RG⟩
end Go.Proofs.YtlbilofnbhhmjaaGreatDoor
