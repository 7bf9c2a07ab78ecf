/- Two sums that are the same compare equal. -/
import Derived.Test.YtkfdaeipfjcibaaDoorFin
import Derived.Laws.StructEq
namespace Go.Proofs.YtkfdaeipfjcibaaDoor
section
variable {P : Program} (w : World)
theorem run_equalIn_same (d : Nat) (t e : TypeId) (n : Nat) (ht : P.underlying t = some (.array n e)) (he : P.underlying e = some (.int .u8)) (hsz : ∀ w, (sizeOf e).run P w = .ok 1 w) (xs : List Int) (hx : xs.length = n) :
    (Op.equalIn (d + 2) t (.agg (xs.map (Value.int .u8)).toArray) (.agg (xs.map (Value.int .u8)).toArray)).run P w = .ok true w := by
  rw [Op.equalIn]
  simp only [Sem.run_bind, run_underlying ht, Result.andThen_ok, hsz, Std.Legacy.Range.forIn_eq_forIn_range', Std.Legacy.Range.size, Nat.sub_zero, Nat.add_sub_cancel, Nat.div_one]
  have hl : ∀ i ∈ List.range' 0 n 1, i < n := fun i hi => by simpa using (List.mem_range'_1.1 hi).2
  generalize List.range' 0 n 1 = l at hl ⊢
  induction l with
  | nil => simp
  | cons i l ih =>
    have hi : i < n := hl i (by simp)
    have px : (Go.part e (xs.map (Value.int .u8)).toArray (i * 1)).run P w = .ok (.int .u8 (xs.getD i 0)) w := by
      simp [Go.part, isAgg, run_underlying he, List.getD, List.getElem?_eq_getElem (show i < xs.length by omega)]
    have pe : (Op.equalIn (d + 1) e (.int .u8 (xs.getD i 0)) (.int .u8 (xs.getD i 0))).run P w = .ok true w := by
      rw [run_equalIn_int w d e .u8 .u8 _ _ he, beq_self_eq_true]
    simp only [List.forIn_cons, Sem.run_bind, px, pe, Result.andThen_ok]
    simp only [Bool.not_true, Bool.false_eq_true, if_false, Sem.run_pure, Result.andThen_ok]
    exact ih fun j hj => hl j (by simp [hj])
end
theorem size25' (w : World) : (sizeOf 5).run Tryd.prog w = .ok 1 w := by
  kernel_rfl
theorem eql_same (w : World) (xs : List Int) (hx : xs.length = 32) : (binOp .eql 25 (.agg (xs.map (Value.int .u8)).toArray) (.agg (xs.map (Value.int .u8)).toArray)).run Tryd.prog w = .ok (.bool true) w := by
  rw [run_eql_struct, run_equalIn_same w 9998 25 5 32 rfl rfl size25' xs hx]
  rfl
theorem neq_same (w : World) (xs : List Int) (hx : xs.length = 32) : (binOp .neq 25 (.agg (xs.map (Value.int .u8)).toArray) (.agg (xs.map (Value.int .u8)).toArray)).run Tryd.prog w = .ok (.bool false) w := by
  rw [run_neq_struct, run_equalIn_same w 9998 25 5 32 rfl rfl size25' xs hx]
  rfl
end Go.Proofs.YtkfdaeipfjcibaaDoor
