/- The small functions: turning a word, the table of constants. Condition: the words are 32-bit numbers. -/
import Derived.Test.YtkfdaeipfjcibaaDoorProg
import Derived.Test.YtkfdaeipfjcibaaDoorBase
import Derived.Test.YtkfdaeipfjcibaaDoorMath
import Derived.WalkKit
import Derived.WalkLawsBesides
import Derived.WalkSpells
import Derived.Deep.QuietTactic
import Derived.BigQuiet
import Derived.Outline
import Derived.Lib.Hide
namespace Go.Proofs.YtkfdaeipfjcibaaDoor
open Go.RowKit
set_option linter.unusedVariables false
set_option linter.unusedSimpArgs false
theorem and31 : ∀ m : Nat, m < 32 → 1 ≤ m → bits .and .u64 (IntKind.u64.wrap (-(m : Int))) 31 = ((32 - m : Nat) : Int) := by decide
set_option maxHeartbeats 400000 in
theorem rotl_any (x k : Int) (w : World) (h1 : -31 ≤ k) (h2 : k ≤ -1) :
    Calls Tryd.prog 28 #[.int .u32 x, .int .i64 k] w fun e w' => e = .returned (.int .u32 (ror (-k).toNat x)) ∧ w' = w := by
  obtain ⟨m, hm⟩ : ∃ m : Nat, m = (-k).toNat := ⟨_, rfl⟩
  have hs := and31 m (by omega) (by omega)
  rw [show (-(m : Int)) = k by omega] at hs
  obtain ⟨s, hs2⟩ : ∃ s : Int, bits .and .u64 (IntKind.u64.wrap k) 31 = s := ⟨_, rfl⟩
  have hs3 : s = ((32 - m : Nat) : Int) := by rw [← hs2, hs]
  have b1 : 1 ≤ s := by omega
  have b2 : s ≤ 31 := by omega
  have e1 : s.toNat = 32 - m := by omega
  have e2 : (32 - s).toNat = m := by omega
  have E1 := Lib.hid e1
  have E2 := Lib.hid e2
  have E3 := Lib.hid hm
  clear hs hs3 e1 e2 hm
  go_enter Tryd.func28, Tryd.ntmps28
  go_wp2
  go_ret
  refine ⟨?_, rfl⟩
  simp only [List.getElem?_toArray, List.getElem?_cons_succ, List.getElem?_cons_zero, Option.getD_some, Array.getD_eq_getD_getElem?]
  rw [bits_or_comm, E1.out, E2.out, ← E3.out]
  rfl

set_option maxHeartbeats 400000 in
theorem rotr_any (x k : Int) (w : World) (h1 : 1 ≤ k) (h2 : k ≤ 31) :
    Calls Tryd.prog 26 #[.int .u32 x, .int .i64 k] w fun e w' => e = .returned (.int .u32 (ror k.toNat x)) ∧ ∃ n, w' = w.drewN n := by
  have e2 : (32 - k).toNat = 32 - k.toNat := by omega
  have E2 := Lib.hid e2
  clear e2
  go_enter Tryd.func26, Tryd.ntmps26
  go_wp2_with fail
  go_quiet (fail)
  go_wp2
  go_ret
  refine ⟨?_, _, rfl⟩
  simp only [List.getElem?_toArray, List.getElem?_cons_succ, List.getElem?_cons_zero, Option.getD_some, Array.getD_eq_getD_getElem?]
  rw [E2.out]
  rfl
theorem KT_get (t : Nat) (ht : t < 64) : (KT.map (Value.int .u32))[t]'(by simpa [KT_length] using ht) = .int .u32 (KT.getD t 0) := by
  simp [KT_length, ht]
set_option maxHeartbeats 400000 in
set_option maxRecDepth 100000 in
theorem constant_any (t : Nat) (w : World) (ht : t < 64) :
    Calls Tryd.prog 27 #[.int .i64 t] w fun e w' => e = .returned (.int .u32 (KT.getD t 0)) ∧ Below w.heap.size w w' := by
  go_enter Tryd.func27, Tryd.ntmps27
  go_wp2
  go_ret
  exact ⟨congrArg Ending.returned (KT_get t ht), (Below.refl _ _).alloc (Nat.le_refl _) _⟩
end Go.Proofs.YtkfdaeipfjcibaaDoor
