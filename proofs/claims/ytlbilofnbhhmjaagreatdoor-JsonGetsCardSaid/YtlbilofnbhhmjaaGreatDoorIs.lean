/- errors.Is(err, strconv.ErrRange), for nil and for a *strconv.NumError that wraps it. -/
import Derived.Test.YtlbilofnbhhmjaaGreatDoorProg
import Derived.WalkKit
import Derived.LaidEql
import Derived.Stop.Asserts
namespace Go.Proofs.YtlbilofnbhhmjaaGreatDoor
open Go.RowKit Go.Extern.Stop Go.Stop Go.Extern Go.Extern.Rtype
set_option linter.unusedVariables false
set_option linter.unusedSimpArgs false
theorem isTypeOf (v : Value) (w : World) : (Extern.ReflectliteType.typeOf #[.iface 160 v]).run Tryz.prog w = .ok (.iface 106 (.agg #[.pointer (some ⟨8, 160, none⟩)])) w := by kernel_rfl
theorem isComparable (w : World) : ((Extern.ReflectliteType.method fun t => do noPackHeld "Comparable" t; (fun a => Value.bool a.comparable) <$> typeInfo t) #[.agg #[.pointer (some ⟨8, 160, none⟩)]]).run Tryz.prog w = .ok (.bool true) w := by kernel_rfl
theorem isMethodComparable (v : Value) (w : World) : (Go.method 311 106 v "Comparable").run Tryz.prog w = .ok (153, v) w := by kernel_rfl
theorem isComp : (Tryz.prog.info? 160).map (·.comparable) = some true := by kernel_rfl
theorem isSize : (Tryz.prog.info? 162).map (·.size) = some 1 := by kernel_rfl
theorem noIsN (v : Value) (xT : TypeId) (w : World) : (Instr.typeAssert (.iface 102 v) xT 108 true).run Tryz.prog w = .ok (.tuple #[.nilIface, .bool false]) w := run_typeAssert_lacksB Tryz.underlying108 (by kernel_rfl) (by kernel_rfl) v xT w
theorem hasUnwrapN (v : Value) (xT : TypeId) (w : World) : (Instr.typeAssert (.iface 102 v) xT 111 true).run Tryz.prog w = .ok (.tuple #[.iface 102 v, .bool true]) w := run_typeAssert_hasB Tryz.underlying111 (by kernel_rfl) v xT w
theorem methodUnwrap (v : Value) (w : World) : (Go.method 311 102 v "Unwrap").run Tryz.prog w = .ok (149, v) w := by kernel_rfl
theorem is_nil (b : Addr) (w : World) :
    Calls Tryz.prog 23 #[.nilIface, .iface 160 (.pointer (some b))] w fun e w' => e = .returned (.bool false) ∧ w = w' := by
  have hn := run_eql_iface_nil_left (P := Tryz.prog) w 160 (.pointer (some b)) Tryz.underlying49
  go_enter Tryz.func23, Tryz.ntmps23
  go_wp2
  go_ret
  exact ⟨rfl, rfl⟩
set_option maxHeartbeats 1600000 in
set_option maxRecDepth 100000 in
theorem is_wrap (N : Nat) (b : Addr) (w : World) (h1 : w.cell? ⟨N, 2, none⟩ = some (.iface 160 (.pointer (some b)))) :
    Calls Tryz.prog 23 #[.iface 102 (.pointer (some ⟨N, 0, none⟩)), .iface 160 (.pointer (some b))] w fun e w' => e = .returned (.bool true) ∧ w = w' := by
  obtain ⟨i, hi, hcmp⟩ := Option.map_eq_some_iff.1 isComp
  obtain ⟨j, hj, hjs⟩ := Option.map_eq_some_iff.1 isSize
  have h8 := @run_callFunc_extern Tryz.prog 38 _ Extern.ReflectliteType.typeOf Tryz.func38 (by kernel_rfl) (by kernel_rfl) (by kernel_rfl) (by kernel_rfl)
  have h32 := @run_callFunc_extern Tryz.prog 153 _ (Extern.ReflectliteType.method fun t => do noPackHeld "Comparable" t; pure (.bool (← typeInfo t).comparable)) Tryz.func153 (by kernel_rfl) (by kernel_rfl) (by kernel_rfl) (by kernel_rfl)
  have tT := isTypeOf
  have cT := isComparable
  have mR := isMethodComparable
  have nN := noIsN
  have uN := hasUnwrapN
  have mU := methodUnwrap
  have heq := run_eql_iface_ptr_same (P := Tryz.prog) w b Tryz.underlying49 Tryz.underlying160 hi hcmp hj
  have hty := run_eql_iface_types (P := Tryz.prog) 102 160 (.pointer (some ⟨N, 0, none⟩)) (.pointer (some b)) Tryz.underlying49 (by decide) w
  go_enter Tryz.func23, Tryz.ntmps23
  go_wp2
  refine wp_loop_rounds 2 ?_
  rw [rounds_succ]
  go_wp2
  rw [rounds_succ]
  go_wp2
  go_ret
  exact ⟨rfl, rfl⟩
end Go.Proofs.YtlbilofnbhhmjaaGreatDoor
