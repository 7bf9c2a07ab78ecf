/- What the card of JsonGets needs of the seven variables that lie: the tables of utf8, strconv's errors; the witness. -/
import Derived.Test.YtlbilofnbhhmjaaGreatDoorCards
import Derived.Test.YtlbilofnbhhmjaaGreatDoorTie
import Derived.Test.YtlbilofnbhhmjaaGreatDoorLaws
import Derived.Test.YtlbilofnbhhmjaaGreatDoorShelf2
import Derived.ProofKit
import Derived.OpenShut
import Derived.Carry
import Derived.Deep.DeepHandedRow
import Derived.Lib.LaidIn
import Derived.Lib.LaidU8T
import Derived.Deep.DeepWitnessRowRef
import Derived.Stop.LaidErr
namespace Go.Proofs.YtlbilofnbhhmjaaGreatDoor
open Go.ChangeShapes Go.WideShapes Go.ChangeAt Go.RowKit
set_option linter.unusedVariables false
set_option linter.unusedSimpArgs false
theorem own : ownKnob Tryz.prog.godebug = none := by kernel_rfl
theorem cells5 : Tryz.prog.cellsOf 5 = 1 := by kernel_rfl
theorem laidOut : laidOutB Tryz.prog = true := by kernel_rfl
theorem readable22 : Tryz.prog.readableRec 41 = true := by kernel_rfl
theorem rowed22 : 41 < Tryz.prog.types.size := of_decide_eq_true (by kernel_rfl)
theorem first_same : Rows.laid_unicode_utf8_first = Lib.firstData := by kernel_rfl
theorem accept_same : (Rows.laid_unicode_utf8_acceptRanges : DataW Unit) = Lib.acceptData := by kernel_rfl
theorem gRange : Tryz.prog.globalNamed "strconv.ErrRange" = some 0 := by kernel_rfl
theorem gRangeType : (Tryz.prog.globals[0]?).map (·.type) = some 49 := by kernel_rfl
theorem cells162 : Tryz.prog.cellsOf 162 = 1 := by kernel_rfl
theorem cellsS9 : Tryz.prog.cellsOf 9 = 1 := by kernel_rfl
theorem starE : "*" ++ "errors.errorString" = "*errors.errorString" := by decide
theorem rowE (u : TypeId) (h : Tryz.prog.typeName? 3 u = some "*errors.errorString") : u = 160 :=
  typeName_ptr_named (nm := "errors.errorString") (by rw [starE]; kernel_rfl) (by kernel_rfl) (by decide) u (by rw [starE]; exact h)
def laidList : List (String × DataW Unit) := [("math/bits.deBruijn32tab", Rows.laid_math_bits_deBruijn32tab), ("math/bits.deBruijn64tab", Rows.laid_math_bits_deBruijn64tab), ("internal/strconv.uint64pow10", Rows.laid_internal_strconv_uint64pow10), ("unicode/utf8.acceptRanges", Lib.acceptData), ("strconv.ErrRange", Rows.laid_strconv_ErrRange), ("strconv.ErrSyntax", Rows.laid_strconv_ErrSyntax), ("unicode/utf8.first", Lib.firstData)]
theorem laid_same : [("math/bits.deBruijn32tab", Rows.laid_math_bits_deBruijn32tab), ("math/bits.deBruijn64tab", Rows.laid_math_bits_deBruijn64tab), ("internal/strconv.uint64pow10", Rows.laid_internal_strconv_uint64pow10), ("unicode/utf8.acceptRanges", Rows.laid_unicode_utf8_acceptRanges), ("strconv.ErrRange", Rows.laid_strconv_ErrRange), ("strconv.ErrSyntax", Rows.laid_strconv_ErrSyntax), ("unicode/utf8.first", Rows.laid_unicode_utf8_first)] = laidList := by
  unfold laidList; rw [first_same, accept_same]
/-- What the tables hold is what the contracts of unicode/utf8 ask. -/
theorem tabs_of_laid {W : World} (h : laidMet Tryz.prog laidList W) : Lib.Utf8Tabs 1 2 W :=
  Go.Proofs.utf8Tabs_of_readsT (Go.Proofs.U8Types.of196 Tryz.lays196) ⟨by kernel_rfl, by kernel_rfl, by kernel_rfl, by kernel_rfl, by kernel_rfl, by kernel_rfl, by kernel_rfl⟩ (Lib.laidMet.reads h (by unfold laidList; simp)) (Lib.laidMet.reads h (by unfold laidList; simp))
theorem big_of_tabs {W : World} (h : Lib.Utf8Tabs 1 2 W) : 2 < W.heap.size := block_lt_of_cell (h.2 0 (by omega)).1
theorem range_of_laid {W : World} (h : laidMet Tryz.prog laidList W) : ∃ b : Addr, W.cell? ⟨0, 0, none⟩ = some (.iface 160 (.pointer (some b))) := by
  obtain ⟨a, s, hv, _⟩ := laid_sentinel (P := Tryz.prog) h.tail.tail.tail.tail gRange gRangeType Tryz.underlying49 rowE Tryz.underlying160 Tryz.underlying162 rfl rfl Tryz.underlying9 cells162 cellsS9
  exact ⟨a, by have := World.var?_cell gRange hv 0; simpa using this⟩
/-- A world for the witness: the variables hold what their initialisers lay. -/
noncomputable def low : Nat := (World.holding Tryz.prog default ⟨#[], #[], []⟩).heap.size
mutual
def flatD : DataW Unit → List Value
  | .lit (.int k v) => [.int k v]
  | .agg l => flatDs l
  | _ => []
def flatDs : List (DataW Unit) → List Value
  | [] => []
  | d :: r => flatD d ++ flatDs r
end
noncomputable def laidWorld (os : Os) : World :=
  let w0 := World.holding Tryz.prog os ⟨#[.cells #[.string ⟨#[118, 97, 108, 117, 101, 32, 111, 117, 116, 32, 111, 102, 32, 114, 97, 110, 103, 101]⟩] 162, .cells #[.string ⟨#[105, 110, 118, 97, 108, 105, 100, 32, 115, 121, 110, 116, 97, 120]⟩] 162], #[], []⟩
  let put (h : Array Obj) (g : Nat) (cs : Array Value) : Array Obj := h.modify g fun
    | .cells _ t frozen => .cells cs t frozen
    | o => o
  let h1 := put w0.heap 1 (Lib.firstTab.map fun z => Value.int .u8 z).toArray
  let h2 := put h1 2 ((List.range 16).flatMap fun i => [Value.int .u8 (Lib.accLo i), Value.int .u8 (Lib.accHi i)]).toArray
  let h3 := put h2 0 #[.iface 160 (.pointer (some ⟨low, 0, none⟩))]
  let h4 := put h3 3 #[.iface 160 (.pointer (some ⟨low + 1, 0, none⟩))]
  let h5 := put h4 5 (flatD Rows.laid_internal_strconv_uint64pow10).toArray
  let h6 := put h5 6 (flatD Rows.laid_math_bits_deBruijn32tab).toArray
  let h7 := put h6 7 (flatD Rows.laid_math_bits_deBruijn64tab).toArray
  { w0 with heap := h7 }
theorem laid_met (os : Os) (args : Array Value) : laidMet Tryz.prog laidList ((laidWorld os).forCall (fun _ _ => 0) ⟨#[], args, []⟩).memory :=
  (LaidIn.of_run (l := laidList) [6, 7, 5, 2, 0, low, 3, low + 1, 1] 8 (by kernel_rfl) (by kernel_rfl) (by kernel_rfl) (by kernel_rfl)).met
end Go.Proofs.YtlbilofnbhhmjaaGreatDoor
