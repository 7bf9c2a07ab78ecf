/- Laws for single operations behind which the world is a variable of which only what is wanted is known: a new variable, a box, a slice of one element, a whole array out of and into a block. -/
import Derived.Test.YtkfdaeipfjcibaaDoorBase
import Derived.Laws.Tables
import Derived.Laws.Rows
import Derived.Tactics
namespace Go.Proofs.YtkfdaeipfjcibaaDoor
section
variable {P : Program} {ops : Array Oper} {rest : List Oper} {o : Oper} {a : Act} {w : World} {Q : Exit → Act → World → Prop}
theorem grown_new (w : World) (o : Obj) : w.grownBy (w.alloc o) none ∧ (w.alloc o).heap.size = w.heap.size + 1 := ⟨World.grownBy_alloc w o none, by simp⟩
theorem wpList_alloc_abs (hgd : o.guard = none) (T : TypeId) (ho : o.op = .alloc T) (cs : List Value) (z : Value) (hz : (zeroValue T).run P w = .ok z w) (hc : z.cells = cs.toArray)
    (h : ∀ w', Row w' w.heap.size T cs → w.grownBy w' none → w'.heap.size = w.heap.size + 1 → wpList P ops Q rest (a.put o.dst (.pointer (some ⟨w.heap.size, 0, none⟩))) w') : wpList P ops Q (o :: rest) a w :=
  wpList_plain hgd fun K hK => by
    unfold Oper.wp execOp
    simp only [ho, Instr.alloc, Sem.run_bind, hz, Result.andThen_ok, newVar, newRow, hc]
    simp
    exact hK _ _ (h _ (Row.new w cs T) (grown_new _ _).1 (grown_new _ _).2)
theorem wpList_box_abs (hgd : o.guard = none) (T : TypeId) (x : Operand) (ho : o.op = .box T x) (cs : List Value) (hx : (a.eval x).cells = cs.toArray)
    (h : ∀ w', Row w' w.heap.size T cs → w.grownBy w' none → w'.heap.size = w.heap.size + 1 → wpList P ops Q rest (a.put o.dst (.pointer (some ⟨w.heap.size, 0, none⟩))) w') : wpList P ops Q (o :: rest) a w :=
  wpList_plain hgd fun K hK => by
    unfold Oper.wp execOp
    simp only [ho, Instr.box, newVar, newRow, hx]
    simp
    exact hK _ _ (h _ (Row.new w cs T) (grown_new _ _).1 (grown_new _ _).2)
theorem wpList_load_Row (hgd : o.guard = none) (T : TypeId) (x : Operand) (ho : o.op = .load T x) (b : Nat) (hx : a.eval x = .pointer (some ⟨b, 0, none⟩)) (cs : List Value) (U : TypeId) (hg : Row w b U cs)
    (d : TypeDesc) (hu : P.underlying T = some d) (hd : (match d with | .struct _ | .array _ _ => true | _ => false) = true) (hi : (P.info? T).map (·.size) = some cs.length)
    (h : wpList P ops Q rest (a.put o.dst (.agg cs.toArray)) w) : wpList P ops Q (o :: rest) a w :=
  wpList_load_row hgd T x ho b hx U cs.toArray (0, 0) d hg hu hd (by simpa using hi) h
theorem wpList_store_Row (hgd : o.guard = none) (T : TypeId) (x y : Operand) (ho : o.op = .store T x y) (b : Nat) (cs : List Value) (hx : a.eval x = .pointer (some ⟨b, 0, none⟩)) (hy : a.eval y = .agg cs.toArray)
    (U : TypeId) (old : List Value) (hg : Row w b U old) (hi : (P.info? T).map (·.size) = some cs.length) (hold : old.length = cs.length) (h1 : ∀ v ∈ cs, v.oneCell' = true)
    (h : ∀ w', Row w' b U cs → w.grownBy w' (some b) → w'.heap.size = w.heap.size → wpList P ops Q rest (a.put o.dst undef) w') : wpList P ops Q (o :: rest) a w :=
  wpList_store_row hgd T x y ho b cs.toArray hx hy U old.toArray hg (by simpa using hi) (by simpa using hold) (all_oneCell_toArray h1)
    (h _ (setRow_heap w b _ _ U _ hg) ⟨rfl, rfl, rfl, by simp [World.setRow], fun i hi hne => setRow_other w b i _ (fun e => hne (by rw [e]))⟩ (by simp [World.setRow]))
theorem run_build1 (t e : TypeId) (v : Value) (ie : TypeInfo) (hu : P.underlying t = some (.slice e)) (hie : P.info? e = some ie) (hs : ie.size = 1) (z : Value) (hz : ie.zero = some z) (hzc : z.cells.size = 1) (hv : v.cells = #[v]) :
    (Instr.buildSlice t 1 #[(0, v)]).run P w = .ok (.slice (some ⟨w.heap.size, 0, none⟩) 1 1) (w.alloc (.cells #[v] e)) := by
  have hr : Array.range 1 = #[0] := rfl
  have hm : (Array.map (fun x => z.cells[x % 1]!) #[0]).setIfInBounds 0 v = #[v] := by simp
  simp [Instr.buildSlice, run_underlying hu, sizeOf, typeInfo, hie, hs, zeroValue, hz, Instr.fill, hv, newRow, hzc, hr]
theorem wpList_build1 (hgd : o.guard = none) (t e : TypeId) (x : Operand) (ho : o.op = .buildSlice t 1 #[(0, x)]) (hu : P.underlying t = some (.slice e)) (v : Value) (hx : a.eval x = v)
    (ie : TypeInfo) (hie : P.info? e = some ie) (hs : ie.size = 1) (z : Value) (hz : ie.zero = some z) (hzc : z.cells.size = 1) (hv : v.cells = #[v])
    (h : ∀ w', Row w' w.heap.size e [v] → w.grownBy w' none → w'.heap.size = w.heap.size + 1 → wpList P ops Q rest (a.put o.dst (.slice (some ⟨w.heap.size, 0, none⟩) 1 1)) w') : wpList P ops Q (o :: rest) a w :=
  wpList_plain hgd fun K hK => by
    have hr := run_build1 (w := w) t e v ie hu hie hs z hz hzc hv
    unfold Oper.wp execOp
    simp only [ho, List.map_toArray, List.map_cons, List.map_nil, hx, Sem.run_bind, hr, Result.andThen_ok]
    simp
    exact hK _ _ (h _ (Row.new w [v] e) (grown_new _ _).1 (grown_new _ _).2)
/-- An element of an array that is a value. -/
theorem run_index_agg (t e : TypeId) (n : Nat) (cs : List Value) (kd : IntKind) (k : Nat) (v : Value) (hk : k < n) (hv : cs[k]? = some v) (hu : P.underlying t = some (.array n e)) (hz : (sizeOf e).run P w = .ok 1 w) (ha : (isAgg e).run P w = .ok false w) :
    (Instr.index t (.agg cs.toArray) (.int kd (k : Int))).run P w = .ok v w := by
  have h1 : (k : Int) < (n : Int) := by omega
  simp [Instr.index, asIntOf, run_underlying hu, Sem.run_bind, h1, hz, part, ha, hv]
  omega
end
end Go.Proofs.YtkfdaeipfjcibaaDoor
