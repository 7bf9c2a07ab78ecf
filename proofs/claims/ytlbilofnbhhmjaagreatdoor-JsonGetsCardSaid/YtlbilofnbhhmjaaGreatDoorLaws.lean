/- Laws for single operations behind which the world is a variable of which only what is wanted is known: a new variable, a box, a slice of one element, a whole array out of and into a block. Slices of bytes: where bytes lie, slices that the call itself appends to, the small help of the statements (copies, the same bytes, seven marks behind them). -/
import Derived.Test.YtlbilofnbhhmjaaGreatDoorBase
import Derived.Laws.Tables
import Derived.Laws.Rows
import Derived.Tactics
import Derived.Test.YtlbilofnbhhmjaaGreatDoorProg
import Derived.WalkKit
import Derived.Lib.Hide
import Derived.Laws.AppendOwnNone
import Derived.Lib.ConvBytes
import Derived.Laws.BytesArg
import Derived.LoopTactic
namespace Go.Proofs.YtlbilofnbhhmjaaGreatDoor
section
set_option linter.unusedVariables false
set_option linter.unusedSimpArgs false
section
variable {P : Program} {ops : Array Oper} {rest : List Oper} {o : Oper} {a : Act} {w : World} {Q : Exit → Act → World → Prop}
theorem grown_new (w : World) (o : Obj) : w.grownBy (w.alloc o) none ∧ (w.alloc o).heap.size = w.heap.size + 1 := ⟨World.grownBy_alloc w o none, by simp⟩
theorem wpList_alloc_abs (hgd : o.guard = none) (T : TypeId) (ho : o.op = .alloc T) (cs : List Value) (z : Value) (hz : (zeroValue T).run P w = .ok z w) (hc : z.cells = cs.toArray)
    (h : ∀ w', Row w' w.heap.size T cs → w.grownBy w' none → w'.heap.size = w.heap.size + 1 → wpList P ops Q rest (a.put o.dst (.pointer (some ⟨w.heap.size, 0, none⟩))) w') : wpList P ops Q (o :: rest) a w :=
  wpList_plain hgd fun K hK => by
    unfold Oper.wp execOp
    simp only [ho, Instr.alloc, Sem.run_bind, hz, Result.andThen_ok, newVar, newRow, hc]
    simp
    exact hK _ _ (h _ (Row.new w cs T) (grown_new _ _).1 (grown_new _ _).2)
theorem wpList_box_abs (hgd : o.guard = none) (T : TypeId) (x : Operand) (ho : o.op = .box T x) (cs : List Value) (hx : (a.eval x).cells = cs.toArray)
    (h : ∀ w', Row w' w.heap.size T cs → w.grownBy w' none → w'.heap.size = w.heap.size + 1 → wpList P ops Q rest (a.put o.dst (.pointer (some ⟨w.heap.size, 0, none⟩))) w') : wpList P ops Q (o :: rest) a w :=
  wpList_plain hgd fun K hK => by
    unfold Oper.wp execOp
    simp only [ho, Instr.box, newVar, newRow, hx]
    simp
    exact hK _ _ (h _ (Row.new w cs T) (grown_new _ _).1 (grown_new _ _).2)
theorem wpList_load_Row (hgd : o.guard = none) (T : TypeId) (x : Operand) (ho : o.op = .load T x) (b : Nat) (hx : a.eval x = .pointer (some ⟨b, 0, none⟩)) (cs : List Value) (U : TypeId) (hg : Row w b U cs)
    (d : TypeDesc) (hu : P.underlying T = some d) (hd : (match d with | .struct _ | .array _ _ => true | _ => false) = true) (hi : (P.info? T).map (·.size) = some cs.length)
    (h : wpList P ops Q rest (a.put o.dst (.agg cs.toArray)) w) : wpList P ops Q (o :: rest) a w :=
  wpList_load_row hgd T x ho b hx U cs.toArray (0, 0) d hg hu hd (by simpa using hi) h
theorem wpList_store_Row (hgd : o.guard = none) (T : TypeId) (x y : Operand) (ho : o.op = .store T x y) (b : Nat) (cs : List Value) (hx : a.eval x = .pointer (some ⟨b, 0, none⟩)) (hy : a.eval y = .agg cs.toArray)
    (U : TypeId) (old : List Value) (hg : Row w b U old) (hi : (P.info? T).map (·.size) = some cs.length) (hold : old.length = cs.length) (h1 : ∀ v ∈ cs, v.oneCell' = true)
    (h : ∀ w', Row w' b U cs → w.grownBy w' (some b) → w'.heap.size = w.heap.size → wpList P ops Q rest (a.put o.dst undef) w') : wpList P ops Q (o :: rest) a w :=
  wpList_store_row hgd T x y ho b cs.toArray hx hy U old.toArray hg (by simpa using hi) (by simpa using hold) (all_oneCell_toArray h1)
    (h _ (setRow_heap w b _ _ U _ hg) ⟨rfl, rfl, rfl, by simp [World.setRow], fun i hi hne => setRow_other w b i _ (fun e => hne (by rw [e]))⟩ (by simp [World.setRow]))
theorem run_build1 (t e : TypeId) (v : Value) (ie : TypeInfo) (hu : P.underlying t = some (.slice e)) (hie : P.info? e = some ie) (hs : ie.size = 1) (z : Value) (hz : ie.zero = some z) (hzc : z.cells.size = 1) (hv : v.cells = #[v]) :
    (Instr.buildSlice t 1 #[(0, v)]).run P w = .ok (.slice (some ⟨w.heap.size, 0, none⟩) 1 1) (w.alloc (.cells #[v] e)) := by
  have hr : Array.range 1 = #[0] := rfl
  have hm : (Array.map (fun x => z.cells[x % 1]!) #[0]).setIfInBounds 0 v = #[v] := by simp
  simp [Instr.buildSlice, run_underlying hu, sizeOf, typeInfo, hie, hs, zeroValue, hz, Instr.fill, hv, newRow, hzc, hr]
theorem wpList_build1 (hgd : o.guard = none) (t e : TypeId) (x : Operand) (ho : o.op = .buildSlice t 1 #[(0, x)]) (hu : P.underlying t = some (.slice e)) (v : Value) (hx : a.eval x = v)
    (ie : TypeInfo) (hie : P.info? e = some ie) (hs : ie.size = 1) (z : Value) (hz : ie.zero = some z) (hzc : z.cells.size = 1) (hv : v.cells = #[v])
    (h : ∀ w', Row w' w.heap.size e [v] → w.grownBy w' none → w'.heap.size = w.heap.size + 1 → wpList P ops Q rest (a.put o.dst (.slice (some ⟨w.heap.size, 0, none⟩) 1 1)) w') : wpList P ops Q (o :: rest) a w :=
  wpList_plain hgd fun K hK => by
    have hr := run_build1 (w := w) t e v ie hu hie hs z hz hzc hv
    unfold Oper.wp execOp
    simp only [ho, List.map_toArray, List.map_cons, List.map_nil, hx, Sem.run_bind, hr, Result.andThen_ok]
    simp
    exact hK _ _ (h _ (Row.new w [v] e) (grown_new _ _).1 (grown_new _ _).2)
/-- An element of an array that is a value. -/
theorem run_index_agg (t e : TypeId) (n : Nat) (cs : List Value) (kd : IntKind) (k : Nat) (v : Value) (hk : k < n) (hv : cs[k]? = some v) (hu : P.underlying t = some (.array n e)) (hz : (sizeOf e).run P w = .ok 1 w) (ha : (isAgg e).run P w = .ok false w) :
    (Instr.index t (.agg cs.toArray) (.int kd (k : Int))).run P w = .ok v w := by
  have h1 : (k : Int) < (n : Int) := by omega
  simp [Instr.index, asIntOf, run_underlying hu, Sem.run_bind, h1, hz, part, ha, hv]
  omega
end
end
section
open Go.RowKit
set_option linter.unusedVariables false
set_option linter.unusedSimpArgs false
/-- These bytes lie where a slice begins (nothing is said of an empty one). -/
def Src (w : World) (A : Option Addr) (l : List Int) : Prop := 0 < l.length → ∃ a : Addr, A = some a ∧ a.spot = none ∧ ∀ j, j < l.length → w.cell? ⟨a.block, a.off + j, none⟩ = some (.int .u8 (l.getD j 0))
theorem Src.grown {w w' : World} {A : Option Addr} {x : List Int} {row : Option Nat} (h : Src w A x) (hg : w.grownBy w' row) (hne : 0 < x.length → ∀ a, A = some a → some a.block ≠ row) : Src w' A x := fun h0 => by
  obtain ⟨a, ha, hs, hc⟩ := h h0
  refine ⟨a, ha, hs, fun j hj => ?_⟩
  have := hc j hj
  rw [grown_cell hg (block_lt_of_cell this) (hne h0 a ha)]; exact this
theorem Src.lt {w : World} {A : Option Addr} {x : List Int} (h : Src w A x) (h0 : 0 < x.length) : ∀ a, A = some a → a.block < w.heap.size := fun a ha => by
  obtain ⟨a', ha', _, hc⟩ := h h0
  obtain rfl := Option.some.inj (ha.symm.trans ha')
  have h2 := block_lt_of_cell (hc 0 h0)
  exact h2
theorem oneCell_bytes (l : List Int) : ∀ v ∈ l.map (Value.int .u8), v.oneCell' = true := by
  intro v hv; simp only [List.mem_map] at hv; obtain ⟨_, _, rfl⟩ := hv; rfl
theorem src_one {w : World} {g : Nat} {T : TypeId} {v : Int} (h : Row w g T [.int .u8 v]) : Src w (some ⟨g, 0, none⟩) [v] := fun _ => ⟨⟨g, 0, none⟩, rfl, rfl, fun j hj => by
  have : j = 0 := by simpa using hj
  subst this
  exact h.at_ rfl⟩
theorem info5 : Tryz.prog.info? 5 = some (Tryz.prog.info? 5).get! := by kernel_rfl
theorem src_copy {w : World} {A : Option Addr} {y : List Int} (h : Src w A y) : 0 < (y.map (Value.int .u8)).length → ∃ ad, A = some ad ∧ ∀ (j : Nat) v, (y.map (Value.int .u8))[j]? = some v → w.cell? (ad.add j) = some v := fun h0 => by
  rw [List.length_map] at h0
  obtain ⟨a, ha, hs, hc⟩ := h h0
  refine ⟨a, ha, fun j v hv => ?_⟩
  have hj : j < y.length := by have := (List.getElem?_eq_some_iff.1 hv).1; simpa using this
  have e : v = .int .u8 (y.getD j 0) := by
    rw [List.getElem?_map, List.getElem?_eq_getElem hj] at hv
    simp at hv
    rw [← hv]; simp [hj]
  obtain ⟨ab, ao, asp⟩ := a
  simp at hs
  subst hs
  rw [e, Addr.add_mid]
  exact hc j hj
/-- A slice of the call's own that holds these bytes. -/
def Own (w : World) (base : Nat) (v : Value) (l : List Int) : Prop := w.ownsRow base 5 1 v l.length (l.map (Value.int .u8))
theorem own_nil (w : World) (base : Nat) : Own w base (.slice none 0 0) [] := World.ownsRow_nil w base 5 1
theorem own_slice {w : World} {base : Nat} {v : Value} {l : List Int} (h : Own w base v l) : ∃ (A : Option Addr) (c : Nat), v = .slice A l.length c ∧ (A = none → l = [] ∧ c = 0) ∧ l.length ≤ c ∧ Src w A l ∧
    ∀ a, A = some a → base ≤ a.block ∧ a.block < w.heap.size := by
  rcases h.2 with ⟨rfl, h0⟩ | ⟨g, cap, cur, rfl, hb, hg, hn, hm, hs, ht⟩
  · have : l = [] := List.eq_nil_of_length_eq_zero h0
    subst this
    exact ⟨none, 0, rfl, fun _ => ⟨rfl, rfl⟩, Nat.le_refl _, fun h => absurd h (by simp), by intro a ha; cases ha⟩
  · refine ⟨some ⟨g, 0, none⟩, cap, rfl, (by intro h; cases h), hn, fun _ => ⟨_, rfl, rfl, fun j hj => ?_⟩, ?_⟩
    · rw [World.ownsRow.cellAt h (0 + j) (by omega)]; simp [hj]
    · intro a ha; simp at ha; subst ha; exact ⟨hb, (Array.getElem?_eq_some_iff.1 hg).1⟩
theorem Own.grown {w w' : World} {base : Nat} {v : Value} {l : List Int} {row : Option Nat} (h : Own w base v l) (hg : w.grownBy w' row) (hne : v.ownBlock = none ∨ v.ownBlock ≠ row) : Own w' base v l := World.ownsRow.kept h hg hne
theorem Own.mono {w : World} {base b2 : Nat} {v : Value} {l : List Int} (h : Own w base v l) (hb : b2 ≤ base) : Own w b2 v l := by
  refine ⟨h.1, ?_⟩
  rcases h.2 with h | ⟨g, cap, cur, h1, h2, h3⟩
  · exact .inl h
  · exact .inr ⟨g, cap, cur, h1, Nat.le_trans hb h2, h3⟩
theorem Own.block {w : World} {base : Nat} {v : Value} {l : List Int} (h : Own w base v l) : ∀ i, v.ownBlock = some i → base ≤ i ∧ i < w.heap.size := World.ownsRow.lt h
theorem src_list {w : World} {A : Option Addr} {y : List Int} (h : Src w A y) {a : Addr} (ha : A = some a) : ∀ (j : Nat) u, (y.map (Value.int .u8))[j]? = some u → w.cell? (a.add j) = some u := fun j u hu => by
  have hj : j < y.length := by have := (List.getElem?_eq_some_iff.1 hu).1; simpa using this
  obtain ⟨ad, had, hc⟩ := src_copy h (by simp; omega)
  obtain rfl := Option.some.inj (had.symm.trans ha)
  exact hc j u hu
theorem wpList_append_bytes {ops : Array Oper} {rest : List Oper} {o : Oper} {a : Act} {w : World} {Q : Exit → Act → World → Prop} (hgd : o.guard = none) (s x : Operand)
    (ho : o.op = .call { callee := .builtin .append, args := #[s, x], argTypes := #[41, 41] }) (base : Nat) (v : Value) (l y : List Int) (hs : a.eval s = v) (hown : Own w base v l)
    (A : Option Addr) (c : Nat) (hx : a.eval x = .slice A y.length c) (hA : A = none → y = [] ∧ c = 0) (hsrc : Src w A y) (hsz : l.length + y.length ≤ 1099511627776) (hbase : base ≤ w.heap.size)
    (h : ∀ v' w', Own w' base v' (l ++ y) → w.grownBy w' v.ownBlock → wpList Tryz.prog ops Q rest (a.put o.dst v') w') : wpList Tryz.prog ops Q (o :: rest) a w := by
  cases A with
  | none =>
    obtain ⟨rfl, rfl⟩ := hA rfl
    exact wpList_append_own_none hgd s x 41 ho base 5 _ 1 Tryz.underlying41 info5 v l.length _ hs hown hx (h v w (by rw [List.append_nil]; exact hown) (grown_refl _ _))
  | some ad =>
    refine wpList_append_own w hgd s x 41 ho base 5 _ (.int .u8 0) 1 1 Tryz.underlying41 info5 (by kernel_rfl) (by kernel_rfl) (by kernel_rfl) rfl (by decide) v l.length _ hs hown ad y.length c (y.map (Value.int .u8)) hx (by simp) (src_list hsrc rfl) (oneCell_bytes y)
      (by unfold maxLen; omega) (by omega) hbase (fun v' w' h1 h2 _ => h v' w' ?_ h2)
    unfold Own
    rw [List.map_append, List.length_append]; exact h1
theorem src_build {w : World} {g : Nat} {v : Int} (h : Row w g 5 [.int .u8 v]) : Src w (some ⟨g, 0, none⟩) [v] := src_one h
set_option linter.unusedVariables false
set_option linter.unusedSimpArgs false
theorem run_append_block {P : Program} (w : World) (base : Nat) (t ty e : TypeId) (i : TypeInfo) (z : Value) (size bytes : Nat) (ht : P.underlying t = some (.slice e)) (hi : P.info? e = some i) (hz : i.zero = some z)
    (hsize : i.size = size) (hby : i.bytes = bytes) (hzs : z.cells.size = size) (hsz : 0 < size)
    (v : Value) (n : Nat) (xs : List Value) (hown : w.ownsRow base e size v n xs)
    (a : Addr) (m c : Nat) (news : List Value) (hl : news.length = m * size) (hnews : ∀ j u, news[j]? = some u → w.cell? (a.add j) = some u) (h1 : ∀ u ∈ news, u.oneCell' = true)
    (h63 : n + m ≤ maxLen) (hbytes : (n + m) * bytes ≤ 140737488355328) (hbase : base ≤ w.heap.size) :
    ∃ v' w', (Builtin.append_ #[t, t] ty #[v, .slice (some a) m c]).run P w = .ok v' w' ∧ w'.ownsRow base e size v' (n + m) (xs ++ news) ∧ w.grownBy w' v.ownBlock ∧
      (∀ k, v'.ownBlock = some k → v.ownBlock = some k ∨ w.heap.size ≤ k) := by
  obtain ⟨v', w', hr, h2, h3, _⟩ := run_append_own (P := P) w base t ty e i z size bytes ht hi hz hsize hby hzs hsz v n xs hown a m c news hl hnews h1 h63 hbytes hbase
  refine ⟨v', w', hr, h2, h3, fun k hk => ?_⟩
  rcases hown.2 with ⟨rfl, rfl⟩ | ⟨g, cap, cur, rfl, hbg, hg, hnc, hcm, hcs, htake⟩
  · have hx : xs = [] := List.eq_nil_of_length_eq_zero (by simpa using hown.1)
    subst hx
    obtain ⟨v2, w2, hr2, h4, _, _⟩ := run_append_own (P := P) w w.heap.size t ty e i z size bytes ht hi hz hsize hby hzs hsz _ 0 [] (World.ownsRow_nil w w.heap.size e size) a m c news hl hnews h1 h63 hbytes (Nat.le_refl _)
    rw [hr] at hr2
    injection hr2 with e1 e2
    subst e1 e2
    exact .inr (World.ownsRow.lt h4 k hk).1
  · by_cases hroom : n + m ≤ cap
    · have hfit : n * i.size + news.length ≤ cur.size := by rw [hl, hcs, hsize, ← Nat.add_mul]; exact Nat.mul_le_mul_right _ hroom
      have hr2 := run_append_room (P := P) w t ty e i ht hi g n cap cur hg a m c news (by rw [hsize]; exact hl) hnews h1 hroom hfit
      rw [hr] at hr2
      injection hr2 with e1 e2
      subst e1
      exact .inl hk
    · have holds : ∀ j u, xs[j]? = some u → w.cell? ((⟨g, 0, none⟩ : Addr).add j) = some u := hown.cells (g := g) rfl
      have hsmall : n + m ≤ 9223372036854775807 := by simp only [maxLen] at h63; omega
      subst hsize hby
      have hr2 := run_append_grow (P := P) w t ty e i z ht hi hz ⟨g, 0, none⟩ n cap xs hown.1 holds a m c news hl hnews (by omega) (by omega) (growslice_fits (by omega) hbytes)
      rw [hr] at hr2
      injection hr2 with e1 e2
      subst e1
      simp [Value.ownBlock] at hk
      exact .inr (by omega)
theorem wpList_append_bytes2 {ops : Array Oper} {rest : List Oper} {o : Oper} {a : Act} {w : World} {Q : Exit → Act → World → Prop} (hgd : o.guard = none) (s x : Operand)
    (ho : o.op = .call { callee := .builtin .append, args := #[s, x], argTypes := #[41, 41] }) (base : Nat) (v : Value) (l y : List Int) (hs : a.eval s = v) (hown : Own w base v l)
    (A : Option Addr) (c : Nat) (hx : a.eval x = .slice A y.length c) (hA : A = none → y = [] ∧ c = 0) (hsrc : Src w A y) (hsz : l.length + y.length ≤ 1099511627776) (hbase : base ≤ w.heap.size)
    (h : ∀ v' w', Own w' base v' (l ++ y) → w.grownBy w' v.ownBlock → (∀ k, v'.ownBlock = some k → v.ownBlock = some k ∨ w.heap.size ≤ k) → wpList Tryz.prog ops Q rest (a.put o.dst v') w') : wpList Tryz.prog ops Q (o :: rest) a w := by
  cases A with
  | none =>
    obtain ⟨rfl, rfl⟩ := hA rfl
    exact wpList_append_own_none hgd s x 41 ho base 5 _ 1 Tryz.underlying41 info5 v l.length _ hs hown hx (h v w (by rw [List.append_nil]; exact hown) (grown_refl _ _) (fun _ h => .inl h))
  | some ad =>
    refine wpList_plain hgd fun _ hK => ?_
    obtain ⟨v', w', hr, h2, h3, h4⟩ := run_append_block (P := Tryz.prog) w base 41 o.type 5 _ (.int .u8 0) 1 1 Tryz.underlying41 info5 (by kernel_rfl) (by kernel_rfl) (by kernel_rfl) rfl (by decide) v l.length _ hown ad y.length c (y.map (Value.int .u8)) (by simp) (src_list hsrc rfl) (oneCell_bytes y)
      (by unfold maxLen; omega) (by omega) hbase
    unfold Oper.wp execOp
    simp only [ho, resolve, invoke, builtin, Sem.run_bind, Sem.run_pure, Result.andThen_ok, List.map_toArray, List.map_cons, List.map_nil, hs, hx, hr]
    exact hK _ _ (h v' w' (by unfold Own; rw [List.map_append, List.length_append]; exact h2) h3 h4)
theorem conv_src {w : World} {A : Option Addr} {y : List Int} (c : Nat) (h : Src w A y) (hA : A = none → y = []) : (convert 41 9 (.slice A y.length c)).run Tryz.prog w = .ok (.string (strOfNums y)) w := by
  cases A with
  | none =>
    obtain rfl := hA rfl
    rw [run_convert_bytes_nil w 41 5 Tryz.underlying41 Tryz.underlying5 _ _ 9 Tryz.underlying9]
    rfl
  | some a =>
    by_cases h0 : 0 < y.length
    · obtain ⟨a', ha, hs, hc⟩ := h h0
      obtain rfl := Option.some.inj ha
      obtain ⟨ab, ao, asp⟩ := a
      simp at hs
      subst hs
      exact run_convert_bytes_arg w 41 5 Tryz.underlying41 Tryz.underlying5 ab ao y.length c y rfl (fun i hi => hc i hi) 9 Tryz.underlying9
    · have : y = [] := List.eq_nil_of_length_eq_zero (by omega)
      subst this
      rw [run_convert_bytes_string w 41 9 5 _ _ _ Tryz.underlying41 Tryz.underlying5 Tryz.underlying9]
      show (Conv.bytesToString (.slice (some a) 0 c)).run Tryz.prog w = _
      rw [run_bytesToString w a 0 c [] (by rfl)]
      rfl
def marks : List Int := [201, 202, 203, 204, 205, 206, 207]
/-- Block g holds these bytes, the seven marks behind them, and whatever behind these. -/
def Roomed (w : World) (g cap : Nat) (x : List Int) : Prop := ∃ cs : List Value, Row w g 5 cs ∧ (∀ j, j < x.length + 7 → cs[j]? = some (.int .u8 ((x ++ marks).getD j 0))) ∧ x.length + 7 ≤ cap ∧ cap = cs.length ∧ cap ≤ maxLen
theorem Roomed.src {w : World} {g cap : Nat} {x : List Int} (h : Roomed w g cap x) : Src w (some ⟨g, 0, none⟩) x := fun h0 => by
  obtain ⟨cs, hr, hc, _⟩ := h
  refine ⟨_, rfl, rfl, fun j hj => ?_⟩
  rw [Nat.zero_add, hr.cell, hc j (by omega)]
  simp [List.getD_eq_getElem?_getD, List.getElem?_append, hj]
theorem Roomed.grown {w w' : World} {g cap : Nat} {x : List Int} {row : Option Nat} (h : Roomed w g cap x) (hg : w.grownBy w' row) (hne : some g ≠ row) : Roomed w' g cap x := by
  obtain ⟨cs, hr, h⟩ := h
  exact ⟨cs, hr.grown hg hne, h⟩
theorem Roomed.lt {w : World} {g cap : Nat} {x : List Int} (h : Roomed w g cap x) : g < w.heap.size := by obtain ⟨cs, hr, _⟩ := h; exact hr.lt
set_option maxRecDepth 100000 in
theorem slice_to (A : Option Addr) (n c h : Nat) (hc : h ≤ c) (W : World) : (Instr.slice 41 (.slice A n c) none (some (.int .i64 (h : Int))) none).run Tryz.prog W = .ok (.slice A h c) W := by
  have hz : (sizeOf (Tryz.prog.elem 41)).run Tryz.prog W = .ok 1 W := by kernel_rfl
  rw [run_slice_h W 41 A n c (by kernel_rfl) .i64 h (by omega) (by omega), hz]
  simp only [Result.andThen, sliced, Nat.zero_mul, Int.toNat_natCast, Nat.sub_zero]
  congr 2
  split
  · rfl
  · cases A with
    | none => rfl
    | some a => simp [Addr.add]
theorem own_roomed {w : World} {base : Nat} {v : Value} {x : List Int} (h : Own w base v (x ++ marks)) : ∃ g cap, v = .slice (some ⟨g, 0, none⟩) (x.length + 7) cap ∧ base ≤ g ∧ Roomed w g cap x := by
  have hl : (x ++ marks).length = x.length + 7 := by simp [marks]
  rcases h.2 with ⟨_, h0⟩ | ⟨g, cap, cur, rfl, hb, hg, hn, hm, hs, ht⟩
  · simp [marks] at h0
  · refine ⟨g, cap, by rw [hl], hb, cur.toList, by simpa [Row] using hg, fun j hj => ?_, by omega, by simp; omega, hm⟩
    have e : cur.toList[j]? = (cur.toList.take ((x ++ marks).length * 1))[j]? := by rw [List.getElem?_take, if_pos (by omega)]
    rw [e, ht, List.getElem?_map, List.getElem?_eq_getElem (by omega)]
    simp [List.getD_eq_getElem?_getD, List.getElem?_eq_getElem (show j < (x ++ marks).length by omega)]
theorem marks_byte : ∀ k : Nat, k < 7 → marks.getD k 0 = 201 + (k : Int) := by decide
end
end Go.Proofs.YtlbilofnbhhmjaaGreatDoor
