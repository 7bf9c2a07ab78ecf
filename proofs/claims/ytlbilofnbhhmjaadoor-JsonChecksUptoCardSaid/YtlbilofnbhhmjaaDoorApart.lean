/- The statements' own Apart: answers that share no memory are told apart. Condition: they are rows of their own, each in a block of its own, and read the same bytes. JsonChecks: the walk. Condition: the value is read where it lies and is of a bounded cost. -/
import Derived.Test.YtlbilofnbhhmjaaDoorRTxt0
import Derived.Test.YtlbilofnbhhmjaaDoorSpoil
import Derived.Test.YtlbilofnbhhmjaaDoorBack
namespace Go.Proofs.YtlbilofnbhhmjaaDoor
section
open Go.RowKit
set_option linter.unusedVariables false
set_option linter.unusedSimpArgs false
theorem run_append_block3 {P : Program} (w : World) (base : Nat) (t ty e : TypeId) (i : TypeInfo) (z : Value) (size bytes : Nat) (ht : P.underlying t = some (.slice e)) (hi : P.info? e = some i) (hz : i.zero = some z)
    (hsize : i.size = size) (hby : i.bytes = bytes) (hzs : z.cells.size = size) (hsz : 0 < size)
    (v : Value) (n : Nat) (xs : List Value) (hown : w.ownsRow base e size v n xs)
    (a : Addr) (m c : Nat) (news : List Value) (hl : news.length = m * size) (hnews : ∀ j u, news[j]? = some u → w.cell? (a.add j) = some u) (h1 : ∀ u ∈ news, u.oneCell' = true)
    (h63 : n + m ≤ maxLen) (hbytes : (n + m) * bytes ≤ 140737488355328) (hbase : base ≤ w.heap.size) :
    ∃ v' w', (Builtin.append_ #[t, t] ty #[v, .slice (some a) m c]).run P w = .ok v' w' ∧ w'.ownsRow base e size v' (n + m) (xs ++ news) ∧ w.grownBy w' v.ownBlock ∧
      (∀ k, v'.ownBlock = some k → v.ownBlock = some k ∨ w.heap.size ≤ k) ∧ (v'.ownBlock = v.ownBlock ∨ w.grownBy w' none) := by
  obtain ⟨v', w', hr, h2, h3, h4⟩ := run_append_block (P := P) w base t ty e i z size bytes ht hi hz hsize hby hzs hsz v n xs hown a m c news hl hnews h1 h63 hbytes hbase
  refine ⟨v', w', hr, h2, h3, h4, ?_⟩
  rcases hown.2 with ⟨rfl, rfl⟩ | ⟨g, cap, cur, rfl, hbg, hg, hnc, hcm, hcs, htake⟩
  · exact .inr h3
  · by_cases hroom : n + m ≤ cap
    · have hfit : n * i.size + news.length ≤ cur.size := by rw [hl, hcs, hsize, ← Nat.add_mul]; exact Nat.mul_le_mul_right _ hroom
      have hr2 := run_append_room (P := P) w t ty e i ht hi g n cap cur hg a m c news (by rw [hsize]; exact hl) hnews h1 hroom hfit
      rw [hr] at hr2
      injection hr2 with e1 e2
      subst e1
      exact .inl rfl
    · have holds : ∀ j u, xs[j]? = some u → w.cell? ((⟨g, 0, none⟩ : Addr).add j) = some u := hown.cells (g := g) rfl
      have hsmall : n + m ≤ 9223372036854775807 := by simp only [maxLen] at h63; omega
      subst hsize hby
      have hr2 := run_append_grow (P := P) w t ty e i z ht hi hz ⟨g, 0, none⟩ n cap xs hown.1 holds a m c news hl hnews (by omega) (by omega) (growslice_fits (by omega) hbytes)
      rw [hr] at hr2
      injection hr2 with e1 e2
      subst e2
      exact .inr ⟨rfl, rfl, rfl, by simp, fun k hk _ => heap_alloc_old w.drew _ hk⟩
/-- A byte behind a row; where the result lies. -/
theorem wpList_appLit3 {ops : Array Oper} {rest : List Oper} {o1 o2 : Oper} {a : Act} {w : World} {Q : Exit → Act → World → Prop} (g1 : o1.guard = none) (g2 : o2.guard = none) (y : Int) (parts : Array (Nat × Operand)) (ho1 : o1.op = .buildSlice 22 1 parts)
    (hp : parts.toList.map (fun p => (p.1, a.eval p.2)) = (([y].map (Value.int .u8)).zipIdx 0).map fun x => (x.2, x.1))
    (s x : Operand) (ho2 : o2.op = .call { callee := .builtin .append, args := #[s, x], argTypes := #[22, 22] }) (base : Nat) (v : Value) (acc : List Int) (hs : (a.put o1.dst (.slice (some ⟨w.heap.size, 0, none⟩) 1 1)).eval s = v)
    (hx : (a.put o1.dst (.slice (some ⟨w.heap.size, 0, none⟩) 1 1)).eval x = .slice (some ⟨w.heap.size, 0, none⟩) 1 1) (hown : Own w base v acc) (hsz : acc.length + 1 ≤ 1099511627776) (hbase : base ≤ w.heap.size)
    (h : ∀ v' w1 w2, Own w2 base v' (acc ++ [y]) → w.grownBy w1 none → w1.grownBy w2 v.ownBlock → (∀ k, v'.ownBlock = some k → v.ownBlock = some k ∨ w1.heap.size ≤ k) → (v'.ownBlock = v.ownBlock ∨ w1.grownBy w2 none) →
      wpList Tryd.prog ops Q rest ((a.put o1.dst (.slice (some ⟨w.heap.size, 0, none⟩) 1 1)).put o2.dst v') w2) : wpList Tryd.prog ops Q (o1 :: o2 :: rest) a w := by
  refine wpList_buildB g1 [y] 1 parts ho1 rfl hp (by decide) (by decide) ?_
  refine wpList_plain g2 fun _ hK => ?_
  have hsrc : Src (w.alloc (.cells ([y].map (Value.int .u8)).toArray 5)) (some ⟨w.heap.size, 0, none⟩) [y] := src_row (Row.new w _ 5)
  obtain ⟨v', w', hr, h2, h3, h4, h5⟩ := run_append_block3 (P := Tryd.prog) (w.alloc (.cells ([y].map (Value.int .u8)).toArray 5)) base 22 o2.type 5 _ (.int .u8 0) 1 1 Tryd.underlying22 info5 (by kernel_rfl) (by kernel_rfl) (by kernel_rfl) rfl (by decide) v acc.length _ (own_none_grown hown (grown_new w _).1) ⟨w.heap.size, 0, none⟩ 1 1 ([y].map (Value.int .u8)) (by simp) (src_list hsrc rfl) (oneCell_bytes [y])
    (by unfold maxLen; omega) (by omega) (by simp; omega)
  unfold Oper.wp execOp
  simp only [ho2, resolve, invoke, builtin, Sem.run_bind, Sem.run_pure, Result.andThen_ok, List.map_toArray, List.map_cons, List.map_nil, hs, hx] at hr ⊢
  rw [hr]
  exact hK _ _ (h v' _ w' (by unfold Own; rw [List.map_append, List.length_append]; exact h2) (grown_new w _).1 h3 h4 h5)
theorem info22 : Tryd.prog.info? 22 = some (Tryd.prog.info? 22).get! := by kernel_rfl
/-- A slice behind a row of slices. -/
theorem wpList_push22 {ops : Array Oper} {rest : List Oper} {o1 o2 : Oper} {a : Act} {w : World} {Q : Exit → Act → World → Prop} (g1 : o1.guard = none) (g2 : o2.guard = none) (z : Operand) (ho1 : o1.op = .buildSlice 50 1 #[(0, z)]) (A : Option Addr) (l c : Nat) (hz : a.eval z = .slice A l c)
    (s x : Operand) (ho2 : o2.op = .call { callee := .builtin .append, args := #[s, x], argTypes := #[50, 50] }) (base : Nat) (u : Value) (n : Nat) (xs : List Value) (hs : (a.put o1.dst (.slice (some ⟨w.heap.size, 0, none⟩) 1 1)).eval s = u)
    (hx : (a.put o1.dst (.slice (some ⟨w.heap.size, 0, none⟩) 1 1)).eval x = .slice (some ⟨w.heap.size, 0, none⟩) 1 1) (hown : w.ownsRow base 22 1 u n xs) (hsz : n ≤ 1073741824) (hbase : base ≤ w.heap.size)
    (h : ∀ u' w1 w2, w2.ownsRow base 22 1 u' (n + 1) (xs ++ [.slice A l c]) → w.grownBy w1 none → w1.grownBy w2 u.ownBlock → (∀ k, u'.ownBlock = some k → u.ownBlock = some k ∨ w1.heap.size ≤ k) → wpList Tryd.prog ops Q rest ((a.put o1.dst (.slice (some ⟨w.heap.size, 0, none⟩) 1 1)).put o2.dst u') w2) :
    wpList Tryd.prog ops Q (o1 :: o2 :: rest) a w := by
  refine wpList_build1 g1 50 22 z ho1 Tryd.underlying50 (.slice A l c) hz _ info22 (by kernel_rfl) (.slice none 0 0) (by kernel_rfl) rfl rfl ?_
  intro w1 hr1 hg1 _
  refine wpList_plain g2 fun _ hK => ?_
  obtain ⟨v', w', hr, h2, h3, h4⟩ := run_append_block (P := Tryd.prog) w1 base 50 o2.type 22 _ (.slice none 0 0) 1 24 Tryd.underlying50 info22 (by kernel_rfl) (by kernel_rfl) (by kernel_rfl) rfl (by decide) u n xs (World.ownsRow.kept hown hg1 (own_none (w := w) u)) ⟨w.heap.size, 0, none⟩ 1 1 [.slice A l c] (by simp) (row_news hr1) (by intro q hq; simp at hq; rw [hq]; rfl)
    (by unfold maxLen; omega) (by omega) (Nat.le_trans hbase hg1.size)
  unfold Oper.wp execOp
  simp only [ho2, resolve, invoke, builtin, Sem.run_bind, Sem.run_pure, Result.andThen_ok, List.map_toArray, List.map_cons, List.map_nil, hs, hx] at hr ⊢
  rw [hr]
  exact hK _ _ (h v' w1 w' h2 hg1 h3 h4)
/-- A slice that reads these bytes, at the head of a block that can be written. -/
def Rd1 (w : World) (L : List Int) (v : Value) : Prop := ∃ A c, v = .slice A L.length c ∧ ((A = none ∧ L = [] ∧ c = 0) ∨ ∃ b cur, A = some ⟨b, 0, none⟩ ∧ w.heap[b]? = some (.cells cur 5 (0, 0)) ∧ L.length ≤ cur.size ∧ ∀ j, j < L.length → cur[j]? = some (.int .u8 (L.getD j 0)))
theorem Rd1.of_own {w : World} {base : Nat} {g v : Value} {L l : List Int} {c : Nat} {A : Option Addr} (h : Own w base g (L ++ l)) (hv : v = .slice A L.length c) (hb : v.ownBlock = g.ownBlock) (ha : ∀ a, A = some a → a.off = 0 ∧ a.spot = none) (hn : A = none → L = [] ∧ c = 0) : Rd1 w L v := by
  refine ⟨A, c, hv, ?_⟩
  cases A with
  | none => exact .inl ⟨rfl, hn rfl⟩
  | some a =>
    obtain ⟨b, o1, sp⟩ := a
    obtain ⟨e1, e2⟩ := ha _ rfl
    simp only at e1 e2
    subst e1 e2
    rcases h.2 with ⟨rfl, _⟩ | ⟨g', cap, cur, rfl, hbg, hg, hnc, hcm, hcs, htake⟩
    · rw [hv] at hb; cases hb
    · rw [hv] at hb
      obtain rfl : b = g' := Option.some.inj hb
      simp only [List.length_append, Nat.mul_one] at hnc hcs htake
      refine .inr ⟨b, cur, rfl, hg, by omega, fun j hj => ?_⟩
      have h1 : (cur.toList.take (L.length + l.length))[j]? = ((L ++ l).map (Value.int .u8))[j]? := by rw [htake]
      rw [List.getElem?_take, if_pos (by omega), Array.getElem?_toList, List.getElem?_map, List.getElem?_append_left hj, List.getElem?_eq_getElem hj] at h1
      rw [h1, List.getD_eq_getElem?_getD, List.getElem?_eq_getElem hj]; rfl
theorem Rd1.shape {w : World} {L : List Int} {v : Value} (h : Rd1 w L v) : ∃ A c, v = .slice A L.length c ∧ (∀ a, A = some a → a.off = 0 ∧ a.spot = none) ∧ (A = none → L = [] ∧ c = 0) := by
  obtain ⟨A, c, e, h1⟩ := h
  refine ⟨A, c, e, fun a ha => ?_, fun hn => ?_⟩
  · rcases h1 with ⟨h2, _⟩ | ⟨b, cur, h2, _⟩
    · rw [h2] at ha; cases ha
    · rw [h2] at ha; cases ha; exact ⟨rfl, rfl⟩
  · rcases h1 with ⟨_, h2⟩ | ⟨b, cur, h2, _⟩
    · exact h2
    · rw [h2] at hn; cases hn
theorem own_shape {w : World} {base : Nat} {v : Value} {L : List Int} (h : Own w base v L) : ∃ A c, v = .slice A L.length c ∧ (∀ a, A = some a → a.off = 0 ∧ a.spot = none) ∧ (A = none → L = [] ∧ c = 0) := by
  rcases h.2 with ⟨rfl, h2⟩ | ⟨g', cap, cur, rfl, _⟩
  · have : L = [] := List.eq_nil_of_length_eq_zero h2
    subst this
    exact ⟨none, 0, rfl, fun a ha => (by cases ha), fun _ => ⟨rfl, rfl⟩⟩
  · exact ⟨_, cap, rfl, fun a ha => (by cases ha; exact ⟨rfl, rfl⟩), fun hn => (by cases hn)⟩
theorem Rd1.own {w : World} {base : Nat} {v : Value} {L : List Int} (h : Own w base v L) : Rd1 w L v := by
  obtain ⟨A, c, hv, ha, hn⟩ := own_shape h
  exact Rd1.of_own (l := []) (by rw [List.append_nil]; exact h) hv rfl ha hn
theorem Rd1.kept {w w' : World} {L : List Int} {v : Value} {row : Option Nat} (h : Rd1 w L v) (hg : w.grownBy w' row) (hne : ∀ b, v.ownBlock = some b → some b ≠ row) : Rd1 w' L v := by
  obtain ⟨A, c, rfl, h1⟩ := h
  refine ⟨A, c, rfl, ?_⟩
  rcases h1 with h1 | ⟨b, cur, rfl, hb, h2, h3⟩
  · exact .inl h1
  · refine .inr ⟨b, cur, rfl, ?_, h2, h3⟩
    rw [hg.block b (Array.getElem?_eq_some_iff.1 hb).1 (hne b rfl)]; exact hb
theorem Rd1.src {w : World} {L : List Int} {v : Value} (h : Rd1 w L v) : ∃ A c, v = .slice A L.length c ∧ (A = none → L = [] ∧ c = 0) ∧ Src w A L := by
  obtain ⟨A, c, rfl, h1⟩ := h
  refine ⟨A, c, rfl, fun hn => ?_, fun h0 => ?_⟩
  · rcases h1 with ⟨_, h2⟩ | ⟨b, cur, h2, _⟩
    · exact h2
    · rw [h2] at hn; cases hn
  · rcases h1 with ⟨_, rfl, _⟩ | ⟨b, cur, rfl, hb, h2, h3⟩
    · exact absurd h0 (by simp)
    · refine ⟨_, rfl, rfl, fun j hj => ?_⟩
      rw [cell_of_row _ _ _ _ _ _ hb, Nat.zero_add]; exact h3 j hj
theorem Rd1.lt {w : World} {L : List Int} {v : Value} (h : Rd1 w L v) : ∀ b, v.ownBlock = some b → b < w.heap.size := by
  obtain ⟨A, c, rfl, h1⟩ := h
  intro b hb
  rcases h1 with ⟨rfl, _⟩ | ⟨b', cur, rfl, h2, _⟩
  · cases hb
  · cases hb; exact (Array.getElem?_eq_some_iff.1 h2).1
theorem Rd1.drewN {w : World} {L : List Int} {v : Value} (h : Rd1 w L v) (n : Nat) : Rd1 (w.drewN n) L v := h
/-- One of them, gone on with. -/
structure ApG (w2 wr : World) (L : List Int) (v g : Value) (l : List Int) : Prop where
  own : Own wr 0 g (L ++ l)
  rd : Rd1 wr L v
  grown : w2.grownBy wr v.ownBlock
  blk : ∀ k, g.ownBlock = some k → v.ownBlock = some k ∨ w2.heap.size ≤ k
theorem ApG.step {w2 wr wa wb : World} {L l y : List Int} {v g g' : Value} (h : ApG w2 wr L v g l) (hg1 : wr.grownBy wa none) (ho : Own wb 0 g' ((L ++ l) ++ y)) (hg2 : wa.grownBy wb g.ownBlock) (hl : ∀ k, g'.ownBlock = some k → g.ownBlock = some k ∨ wa.heap.size ≤ k)
    (hs : g'.ownBlock = g.ownBlock ∨ wa.grownBy wb none) : ApG w2 wb L v g' (l ++ y) := by
  have hrd := h.rd.kept hg1 (by simp)
  have z1 := h.grown.size
  have z2 := hg1.size
  refine ⟨by rw [← List.append_assoc]; exact ho, ?_, grown_own (grown_own h.grown hg1 (by simp)) hg2 (fun i hi => ?_), fun k hk => ?_⟩
  · rcases hs with hs | hs
    · by_cases hb : v.ownBlock = g.ownBlock
      · obtain ⟨A, c, hv, ha, hn⟩ := hrd.shape
        exact Rd1.of_own (l := l ++ y) (by rw [← List.append_assoc]; exact ho) hv (hb.trans hs.symm) ha hn
      · exact hrd.kept hg2 (fun b e1 e2 => hb (e1.trans e2))
    · exact hrd.kept hs (by simp)
  · rcases h.blk i hi with e | e
    · exact .inl e.symm
    · exact .inr e
  · rcases hl k hk with e | e
    · exact h.blk k e
    · exact .inr (by omega)
def obF (vs : List Value) : List Nat := vs.flatMap obs
theorem obF_mem {vs : List Value} {v : Value} {k : Nat} (hv : v ∈ vs) (hk : v.ownBlock = some k) : k ∈ obF vs := List.mem_flatMap.2 ⟨v, hv, obs_mem.2 hk⟩
/-- What is given: a row of slices, each a row of its own. -/
structure Given (B0 N : Nat) (vs : List Value) : Prop where
  dis : ∀ (i j : Nat) (a b : Value), vs[i]? = some a → vs[j]? = some b → i ≠ j → ∀ k, a.ownBlock = some k → b.ownBlock ≠ some k
  lt : ∀ v ∈ vs, ∀ k, v.ownBlock = some k → k < N ∧ k ≠ B0
  b0 : B0 < N
/-- The copies. -/
structure Lo1 (N : Nat) (w wr : World) (L : List Int) (u : Value) (Wl : List Value) : Prop where
  grown : w.grownBy wr none
  row : wr.ownsRow N 22 1 u Wl.length Wl
  rd : ∀ q ∈ Wl, Rd1 wr L q
  blk : ∀ q ∈ Wl, ∀ k, q.ownBlock = some k → N ≤ k ∧ u.ownBlock ≠ some k
theorem Lo1.step {N : Nat} {w wr wa wb wc : World} {L : List Int} {u u' q : Value} {Wl : List Value} (h : Lo1 N w wr L u Wl) (hN : N = w.heap.size) (hq : Own wa wr.heap.size q L) (ha : wr.grownBy wa none) (hb : wa.grownBy wb none) (hr : wc.ownsRow N 22 1 u' (Wl.length + 1) (Wl ++ [q])) (hc : wb.grownBy wc u.ownBlock)
    (hl : ∀ k, u'.ownBlock = some k → u.ownBlock = some k ∨ wb.heap.size ≤ k) : Lo1 N w wc L u' (Wl ++ [q]) := by
  have hu := h.row.lt
  have z0 := h.grown.size
  have z1 := ha.size
  have z2 := hb.size
  have hqb := hq.block
  have hqr := Rd1.own hq
  refine ⟨grown_own (grown_own (grown_own h.grown ha (by simp)) hb (by simp)) hc (fun i hi => .inr (by have := hu i hi; omega)), by simpa using hr, fun x hx => ?_, fun x hx k hk => ?_⟩
  · rcases List.mem_append.1 hx with hx | hx
    · exact ((((h.rd x hx).kept ha (by simp)).kept hb (by simp)).kept hc (fun b hb e => (h.blk x hx b hb).2 e.symm))
    · rw [List.mem_singleton.1 hx]
      exact ((hqr.kept hb (by simp)).kept hc (fun b hb e => by have := hqb b hb; have := hu b e.symm; omega))
  · rcases List.mem_append.1 hx with hx | hx
    · refine ⟨(h.blk x hx k hk).1, fun e => ?_⟩
      rcases hl k e with e2 | e2
      · exact (h.blk x hx k hk).2 e2
      · have := (h.rd x hx).lt k hk; omega
    · rw [List.mem_singleton.1 hx] at hk
      have h1 := hqb k hk
      refine ⟨by omega, fun e => ?_⟩
      rcases hl k e with e2 | e2
      · have := hu k e2; omega
      · omega
/-- The ones that are gone on with. -/
structure Lo2 (B0 N : Nat) (w1 wr : World) (L : List Int) (vs : List Value) (uw : Value) (Wl : List Value) (u : Value) (Ml : List Value) : Prop where
  only : Only (obF vs) w1 wr
  was : wr.ownsRow N 22 1 uw Wl.length Wl
  wasb : ∀ k, uw.ownBlock = some k → N ≤ k ∧ k < w1.heap.size
  wrd : ∀ q ∈ Wl, Rd1 wr L q
  wblk : ∀ q ∈ Wl, ∀ k, q.ownBlock = some k → N ≤ k ∧ k < w1.heap.size
  row : Row wr B0 22 vs
  rd : ∀ v ∈ vs, Rd1 wr L v
  own : ∀ j v, Ml.length ≤ j → vs[j]? = some v → Own wr 0 v L
  more : wr.ownsRow w1.heap.size 22 1 u Ml.length Ml
  items : ∀ j m, Ml[j]? = some m → Own wr 0 m (L ++ List.replicate 40 (((j + 1 : Nat) : Int))) ∧ ∀ k, m.ownBlock = some k → ((∃ v, vs[j]? = some v ∧ v.ownBlock = some k) ∨ w1.heap.size ≤ k) ∧ u.ownBlock ≠ some k
theorem own_kept {w w' : World} {base : Nat} {v : Value} {l : List Int} {row : Option Nat} (h : Own w base v l) (hg : w.grownBy w' row) (hne : ∀ b, v.ownBlock = some b → some b ≠ row) : Own w' base v l := h.grown hg (by
  cases hb : v.ownBlock with
  | none => exact .inl rfl
  | some b => exact .inr (hne b hb))
theorem row_kept22 {w w' : World} {base n : Nat} {v : Value} {l : List Value} {row : Option Nat} (h : w.ownsRow base 22 1 v n l) (hg : w.grownBy w' row) (hne : ∀ b, v.ownBlock = some b → some b ≠ row) : w'.ownsRow base 22 1 v n l := World.ownsRow.kept h hg (by
  cases hb : v.ownBlock with
  | none => exact .inl rfl
  | some b => exact .inr (hne b hb))
theorem Lo2.step {B0 N : Nat} {w1 wr w3 w4 w5 : World} {L : List Int} {vs : List Value} {uw : Value} {Wl : List Value} {u u' v g : Value} {Ml : List Value} (G : Given B0 N vs) (hN : N ≤ w1.heap.size) (h : Lo2 B0 N w1 wr L vs uw Wl u Ml) (hv : vs[Ml.length]? = some v)
    (ap : ApG wr w3 L v g (List.replicate 40 (((Ml.length + 1 : Nat) : Int)))) (h4 : w3.grownBy w4 none) (hr : w5.ownsRow w1.heap.size 22 1 u' (Ml.length + 1) (Ml ++ [g])) (h5 : w4.grownBy w5 u.ownBlock) (hl : ∀ k, u'.ownBlock = some k → u.ownBlock = some k ∨ w4.heap.size ≤ k) :
    Lo2 B0 N w1 w5 L vs uw Wl u' (Ml ++ [g]) := by
  have hvm := List.mem_of_getElem? hv
  have hvb : ∀ k, v.ownBlock = some k → k < N ∧ k ≠ B0 := G.lt v hvm
  have hub := h.more.lt
  have s1 := h.only.size
  have s3 := ap.grown.size
  have s4 := h4.size
  have keep : ∀ {base : Nat} {x : Value} {l : List Int}, Own wr base x l → (∀ b, x.ownBlock = some b → v.ownBlock ≠ some b ∧ u.ownBlock ≠ some b) → Own w5 base x l := fun hx hne =>
    own_kept (own_kept (own_kept hx ap.grown (fun b hb e => (hne b hb).1 e.symm)) h4 (by simp)) h5 (fun b hb e => (hne b hb).2 e.symm)
  have keep1 : ∀ {x : Value}, Rd1 wr L x → (∀ b, x.ownBlock = some b → v.ownBlock ≠ some b ∧ u.ownBlock ≠ some b) → Rd1 w5 L x := fun hx hne =>
    ((hx.kept ap.grown (fun b hb e => (hne b hb).1 e.symm)).kept h4 (by simp)).kept h5 (fun b hb e => (hne b hb).2 e.symm)
  have other : ∀ j x, vs[j]? = some x → j ≠ Ml.length → ∀ b, x.ownBlock = some b → v.ownBlock ≠ some b ∧ u.ownBlock ≠ some b := fun j x hx hj b hb => by
    refine ⟨G.dis j Ml.length x v hx hv hj b hb, fun e => ?_⟩
    have := hub b e
    have := G.lt x (List.mem_of_getElem? hx) b hb
    omega
  refine ⟨?_, ?_, h.wasb, ?_, h.wblk, ?_, ?_, ?_, by simpa using hr, ?_⟩
  · exact ((h.only.then ap.grown (fun k hk => .inl (obF_mem hvm hk))).then h4 (by simp)).then h5 (fun k hk => .inr (hub k hk).1)
  · exact row_kept22 (row_kept22 (row_kept22 h.was ap.grown (fun b hb e => by have := h.wasb b hb; have := hvb b e.symm; omega)) h4 (by simp)) h5 (fun b hb e => by have := h.wasb b hb; have := hub b e.symm; omega)
  · exact fun q hq => keep1 (h.wrd q hq) (fun b hb => ⟨fun e => by have := h.wblk q hq b hb; have := hvb b e; omega, fun e => by have := h.wblk q hq b hb; have := hub b e; omega⟩)
  · exact ((h.row.grown ap.grown (fun e => (hvb B0 e.symm).2 rfl)).grown h4 (by simp)).grown h5 (fun e => by have := hub B0 e.symm; have := G.b0; omega)
  · intro x hx
    obtain ⟨j, hj⟩ := List.mem_iff_getElem?.1 hx
    by_cases hjl : j = Ml.length
    · subst hjl
      rw [hv] at hj
      obtain rfl := Option.some.inj hj
      exact (ap.rd.kept h4 (by simp)).kept h5 (fun b hb e => by have := hub b e.symm; have := hvb b hb; omega)
    · exact keep1 (h.rd x hx) (other j x hj hjl)
  · intro j x hj hx
    simp only [List.length_append, List.length_singleton] at hj
    exact keep (h.own j x (by omega) hx) (other j x hx (by omega))
  · intro j m hm
    by_cases hj : j < Ml.length
    · rw [List.getElem?_append_left hj] at hm
      obtain ⟨a, b⟩ := h.items j m hm
      refine ⟨keep a (fun k hk => ?_), fun k hk => ⟨(b k hk).1, fun e => ?_⟩⟩
      · refine ⟨fun e => ?_, (b k hk).2⟩
        rcases (b k hk).1 with ⟨x, hx, hxk⟩ | h1
        · exact (other j x hx (by omega) k hxk).1 e
        · have := hvb k e; omega
      · rcases hl k e with e2 | e2
        · exact (b k hk).2 e2
        · have := a.block k hk; omega
    · have hjl : j = Ml.length := by
        have := (List.getElem?_eq_some_iff.1 hm).1
        simp at this; omega
      subst hjl
      rw [List.getElem?_append_right (Nat.le_refl _), Nat.sub_self] at hm
      obtain rfl := Option.some.inj hm
      have hgu : ∀ b, g.ownBlock = some b → u.ownBlock ≠ some b := fun b hb e => by
        have := hub b e
        rcases ap.blk b hb with e1 | e1
        · have := hvb b e1; omega
        · omega
      refine ⟨own_kept (own_kept ap.own h4 (by simp)) h5 (fun b hb e => hgu b hb e.symm), fun k hk => ⟨?_, fun e => ?_⟩⟩
      · rcases ap.blk k hk with e1 | e1
        · exact .inl ⟨v, hv, e1⟩
        · exact .inr (by omega)
      · rcases hl k e with e2 | e2
        · exact hgu k hk e2
        · have := ap.own.block k hk; omega
theorem Lo2.drewN {B0 N : Nat} {w1 wr : World} {L : List Int} {vs : List Value} {uw : Value} {Wl : List Value} {u : Value} {Ml : List Value} (h : Lo2 B0 N w1 wr L vs uw Wl u Ml) (n : Nat) : Lo2 B0 N w1 (wr.drewN n) L vs uw Wl u Ml :=
  ⟨⟨h.only.os, h.only.tape, h.only.output, h.only.size, h.only.block⟩, h.was, h.wasb, h.wrd, h.wblk, h.row, h.rd, h.own, h.more, h.items⟩
/-- While they are written over: those from the i-th on stand. -/
structure Lo4 (B0 N N1 : Nat) (w1 wr : World) (L : List Int) (vs : List Value) (uw : Value) (Wl : List Value) (i : Nat) : Prop where
  only : Only (obF vs) w1 wr
  was : wr.ownsRow N 22 1 uw Wl.length Wl
  wasb : ∀ k, uw.ownBlock = some k → N ≤ k ∧ k < N1
  wrd : ∀ q ∈ Wl, Rd1 wr L q
  wblk : ∀ q ∈ Wl, ∀ k, q.ownBlock = some k → N ≤ k
  row : Row wr B0 22 vs
  rd : ∀ j v, i ≤ j → vs[j]? = some v → Rd1 wr L v
theorem Lo4.drewN {B0 N N1 : Nat} {w1 wr : World} {L : List Int} {vs : List Value} {uw : Value} {Wl : List Value} {i : Nat} (h : Lo4 B0 N N1 w1 wr L vs uw Wl i) (n : Nat) : Lo4 B0 N N1 w1 (wr.drewN n) L vs uw Wl i :=
  ⟨⟨h.only.os, h.only.tape, h.only.output, h.only.size, h.only.block⟩, h.was, h.wasb, h.wrd, h.wblk, h.row, h.rd⟩
/-- The i-th is written over: its bytes are these now; all else as before. -/
theorem Lo4.write {B0 N N1 : Nat} {w1 wr w2 : World} {L : List Int} {vs : List Value} {uw : Value} {Wl : List Value} {i : Nat} {v : Value} (G : Given B0 N vs) (h : Lo4 B0 N N1 w1 wr L vs uw Wl (i + 1)) (hv : vs[i]? = some v) (hg : wr.grownBy w2 v.ownBlock) : Lo4 B0 N N1 w1 w2 L vs uw Wl (i + 1) := by
  have hvm := List.mem_of_getElem? hv
  have hvb : ∀ k, v.ownBlock = some k → k < N ∧ k ≠ B0 := G.lt v hvm
  refine ⟨h.only.then hg (fun k hk => .inl (obF_mem hvm hk)), row_kept22 h.was hg (fun b hb e => by have := h.wasb b hb; have := hvb b e.symm; omega), h.wasb, fun q hq => (h.wrd q hq).kept hg (fun b hb e => by have := h.wblk q hq b hb; have := hvb b e.symm; omega), h.wblk,
    h.row.grown hg (fun e => (hvb B0 e.symm).2 rfl), fun j x hj hx => (h.rd j x hj hx).kept hg (fun b hb e => G.dis j i x v hx hv (by omega) b hb e.symm)⟩
theorem row22_cell {w : World} {base n c i : Nat} {A : Option Addr} {xs : List Value} {q : Value} (h : w.ownsRow base 22 1 (.slice A n c) n xs) (hq : xs[i]? = some q) : ∃ g, A = some ⟨g, 0, none⟩ ∧ w.cell? ⟨g, i, none⟩ = some q := by
  obtain ⟨A2, c2, e, h1, h2⟩ := ownsRow_cells h
  cases e
  obtain ⟨g, rfl, h3⟩ := h2 (by have := (List.getElem?_eq_some_iff.1 hq).1; omega)
  have := h3 i q hq
  rw [Nat.zero_add] at this
  exact ⟨g, rfl, this⟩
theorem own_item {w : World} {L : List Int} {g : Value} {y : Int} (h : Own w 0 g (L ++ List.replicate 40 y)) : ∃ b c, g = .slice (some ⟨b, 0, none⟩) (L.length + 40) c ∧ ∀ m, m < 40 → w.cell? ⟨b, L.length + m, none⟩ = some (.int .u8 y) := by
  obtain ⟨A, c, rfl, ha, hn⟩ := own_shape h
  cases A with
  | none => have := (hn rfl).1; simp at this
  | some a =>
    obtain ⟨b, o1, sp⟩ := a
    obtain ⟨e1, e2⟩ := ha _ rfl
    simp only at e1 e2
    subst e1 e2
    refine ⟨b, c, by simp, fun m hm => ?_⟩
    have := World.ownsRow.cells h (g := b) rfl (L.length + m) (.int .u8 y) (by
      rw [List.getElem?_map, List.getElem?_append_right (by omega), Nat.add_sub_cancel_left, List.getElem?_replicate, if_pos hm]; rfl)
    rw [Addr.add_lit, Nat.zero_add] at this
    exact this
theorem rd_cell {w : World} {L Y : List Int} {A : Option Addr} {c m : Nat} (h : Rd1 w Y (.slice A L.length c)) (hy : Y.length = L.length) (hm : m < L.length) : ∃ b y, A = some ⟨b, 0, none⟩ ∧ w.cell? ⟨b, m, none⟩ = some (.int .u8 y) ∧ w.frozen? ⟨b, m, none⟩ = false ∧
    ∀ n z, Rd1 ((w.drewN n).setCell ⟨b, m, none⟩ (.int .u8 z)) (Y.set m z) (.slice (some ⟨b, 0, none⟩) L.length c) ∧ (w.drewN n).grownBy ((w.drewN n).setCell ⟨b, m, none⟩ (.int .u8 z)) (some b) := by
  obtain ⟨A2, c2, e, h1⟩ := h
  injection e with e1 e2 e3
  subst e1 e3
  rcases h1 with ⟨_, rfl, _⟩ | ⟨b, cur, rfl, hb, h2, h3⟩
  · simp at hy; omega
  · refine ⟨b, Y.getD m 0, rfl, ?_, ?_, fun n z => ⟨⟨some ⟨b, 0, none⟩, c, by simp [hy], .inr ⟨b, cur.setIfInBounds m (.int .u8 z), rfl, ?_, by simpa using h2, fun j hj => ?_⟩⟩, grown_set (grown_refl _ _) (.inl rfl) _ _⟩⟩
    · rw [cell_of_row _ _ _ _ _ _ hb]; exact h3 m (by omega)
    · simp [World.frozen?, hb]
    · exact heap_setCell_same (w.drewN n) b m cur 5 _ hb
    · simp only [List.length_set] at hj
      rw [Array.getElem?_setIfInBounds]
      by_cases hjm : m = j
      · subst hjm
        rw [if_pos rfl, if_pos (by omega)]
        simp [List.getD_eq_getElem?_getD, hj]
      · rw [if_neg hjm, h3 j hj, List.getD_eq_getElem?_getD, List.getD_eq_getElem?_getD, List.getElem?_set_ne hjm]

set_option maxHeartbeats 12800000 in
set_option maxRecDepth 100000 in
theorem apart_any (vs : List Value) (L : List Int) (B0 cap : Nat) (w : World) (hrow : Row w B0 22 vs) (hG : Given B0 w.heap.size vs) (hown : ∀ v ∈ vs, Own w 0 v L) (hn : vs.length ≤ 100) (hL : L.length ≤ 16777216) :
    Calls Tryd.prog 29 #[.slice (some ⟨B0, 0, none⟩) vs.length cap] w fun e w' => e = .returned (.bool true) ∧ Only (obF vs) w w' := by
  have HG := Lib.hid hG
  have HR := Lib.hid hrow
  have HO := Lib.hid hown
  obtain ⟨N, hN⟩ : ∃ x, w.heap.size = x := ⟨_, rfl⟩
  rw [hN] at HG
  have HN := Lib.hid hN
  have HL1 : Hid (Lo1 N w w L (.slice none 0 0) []) := Lib.hid ⟨grown_refl _ _, World.ownsRow_nil _ _ _ _, fun q hq => (by cases hq), fun q hq => (by cases hq)⟩
  clear hG hrow hown hN
  go_enter Tryd.func29, Tryd.ntmps29
  go_wp2_with fail
  go_loopw [3, 4] (fun u v wr => ∃ Wl : List Value, Wl.length ≤ vs.length ∧ v = .int .i64 (Wl.length : Int) ∧ Hid (Lo1 N w wr L u Wl)) (fun _ v _ => vs.length - (intOf v).toNat)
  case atStart => exact ⟨[], by simp, rfl, HL1⟩
  case round =>
    obtain ⟨Wl, hi, rfl, HW⟩ := hrel
    clear HL1
    by_cases hlt : Wl.length < vs.length
    · obtain ⟨v, hv⟩ : ∃ v, vs[Wl.length]? = some v := ⟨_, List.getElem?_eq_getElem hlt⟩
      have hvo := own_kept (HO.out v (List.mem_of_getElem? hv)) HW.out.grown (by simp)
      obtain ⟨A, c, rfl, hA, hc⟩ := (Rd1.own hvo).src
      have cv : wr.cell? ⟨B0, Wl.length, none⟩ = some (.slice A L.length c) := (HR.out.grown HW.out.grown (by simp)).at_ hv
      have e1 : (Wl.length : Int) < (vs.length : Int) := by omega
      have HA := Lib.hid hA
      have HC := Lib.hid hc
      have hNw : N ≤ wr.heap.size := by have := HW.out.grown.size; have := HN.out; omega
      clear hv hvo hA hc
      go_wp2_with (first
        | (go_at_call 30; refine (copyBytes_any A c L wr HA.out HC.out (by omega)).mono ?_; rintro e wa ⟨q, rfl, hq, hga⟩; have HQ := Lib.hid hq; have HGa := Lib.hid hga; have hza := hga.size; obtain ⟨Aq, cq, rfl, -, -⟩ := own_shape hq; clear hq hga)
        | (have _ := wa; refine wpList_push22 rfl rfl (.tmp 26) rfl Aq L.length cq rfl (.tmp 21) (.tmp 27) rfl N u3 Wl.length Wl rfl rfl (row_kept22 HW.out.row HGa.out (by simp)) (by omega) (by omega) ?_; intro u' wb wc hr hgb hgc hl; simp only [Act.put, List.setIfInBounds_toArray, List.set_cons_zero, List.set_cons_succ]; have HW2 := Lib.hid (HW.out.step HN.out.symm HQ.out HGa.out hgb hr hgc hl); clear hr hgb hgc hl))
      go_roundw
      case rel => exact ⟨Wl ++ [.slice Aq L.length cq], by simp; omega, by simp, HW2⟩
      case measure => simp [intOf]; omega
    · have hlw : Wl.length = vs.length := by omega
      have Hlw := Lib.hid hlw
      obtain ⟨N1, hN1⟩ : ∃ x, wr.heap.size = x := ⟨_, rfl⟩
      have HN1 := Lib.hid hN1
      have HL2 : Hid (Lo2 B0 N wr wr L vs u3 Wl (.slice none 0 0) []) := Lib.hid (by
        have h := HW.out
        exact ⟨Only.refl _ _, h.row, fun k hk => h.row.lt k hk, h.rd, fun q hq k hk => ⟨(h.blk q hq k hk).1, (h.rd q hq).lt k hk⟩, HR.out.grown h.grown (by simp), fun x hx => Rd1.own (own_kept (HO.out x hx) h.grown (by simp)), fun j x _ hx => own_kept (HO.out x (List.mem_of_getElem? hx)) h.grown (by simp), World.ownsRow_nil _ _ _ _, fun j m hm => by simp at hm⟩)
      obtain ⟨w1, hw1⟩ : ∃ x, wr = x := ⟨_, rfl⟩
      have HL2' : Hid (Lo2 B0 N w1 wr L vs u3 Wl (.slice none 0 0) []) := Lib.hid (by rw [← hw1]; exact HL2.out)
      have Hw1 := Lib.hid hw1
      obtain ⟨Aw, cw, rfl, -, -⟩ := ownsRow_val HW.out.row
      have HGw : Hid (w.grownBy w1 none) := Lib.hid (by rw [← hw1]; exact HW.out.grown)
      have hNw : N ≤ w1.heap.size := by rw [← hw1]; have := HW.out.grown.size; have := HN.out; omega
      have e1 : ¬ (Wl.length : Int) < (vs.length : Int) := by omega
      clear hlw hN1 HL2 hw1 HW hlt hi
      go_wp2_with fail
      clear e1
      go_loopw [5, 6] (fun u v wr => ∃ Ml : List Value, Ml.length ≤ vs.length ∧ v = .int .i64 (Ml.length : Int) ∧ Hid (Lo2 B0 N w1 wr L vs (.slice Aw Wl.length cw) Wl u Ml)) (fun _ v _ => vs.length - (intOf v).toNat)
      case atStart => exact ⟨[], by simp, rfl, HL2'⟩
      case round =>
        obtain ⟨Ml, hi, rfl, HM⟩ := hrel
        clear HL2'
        by_cases hlt : Ml.length < vs.length
        · obtain ⟨v, hv⟩ : ∃ v, vs[Ml.length]? = some v := ⟨_, List.getElem?_eq_getElem hlt⟩
          have hvo := HM.out.own Ml.length v (Nat.le_refl _) hv
          have hvr := Rd1.own hvo
          obtain ⟨wo, hwo⟩ : ∃ wo : World, wo = wr := ⟨_, rfl⟩
          subst hwo
          have cv : wo.cell? ⟨B0, Ml.length, none⟩ = some v := HM.out.row.at_ hv
          have e1 : (Ml.length : Int) < (vs.length : Int) := by omega
          have HX0 : Hid (ApG wo wo L v v (List.replicate 0 ((Ml.length : Int) + 1))) := Lib.hid ⟨by simpa using hvo, hvr, grown_refl _ _, fun k hk => .inl hk⟩
          have Hv := Lib.hid hv
          have hws : IntKind.u8.wrap ((Ml.length : Int) + 1) = (Ml.length : Int) + 1 := IntWalk.u8_in _ (by omega)
          obtain ⟨A, c, rfl, -, -⟩ := own_shape hvo
          clear hvo hvr hv
          go_wp2_with fail
          clear cv
          go_loopw [7, 8] (fun g k wr => ∃ m : Nat, m ≤ 40 ∧ k = .int .i64 (m : Int) ∧ Hid (ApG wo wr L (.slice A L.length c) g (List.replicate m ((Ml.length : Int) + 1)))) (fun _ k _ => 40 - (intOf k).toNat)
          case atStart => exact ⟨0, by omega, rfl, HX0⟩
          case round =>
            obtain ⟨m, hm, rfl, HX⟩ := hrel
            clear HX0
            by_cases hm2 : m < 40
            · have e2 : (m : Int) < 40 := by omega
              go_wp2_with (refine wpList_appLit3 rfl rfl ((Ml.length : Int) + 1) _ rfl rfl (.tmp 43) (.tmp 47) rfl 0 u7 (L ++ List.replicate m ((Ml.length : Int) + 1)) rfl rfl HX.out.own (by simp; omega) (Nat.zero_le _) ?_; intro g' wa wb ho ha hb hl hs; simp only [Act.put, List.setIfInBounds_toArray, List.set_cons_zero, List.set_cons_succ]; have HX2 := Lib.hid (HX.out.step ha ho hb hl hs); clear ho ha hb hl hs)
              go_roundw
              case rel => exact ⟨m + 1, by omega, by go_num, by rw [List.replicate_succ']; exact HX2⟩
              case measure => simp [intOf]; omega
            · obtain rfl : m = 40 := by omega
              have hmk := row_kept22 HM.out.more HX.out.grown (fun b hb e => by have := (HM.out.more.lt b hb).1; have := (HG.out.lt _ (List.mem_of_getElem? Hv.out) b e.symm).1; omega)
              have Hmk := Lib.hid hmk
              have hzs : w1.heap.size ≤ wr.heap.size := by have := HM.out.only.size; have := HX.out.grown.size; omega
              obtain ⟨Ag, cg, rfl, -, -⟩ := own_shape HX.out.own
              clear hmk
              go_wp2_with (refine wpList_push22 rfl rfl (.tmp 50) rfl Ag _ cg rfl (.tmp 49) (.tmp 51) rfl w1.heap.size u5 Ml.length Ml rfl rfl Hmk.out (by omega) hzs ?_; intro u' wb wc hr hgb hgc hl; simp only [Act.put, List.setIfInBounds_toArray, List.set_cons_zero, List.set_cons_succ]; have HM2 := Lib.hid (HM.out.step HG.out hNw Hv.out HX.out hgb hr hgc hl); clear hr hgb hgc hl)
              go_roundw
              case rel => exact ⟨Ml ++ [_], by simp; omega, by simp, HM2⟩
              case measure => simp [intOf]; omega
        · have hml : Ml.length = vs.length := by omega
          have Hml := Lib.hid hml
          obtain ⟨Au, cu, rfl, -, -⟩ := ownsRow_val HM.out.more
          have e1 : ¬ (Ml.length : Int) < (vs.length : Int) := by omega
          clear hml hlt hi
          go_wp2_with fail
          clear e1
          go_loopw [9] (fun v wr => ∃ i : Nat, i ≤ vs.length ∧ v = .int .i64 (i : Int) ∧ Hid (Lo2 B0 N w1 wr L vs (.slice Aw Wl.length cw) Wl (.slice Au Ml.length cu) Ml)) (fun v _ => vs.length - (intOf v).toNat)
          case atStart => exact ⟨0, by omega, rfl, HM⟩
          case round =>
            obtain ⟨i, hi, rfl, HM3⟩ := hrel
            clear HM
            by_cases hlt : i < vs.length
            · obtain ⟨v, hv⟩ : ∃ v, vs[i]? = some v := ⟨_, List.getElem?_eq_getElem hlt⟩
              obtain ⟨q, hq⟩ : ∃ q, Wl[i]? = some q := ⟨_, List.getElem?_eq_getElem (by have := Hlw.out; omega)⟩
              obtain ⟨g, hg⟩ : ∃ g, Ml[i]? = some g := ⟨_, List.getElem?_eq_getElem (by have := Hml.out; omega)⟩
              obtain ⟨A, c, rfl, hA, hsA⟩ := (HM3.out.rd v (List.mem_of_getElem? hv)).src
              obtain ⟨Aq, cq, rfl, hAq, hsq⟩ := (HM3.out.wrd q (List.mem_of_getElem? hq)).src
              obtain ⟨gw, rfl, cW⟩ := row22_cell HM3.out.was hq
              obtain ⟨gu, rfl, cU⟩ := row22_cell HM3.out.more hg
              obtain ⟨bm, cm, rfl, hcm⟩ := own_item (HM3.out.items i g hg).1 
              have c0 : wr.cell? ⟨B0, i, none⟩ = some (.slice A L.length c) := HM3.out.row.at_ hv
              have e1 : (i : Int) < (vs.length : Int) := by omega
              have e2 : (i : Int) < (Ml.length : Int) := by have := Hml.out; omega
              have e3 : (i : Int) < (Wl.length : Int) := by have := Hlw.out; omega
              have Hcm := Lib.hid hcm
              have hws : IntKind.u8.wrap ((i : Int) + 1) = (i : Int) + 1 := IntWalk.u8_in _ (by omega)
              have Heq : Hid (∀ n, Calls Tryd.prog 25 #[.slice A L.length c, .slice Aq L.length cq] (wr.drewN n) fun e w' => e = .returned (.bool true) ∧ w' = wr.drewN n) := Lib.hid (fun n => (eqBytes_any A Aq c cq L (wr.drewN n) (fun h => (hA h).1) (fun h => (hAq h).1) hsA hsq).mono fun e w' h => ⟨h.1, h.2.symm⟩)
              clear hv hq hg hA hsA hAq hsq hcm
              go_wp2_with fail
              go_loop [11] (fun k => ∃ m : Nat, m ≤ 40 ∧ k = .int .i64 (m : Int)) (fun k => 40 - (intOf k).toNat)
              case atStart => exact ⟨0, by omega, rfl⟩
              case round =>
                obtain ⟨m, hm, rfl⟩ := hrel
                by_cases hm2 : m < 40
                · have e4 : (m : Int) < 40 := by omega
                  have cm2 := Hcm.out m hm2
                  have e5 : (L.length : Int) + (m : Int) < (L.length : Int) + 40 := by omega
                  go_wp2_with fail
                  go_round
                  case rel => exact ⟨m + 1, by omega, by go_num⟩
                  case measure => simp [intOf]; omega
                · obtain rfl : m = 40 := by omega
                  go_upto_region 25 with fail
                  go_quiet ((go_at_call 25; exact Calls.quiet_of_same (Heq.out _)))
                  have HM4 := Lib.hid (HM3.out.drewN nq)
                  generalize hw9 : wr.drewN nq = w9 at HM4 ⊢
                  clear hw9
                  go_wp2_with fail
                  go_roundw
                  case rel => exact ⟨i + 1, by omega, by go_num, HM4⟩
                  case measure => simp [intOf]; omega
            · have HL4 : Hid (Lo4 B0 N w1.heap.size w1 wr L vs (.slice Aw Wl.length cw) Wl 0) := Lib.hid (by
                have h := HM3.out
                exact ⟨h.only, h.was, h.wasb, h.wrd, fun q hq k hk => (h.wblk q hq k hk).1, h.row, fun j v _ hv => h.rd v (List.mem_of_getElem? hv)⟩)
              obtain rfl : i = vs.length := by omega
              clear HM3 hlt hi
              go_wp2_with fail
              go_loopw [12] (fun v wr => ∃ i : Nat, i ≤ vs.length ∧ v = .int .i64 (i : Int) ∧ Hid (Lo4 B0 N w1.heap.size w1 wr L vs (.slice Aw Wl.length cw) Wl i)) (fun v _ => vs.length - (intOf v).toNat)
              case atStart => exact ⟨0, by omega, rfl, HL4⟩
              case round =>
                obtain ⟨i, hi, rfl, HX⟩ := hrel
                clear HL4
                by_cases hlt : i < vs.length
                · obtain ⟨v, hv⟩ : ∃ v, vs[i]? = some v := ⟨_, List.getElem?_eq_getElem hlt⟩
                  have hvr := HX.out.rd i v (Nat.le_refl _) hv
                  have HX0 : Hid (Lo4 B0 N w1.heap.size w1 wr L vs (.slice Aw Wl.length cw) Wl (i + 1)) := Lib.hid (by have h := HX.out; exact ⟨h.only, h.was, h.wasb, h.wrd, h.wblk, h.row, fun j x hj hx => h.rd j x (by omega) hx⟩)
                  have HV0 : Hid (Rd1 wr L v) := Lib.hid hvr
                  have e1 : (i : Int) < (vs.length : Int) := by omega
                  have Hv := Lib.hid hv
                  obtain ⟨A, c, rfl, -, -⟩ := hvr.src
                  clear hvr hv HX
                  go_wp2_with fail
                  go_loopw [13] (fun k wr => ∃ (m : Nat) (Y : List Int), m ≤ L.length ∧ k = .int .i64 (m : Int) ∧ Hid (Y.length = L.length) ∧ Hid (Rd1 wr Y (.slice A L.length c)) ∧ Hid (Lo4 B0 N w1.heap.size w1 wr L vs (.slice Aw Wl.length cw) Wl (i + 1))) (fun k _ => L.length - (intOf k).toNat)
                  case atStart => exact ⟨0, L, by omega, rfl, Lib.hid rfl, HV0, HX0⟩
                  case round =>
                    obtain ⟨m, Y, hm, rfl, HY, HV, HX⟩ := hrel
                    clear HX0 HV0
                    have c0 : wr.cell? ⟨B0, i, none⟩ = some (.slice A L.length c) := HX.out.row.at_ Hv.out
                    by_cases hm2 : m < L.length
                    · have e2 : (m : Int) < (L.length : Int) := by omega
                      obtain ⟨b, y, rfl, cy, fy, hset⟩ := rd_cell HV.out HY.out hm2
                      have Hset := Lib.hid hset
                      clear hset
                      go_upto_region 33 with fail
                      refine wp_region_drawn_tail 14 (by kernel_rfl) (by kernel_rfl) ?_
                      simp only [List.take_succ_cons, List.take_zero, List.drop_succ_cons, List.drop_zero]
                      repeat (go_big_quiet_step (fail))
                      refine wpQuiet_nil ?_
                      rintro _ ⟨nq, rfl⟩
                      go_wp2_with fail
                      have HV2 := Lib.hid ((Hset.out nq (IntKind.u8.wrap (y + 1))).1)
                      have HX2 := Lib.hid ((HX.out.drewN nq).write HG.out Hv.out (Hset.out nq (IntKind.u8.wrap (y + 1))).2)
                      go_roundw
                      case rel => exact ⟨m + 1, Y.set m (IntKind.u8.wrap (y + 1)), by omega, by go_num, Lib.hid (by simp; exact HY.out), HV2, HX2⟩
                      case measure => simp [intOf]; omega
                    · obtain rfl : m = L.length := by omega
                      go_wp2_with fail
                      clear c0 HV HY
                      go_loopw [14] (fun k wr => ∃ j : Nat, i + 1 ≤ j ∧ j ≤ vs.length ∧ k = .int .i64 (j : Int) ∧ Hid (Lo4 B0 N w1.heap.size w1 wr L vs (.slice Aw Wl.length cw) Wl (i + 1))) (fun k _ => vs.length - (intOf k).toNat)
                      case atStart => exact ⟨i + 1, by omega, by omega, by go_num, HX⟩
                      case round =>
                        obtain ⟨j, hj0, hj, rfl, HX3⟩ := hrel
                        clear HX
                        by_cases hj2 : j < vs.length
                        · obtain ⟨x, hx⟩ : ∃ x, vs[j]? = some x := ⟨_, List.getElem?_eq_getElem hj2⟩
                          obtain ⟨q, hq⟩ : ∃ q, Wl[j]? = some q := ⟨_, List.getElem?_eq_getElem (by have := Hlw.out; omega)⟩
                          obtain ⟨A2, c2, rfl, hA, hsA⟩ := (HX3.out.rd j x hj0 hx).src
                          obtain ⟨Aq, cq, rfl, hAq, hsq⟩ := (HX3.out.wrd q (List.mem_of_getElem? hq)).src
                          obtain ⟨gw, rfl, cW⟩ := row22_cell HX3.out.was hq
                          have c0 : wr.cell? ⟨B0, j, none⟩ = some (.slice A2 L.length c2) := HX3.out.row.at_ hx
                          have e2 : (j : Int) < (vs.length : Int) := by omega
                          have e3 : (j : Int) < (Wl.length : Int) := by have := Hlw.out; omega
                          have Heq : Hid (∀ n, Calls Tryd.prog 25 #[.slice A2 L.length c2, .slice Aq L.length cq] (wr.drewN n) fun e w' => e = .returned (.bool true) ∧ w' = wr.drewN n) := Lib.hid (fun n => (eqBytes_any A2 Aq c2 cq L (wr.drewN n) (fun h => (hA h).1) (fun h => (hAq h).1) hsA hsq).mono fun e w' h => ⟨h.1, h.2.symm⟩)
                          clear hx hq hA hsA hAq hsq
                          go_upto_region 37 with fail
                          go_quiet ((go_at_call 25; exact Calls.quiet_of_same (Heq.out _)))
                          have HX4 := Lib.hid (HX3.out.drewN nq)
                          generalize hw9 : wr.drewN nq = w9 at HX4 ⊢
                          clear hw9
                          go_wp2_with fail
                          go_roundw
                          case rel => exact ⟨j + 1, by omega, by omega, by go_num, HX4⟩
                          case measure => simp [intOf]; omega
                        · obtain rfl : j = vs.length := by omega
                          go_wp2_with fail
                          go_roundw
                          case rel => exact ⟨i + 1, by omega, by go_num, HX3⟩
                          case measure => simp [intOf]; omega
                · obtain rfl : i = vs.length := by omega
                  go_wp2_with fail
                  go_ret
                  have h := HX.out.only
                  exact ⟨rfl, ⟨h.os.trans HGw.out.os, h.tape.trans HGw.out.tape, h.output.trans HGw.out.output, Nat.le_trans HGw.out.size h.size, fun k hk hF => by rw [h.block k (Nat.lt_of_lt_of_le hk HGw.out.size) hF]; exact HGw.out.block k hk (by simp)⟩⟩
end
section
open Go.RowKit
set_option linter.unusedVariables false
set_option linter.unusedSimpArgs false
theorem tabs_only {F : List Nat} {w w' : World} (h : Lib.Utf8Tabs 0 1 w) (hO : Only F w w') (h0 : 0 ∉ F) (h1 : 1 ∉ F) : Lib.Utf8Tabs 0 1 w' :=
  have cell : ∀ {a : Addr} {v : Value}, a.block ∉ F → w.cell? a = some v → w'.cell? a = some v := fun hF hc => by rw [World.cell?_of_block (hO.block _ (block_lt_of_cell hc) hF)]; exact hc
  ⟨fun c hc => cell h0 (h.1 c hc), fun i hi => ⟨cell h1 (h.2 i hi).1, cell h1 (h.2 i hi).2⟩⟩
theorem below_only {F : List Nat} {w w1 w2 : World} (h : Below w.heap.size w w1) (hO : Only F w1 w2) (hF : ∀ g ∈ F, w.heap.size ≤ g) : Below w.heap.size w w2 :=
  ⟨hO.os.trans h.os, hO.tape.trans h.tape, hO.output.trans h.output, Nat.le_trans h.size hO.size, fun i hi => by
    rw [hO.block i (Nat.lt_of_lt_of_le hi h.size) (fun e => by have := hF i e; omega)]; exact h.block i hi⟩
theorem wpList_build22_2 {ops : Array Oper} {rest : List Oper} {o : Oper} {a : Act} {w : World} {Q : Exit → Act → World → Prop} (hgd : o.guard = none) (x y : Operand) (ho : o.op = .buildSlice 50 2 #[(0, x), (1, y)]) (A B : Option Addr) (l m c d : Nat) (hx : a.eval x = .slice A l c) (hy : a.eval y = .slice B m d)
    (h : ∀ w', Row w' w.heap.size 22 [.slice A l c, .slice B m d] → w.grownBy w' none → w'.heap.size = w.heap.size + 1 → wpList Tryd.prog ops Q rest (a.put o.dst (.slice (some ⟨w.heap.size, 0, none⟩) 2 2)) w') : wpList Tryd.prog ops Q (o :: rest) a w := by
  have hsz : (Tryd.prog.info? 22).get!.size = 1 := by kernel_rfl
  refine wpList_buildSlice hgd 50 22 2 _ ho #[.slice A l c, .slice B m d] _ (.slice none 0 0) Tryd.underlying50 info22 (by kernel_rfl) (by rw [hsz]; omega) (by rw [hsz]; omega) ?_ (h _ (Row.new w [.slice A l c, .slice B m d] 22) (grown_new _ _).1 (grown_new _ _).2)
  rw [Array.toList_map, hsz]
  simp only [List.map_cons, List.map_nil, hx, hy]
  exact Great.fill_flat [.slice A l c, .slice B m d] _ (fun v hv => by simp at hv; rcases hv with rfl | rfl <;> rfl) (by simp)
theorem given_two {B0 N : Nat} {v u : Value} {b1 b2 m1 m2 : Nat} (h1 : ∀ k, v.ownBlock = some k → b1 ≤ k ∧ k < m1) (h2 : ∀ k, u.ownBlock = some k → b2 ≤ k ∧ k < m2) (h3 : m1 ≤ b2) (h4 : m1 ≤ B0) (h5 : m2 ≤ B0) (h6 : B0 < N) : Given B0 N [v, u] := by
  refine ⟨fun i j a b hi hj hne k ha hb => ?_, fun x hx k hk => ?_, h6⟩
  · have : ∀ (i : Nat) (a : Value), [v, u][i]? = some a → (i = 0 ∧ a = v) ∨ (i = 1 ∧ a = u) := fun i a h => by
      match i, h with
      | 0, h => left; simpa using h.symm
      | 1, h => right; simpa using h.symm
    rcases this i a hi with ⟨rfl, rfl⟩ | ⟨rfl, rfl⟩ <;> rcases this j b hj with ⟨rfl, rfl⟩ | ⟨rfl, rfl⟩
    · exact hne rfl
    · have := h1 k ha; have := h2 k hb; omega
    · have := h1 k hb; have := h2 k ha; omega
    · exact hne rfl
  · simp at hx
    rcases hx with rfl | rfl
    · have := h1 k hk; omega
    · have := h2 k hk; omega
theorem obF_two {v u : Value} {g : Nat} (h : g ∈ obF [v, u]) : v.ownBlock = some g ∨ u.ownBlock = some g := by
  obtain ⟨x, hx, hg⟩ := List.mem_flatMap.1 h
  simp at hx
  rcases hx with rfl | rfl
  · exact .inl (obs_mem.1 hg)
  · exact .inr (obs_mem.1 hg)
set_option maxHeartbeats 6400000 in
set_option maxRecDepth 100000 in
theorem checks_any (j : J) (cs : List Value) (w : World) (hj : JR w j cs) (hsz : JAll (JSz 140737488355328) j) (hsz2 : JAll (JSz 1099511627776) j) (hroom : (checkJ 17 j 1 0).1 = 0 → (writeJ 17 j).length ≤ 16777216) (hT : Lib.Utf8Tabs 0 1 w) (hw : 1 < w.heap.size) :
    Calls Tryd.prog 6 #[.agg cs.toArray] w fun e w' => e = .returned (.bool true) ∧ Below w.heap.size w w' := by
  obtain ⟨p0, p1, p2, p3, p4, rfl⟩ := five_of hj.five
  have Hj := Lib.hid hj
  have Hsz := Lib.hid hsz
  have Hsz2 := Lib.hid hsz2
  have HT := Lib.hid hT
  have Hw := Lib.hid hw
  have Hroom := Lib.hid hroom
  have Hroom6 : Hid ((checkJ 17 j 1 0).1 = 0 → 6 * (writeJ 17 j).length ≤ 1073741824) := Lib.hid (fun h => by have := hroom h; omega)
  clear hj hsz hsz2 hT hw hroom
  obtain ⟨E, hE⟩ : ∃ e, printE j = e := ⟨_, rfl⟩
  have HE := Lib.hid hE
  clear hE
  have Hck : Hid (∀ W cs, JR W j cs → Below w.heap.size w W → Calls Tryd.prog 26 #[.agg cs.toArray] W fun e w' => e = .returned (.int .i64 E) ∧ Below W.heap.size W w') := Lib.hid (fun W cs hc hW => by
    have := checkP_any j cs W hc Hsz.out (tabs_below HT.out hW) Hroom6.out
    rwa [HE.out] at this)
  have Hrk : Hid (∀ W cs, JR W j cs → Calls Tryd.prog 27 #[.agg cs.toArray] W fun e w' => e = .returned (.int .i64 E) ∧ Below W.heap.size W w') := Lib.hid (fun W cs hc => by
    have := rcheckP_any j cs W hc Hsz2.out Hroom.out
    rw [HE.out] at this
    exact this.mono fun e w' h => ⟨h.1, below_of_grown h.2⟩)
  have Hwk : Hid (∀ W, Below w.heap.size w W → Calls Tryd.prog 9 #[] W fun e w' => e = .returned (.bool true) ∧ Below W.heap.size W w') := Lib.hid (fun W hW => works_any W (tabs_below HT.out hW) (Nat.lt_of_lt_of_le Hw.out hW.size))
  go_enter Tryd.func6, Tryd.ntmps6
  go_upto_region 1 with (refine wpList_box_abs rfl 29 (.tmp 0) rfl [p0, p1, p2, p3, p4] rfl ?_; intro w1 hr1 hg1 hs1; simp only [Act.put, List.setIfInBounds_toArray, List.set_cons_zero, List.set_cons_succ])
  obtain ⟨Ba, hBa⟩ : ∃ x, w.heap.size = x := ⟨_, rfl⟩
  rw [hBa] at hr1 ⊢
  have HX1 := Lib.hid hr1
  have HB1 := Lib.hid (below_of_grown hg1)
  have HBa := Lib.hid hBa
  clear hr1 hg1 hs1 hBa
  by_cases hv : leftV j 1 65536 < 0
  · have hd : decide (leftV j 1 65536 < 0) = true := by simpa using hv
    have Hd := Lib.hid hd
    clear hd hv
    go_upto_region 2 with (first
      | (go_at_call 16; refine (vast_any j [p0, p1, p2, p3, p4] w1 (Hj.out.below HB1.out) Hsz.out).mono ?_; rintro e w2 ⟨rfl, hb2⟩; rw [Hd.out]; have HB2 := Lib.hid (below_trans2 HB1.out hb2); have HX2 := Lib.hid (HX1.out.grown (grown_of_below hb2 none) (by simp)); clear hb2)
      | (refine wpList_load_Row rfl 29 _ rfl Ba rfl [p0, p1, p2, p3, p4] 29 HX1.out _ Tryd.underlying29 rfl size29 ?_; simp only [Act.put, List.setIfInBounds_toArray, List.set_cons_zero, List.set_cons_succ]))
    have a0 := HX2.out.at_ (j := 0) rfl
    have ga0 := fun d os => cell_regrown a0 d os
    have a1 := HX2.out.at_ (j := 1) rfl
    have ga1 := fun d os => cell_regrown a1 d os
    have a2 := HX2.out.at_ (j := 2) rfl
    have ga2 := fun d os => cell_regrown a2 d os
    have a3 := HX2.out.at_ (j := 3) rfl
    have ga3 := fun d os => cell_regrown a3 d os
    have a4 := HX2.out.at_ (j := 4) rfl
    have ga4 := fun d os => cell_regrown a4 d os
    have Hck2 : Hid (∀ W, Below w2.heap.size w2 W → Calls Tryd.prog 26 #[.agg #[p0, p1, p2, p3, p4]] W fun e w' => e = .returned (.int .i64 E) ∧ Below W.heap.size W w') := Lib.hid (fun W hW => Hck.out W _ (Hj.out.below (below_trans2 HB2.out hW)) (below_trans2 HB2.out hW))
    have Hrk2 : Hid (∀ W, Below w2.heap.size w2 W → Calls Tryd.prog 27 #[.agg #[p0, p1, p2, p3, p4]] W fun e w' => e = .returned (.int .i64 E) ∧ Below W.heap.size W w') := Lib.hid (fun W hW => Hrk.out W _ (Hj.out.below (below_trans2 HB2.out hW)))
    have Hwk2 : Hid (∀ W, Below w2.heap.size w2 W → Calls Tryd.prog 9 #[] W fun e w' => e = .returned (.bool true) ∧ Below W.heap.size W w') := Lib.hid (fun W hW => Hwk.out W (below_trans2 HB2.out hW))
    refine wp_region_quiet_below (by kernel_rfl) (by kernel_rfl) ?_
    repeat (go_big_quiet_step ((first | (go_at_call 26; exact Calls.regrown_of (Hck2.out _ (below_regrown _ _ _))) | (go_at_call 27; exact Calls.regrown_of (Hrk2.out _ (below_regrown _ _ _))) | (go_at_call 9; exact Calls.regrown_of (Hwk2.out _ (below_regrown _ _ _))))))
    refine wpQuiet_nil ?_
    rintro _ ⟨pp, rfl⟩
    have hbp := below_regrown w2 pp.d pp.os
    generalize hwz : Sort.grow (redrawn w2 pp.d) pp.os = w5 at hbp ⊢
    have HB5 := Lib.hid (below_trans2 HB2.out hbp)
    clear hwz hbp ga0 ga1 ga2 ga3 ga4 a0 a1 a2 a3 a4
    go_wp2_with fail
    go_ret
    exact ⟨rfl, HB5.out⟩
  · have hd : decide (leftV j 1 65536 < 0) = false := by simpa using hv
    have Hd := Lib.hid hd
    have HSm := Lib.hid (small_of (j := j) (by omega))
    clear hd hv
    go_upto_region 3 with (first
      | (go_at_call 16; refine (vast_any j [p0, p1, p2, p3, p4] w1 (Hj.out.below HB1.out) Hsz.out).mono ?_; rintro e w2 ⟨rfl, hb2⟩; rw [Hd.out]; have HB2 := Lib.hid (below_trans2 HB1.out hb2); have HX2 := Lib.hid (HX1.out.grown (grown_of_below hb2 none) (by simp)); clear hb2)
      | (refine wpList_load_Row rfl 29 _ rfl Ba rfl [p0, p1, p2, p3, p4] 29 HX1.out _ Tryd.underlying29 rfl size29 ?_; simp only [Act.put, List.setIfInBounds_toArray, List.set_cons_zero, List.set_cons_succ]))
    go_upto_region 4 with (first
      | (have _ := w4; refine wpList_store_Row rfl 29 _ _ rfl w3.heap.size [q0, q1, q2, q3, q4] rfl rfl 29 zero5 hr4 size29 rfl HJ3.out.cells ?_; intro w5 hr5 hg5 hs5; simp only [Act.put, List.setIfInBounds_toArray, List.set_cons_zero, List.set_cons_succ])
      | (have _ := w3; refine wpList_alloc_abs rfl 29 rfl zero5 _ (zero29 _) rfl ?_; intro w4 hr4 hg4 hs4; simp only [Act.put, List.setIfInBounds_toArray, List.set_cons_zero, List.set_cons_succ])
      | (go_at_call 18; refine (copy_any w j [p0, p1, p2, p3, p4] w2 Hj.out (sz_up HSm.out.sz).2 HB2.out).mono ?_; rintro e w3 ⟨hg3, cs3, F3, rfl, hj3⟩; obtain ⟨q0, q1, q2, q3, q4, rfl⟩ := five_of hj3.five.1
         have HB3 := Lib.hid (below_step HB2.out hg3); have HX3 := Lib.hid (HX2.out.grown hg3 (by simp)); have HJ3 := Lib.hid hj3; clear hg3 hj3)
      | (refine wpList_load_Row rfl 29 _ rfl Ba rfl [p0, p1, p2, p3, p4] 29 HX2.out _ Tryd.underlying29 rfl size29 ?_; simp only [Act.put, List.setIfInBounds_toArray, List.set_cons_zero, List.set_cons_succ]))
    have hg35 : w3.grownBy w5 none := grown_own hg4 hg5 (fun i hi => .inr (by have := Option.some.inj hi; omega))
    have HB5 := Lib.hid (below_step HB3.out hg35)
    have HX5 := Lib.hid (HX3.out.grown hg35 (by simp))
    have HJ5 := Lib.hid ((HJ3.out.kept hg35 (by simp)).rd)
    obtain ⟨Bo, hBo⟩ : ∃ x, w3.heap.size = x := ⟨_, rfl⟩
    rw [hBo] at hr5 ⊢
    have HO5 := Lib.hid hr5
    clear hr4 hg4 hs4 hr5 hg5 hs5 hg35 hBo HB3 HX3 HJ3 HX2 HB2
    have a0 := HX5.out.at_ (j := 0) rfl
    have ga0 := fun d os => cell_regrown a0 d os
    have b0 := HO5.out.at_ (j := 0) rfl
    have gb0 := fun d os => cell_regrown b0 d os
    have a1 := HX5.out.at_ (j := 1) rfl
    have ga1 := fun d os => cell_regrown a1 d os
    have b1 := HO5.out.at_ (j := 1) rfl
    have gb1 := fun d os => cell_regrown b1 d os
    have a2 := HX5.out.at_ (j := 2) rfl
    have ga2 := fun d os => cell_regrown a2 d os
    have b2 := HO5.out.at_ (j := 2) rfl
    have gb2 := fun d os => cell_regrown b2 d os
    have a3 := HX5.out.at_ (j := 3) rfl
    have ga3 := fun d os => cell_regrown a3 d os
    have b3 := HO5.out.at_ (j := 3) rfl
    have gb3 := fun d os => cell_regrown b3 d os
    have a4 := HX5.out.at_ (j := 4) rfl
    have ga4 := fun d os => cell_regrown a4 d os
    have b4 := HO5.out.at_ (j := 4) rfl
    have gb4 := fun d os => cell_regrown b4 d os
    have Hck2 : Hid (∀ W, Below w5.heap.size w5 W → Calls Tryd.prog 26 #[.agg #[q0, q1, q2, q3, q4]] W fun e w' => e = .returned (.int .i64 E) ∧ Below W.heap.size W w') := Lib.hid (fun W hW => Hck.out W _ (HJ5.out.below hW) (below_trans2 HB5.out hW))
    have Hrk2 : Hid (∀ W, Below w5.heap.size w5 W → Calls Tryd.prog 27 #[.agg #[p0, p1, p2, p3, p4]] W fun e w' => e = .returned (.int .i64 E) ∧ Below W.heap.size W w') := Lib.hid (fun W hW => Hrk.out W _ (Hj.out.below (below_trans2 HB5.out hW)))
    refine wp_region_quiet_below (by kernel_rfl) (by kernel_rfl) ?_
    repeat (go_big_quiet_step ((first | (go_at_call 26; exact Calls.regrown_of (Hck2.out _ (below_regrown _ _ _))) | (go_at_call 27; exact Calls.regrown_of (Hrk2.out _ (below_regrown _ _ _))))))
    refine wpQuiet_nil ?_
    rintro _ ⟨pp, rfl⟩
    have hbp := below_regrown w5 pp.d pp.os
    generalize hwz : Sort.grow (redrawn w5 pp.d) pp.os = w6 at hbp ⊢
    have HB6 := Lib.hid (below_trans2 HB5.out hbp)
    have HX6 := Lib.hid (HX5.out.grown (grown_of_below hbp none) (by simp))
    have HO6 := Lib.hid (HO5.out.grown (grown_of_below hbp none) (by simp))
    have HJ6 := Lib.hid (HJ5.out.below hbp)
    clear hwz hbp ga0 ga1 ga2 ga3 ga4 a0 a1 a2 a3 a4 gb0 gb1 gb2 gb3 gb4 b0 b1 b2 b3 b4 HB5 HX5 HO5 HJ5 Hck2 Hrk2
    obtain ⟨L, hL⟩ : ∃ l, printT j = l := ⟨_, rfl⟩
    have HL := Lib.hid hL
    have hLl : L.length ≤ 8192 := by
      rw [← hL]
      unfold printT
      split
      · simp
      · rename_i h
        unfold printE at h
        by_cases hc : (checkJ 17 j 1 0).1 = 0
        · rw [if_neg (by simpa using hc)] at h
          by_cases h8 : 8192 < (writeJ 17 j).length
          · rw [if_pos h8] at h; exact absurd (by decide) h
          · omega
        · rw [if_pos hc] at h; exact absurd hc h
    clear hL
    go_upto_region 7 with (first
      | (go_at_call 17; refine (print_any j [q0, q1, q2, q3, q4] w6 HJ6.out Hsz.out (tabs_below HT.out HB6.out) Hroom6.out).mono ?_; rintro e w7 ⟨⟨v7, rfl, ho7, -⟩, hb7⟩; rw [HE.out]; rw [HL.out] at ho7; have HB7 := Lib.hid (below_trans2 HB6.out hb7); have Hb7 := Lib.hid hb7; have HV7 := Lib.hid ho7; clear hb7 ho7)
      | (refine wpList_load_Row rfl 29 _ rfl Bo rfl [q0, q1, q2, q3, q4] 29 HO6.out _ Tryd.underlying29 rfl size29 ?_; simp only [Act.put, List.setIfInBounds_toArray, List.set_cons_zero, List.set_cons_succ]))
    have HX7 := Lib.hid (HX6.out.grown (grown_of_below Hb7.out none) (by simp))
    have HO7 := Lib.hid (HO6.out.grown (grown_of_below Hb7.out none) (by simp))
    have HJ7 := Lib.hid (HJ6.out.below Hb7.out)
    have hs67 := Hb7.out.size
    clear HX6 HO6 HJ6 Hb7
    go_upto_region 8 with (first
      | (go_at_call 17; refine (print_any j [q0, q1, q2, q3, q4] w7 HJ7.out Hsz.out (tabs_below HT.out HB7.out) Hroom6.out).mono ?_; rintro e w8 ⟨⟨v8, rfl, ho8, -⟩, hb8⟩; rw [HE.out]; rw [HL.out] at ho8; have HB8 := Lib.hid (below_trans2 HB7.out hb8); have Hb8 := Lib.hid hb8; have HV8 := Lib.hid ho8; clear hb8 ho8)
      | (refine wpList_load_Row rfl 29 _ rfl Bo rfl [q0, q1, q2, q3, q4] 29 HO7.out _ Tryd.underlying29 rfl size29 ?_; simp only [Act.put, List.setIfInBounds_toArray, List.set_cons_zero, List.set_cons_succ]))
    have HX8 := Lib.hid (HX7.out.grown (grown_of_below Hb8.out none) (by simp))
    have HO8 := Lib.hid (HO7.out.grown (grown_of_below Hb8.out none) (by simp))
    have HJ8 := Lib.hid (HJ7.out.below Hb8.out)
    have HV7b := Lib.hid (own_kept HV7.out (grown_of_below Hb8.out none) (by simp))
    have hs78 := Hb8.out.size
    have HQ7 := Lib.hid HV7.out.block
    clear HX7 HO7 HJ7 Hb8 HV7
    go_upto_region 9 with (first
      | (go_at_call 28; refine (rprint_any j [p0, p1, p2, p3, p4] w8 (Hj.out.below HB8.out) Hsz2.out Hroom.out).mono ?_; rintro e w9 ⟨A9, c9, rfl, hA9, hs9, hg9⟩; rw [HE.out]; rw [HL.out] at hA9 hs9 ⊢; have HB9 := Lib.hid (below_step HB8.out hg9); have Hg9 := Lib.hid hg9; have HA9 := Lib.hid hA9; have HS9 := Lib.hid hs9; clear hg9 hA9 hs9)
      | (refine wpList_load_Row rfl 29 _ rfl Ba rfl [p0, p1, p2, p3, p4] 29 HX8.out _ Tryd.underlying29 rfl size29 ?_; simp only [Act.put, List.setIfInBounds_toArray, List.set_cons_zero, List.set_cons_succ]))
    have HX9 := Lib.hid (HX8.out.grown Hg9.out (by simp))
    have HO9 := Lib.hid (HO8.out.grown Hg9.out (by simp))
    have HJ9 := Lib.hid (HJ8.out.below (below_of_grown Hg9.out))
    have HV9 := Lib.hid (own_kept HV7b.out Hg9.out (by simp))
    have HU9 := Lib.hid (own_kept HV8.out Hg9.out (by simp))
    have hs89 := Hg9.out.size
    have HQ8 := Lib.hid HV8.out.block
    clear HX8 HO8 HJ8 Hg9 HV7b HV8
    obtain ⟨A7, c7, hv7, -, hA7⟩ := own_shape HV9.out
    obtain ⟨A8, c8, hv8, -, hA8⟩ := own_shape HU9.out
    subst hv7 hv8
    obtain ⟨A7', c7', e7, -, -, hS7, -⟩ := own_slice HV9.out
    cases e7
    have HA7 := Lib.hid hA7
    have HS7 := Lib.hid hS7
    clear hA7 hS7 hA8
    have Hsm : Hid (Calls Tryd.prog 13 #[.agg #[q0, q1, q2, q3, q4], .agg #[p0, p1, p2, p3, p4]] w9 fun e w' => e = .returned (.bool true) ∧ Below w9.heap.size w9 w') := Lib.hid (same_any w9 j _ _ w9 HJ9.out (Hj.out.below HB9.out) (HSm.out.sz.imp (JSz.mono (by omega))) (below_of_grown (grown_refl w9 none)))
    have a0 := HX9.out.at_ (j := 0) rfl
    have b0 := HO9.out.at_ (j := 0) rfl
    have a1 := HX9.out.at_ (j := 1) rfl
    have b1 := HO9.out.at_ (j := 1) rfl
    have a2 := HX9.out.at_ (j := 2) rfl
    have b2 := HO9.out.at_ (j := 2) rfl
    have a3 := HX9.out.at_ (j := 3) rfl
    have b3 := HO9.out.at_ (j := 3) rfl
    have a4 := HX9.out.at_ (j := 4) rfl
    have b4 := HO9.out.at_ (j := 4) rfl
    go_upto_region 11 with (first
      | (go_at_call 25; refine (eqBytes_any A7 A9 c7 c9 L w9 (fun h => (HA7.out h).1) (fun h => (HA9.out h).1) HS7.out HS9.out).mono ?_; rintro e w10 ⟨rfl, rfl⟩)
      | (go_at_call 13; refine Hsm.out.mono ?_; rintro e w10 ⟨rfl, hb10⟩; have Hb10 := Lib.hid hb10; clear hb10))
    have HB10 := Lib.hid (below_trans2 HB9.out Hb10.out)
    have HV10 := Lib.hid (own_kept HV9.out (grown_of_below Hb10.out none) (by simp))
    have HU10 := Lib.hid (own_kept HU9.out (grown_of_below Hb10.out none) (by simp))
    clear a0 a1 a2 a3 a4 b0 b1 b2 b3 b4
    have hs910 := Hb10.out.size
    clear HX9 HO9 HJ9 HV9 HU9 HA9 HS9 HA7 HS7
    go_wp2_with (refine wpList_build22_2 rfl (.tmp 57) (.tmp 58) rfl A7 A8 L.length L.length c7 c8 rfl rfl ?_; intro w11 hr11 hg11 hs11; simp only [Act.put, List.setIfInBounds_toArray, List.set_cons_zero, List.set_cons_succ])
    have HB11 := Lib.hid (below_step HB10.out hg11)
    have Hr11 := Lib.hid hr11
    have HG11 : Hid (Given w10.heap.size w11.heap.size [.slice A7 L.length c7, .slice A8 L.length c8]) := Lib.hid (given_two HQ7.out HQ8.out (by omega) (by omega) (by omega) (by omega))
    have HF11 : Hid (∀ g ∈ obF [.slice A7 L.length c7, .slice A8 L.length c8], w.heap.size ≤ g) := Lib.hid (fun g hg => by
      rcases obF_two hg with e | e
      · have := HQ7.out g e; have := HB6.out.size; omega
      · have := HQ8.out g e; have := HB7.out.size; omega)
    have HO11 : Hid (∀ v ∈ [Value.slice A7 L.length c7, .slice A8 L.length c8], Own w11 0 v L) := Lib.hid (fun v hv => by
      simp at hv
      rcases hv with rfl | rfl
      · exact (own_kept HV10.out hg11 (by simp)).mono (Nat.zero_le _)
      · exact (own_kept HU10.out hg11 (by simp)).mono (Nat.zero_le _))
    clear hr11 hg11 hs11
    go_wp2_with (first
      | (go_at_call 29; refine (apart_any [.slice A7 L.length c7, .slice A8 L.length c8] L w10.heap.size 2 w11 Hr11.out HG11.out HO11.out (by simp) (by omega)).mono ?_; rintro e w12 ⟨rfl, ho12⟩
         have HB12 := Lib.hid (below_only HB11.out ho12 HF11.out)
         have HT12 := Lib.hid (tabs_only (tabs_below HT.out HB11.out) ho12 (fun h => by have := HF11.out 0 h; have := Hw.out; omega) (fun h => by have := HF11.out 1 h; have := Hw.out; omega))
         clear ho12)
      | (have _ := w12; go_at_call 9; refine (works_any w12 HT12.out (Nat.lt_of_lt_of_le Hw.out HB12.out.size)).mono ?_; rintro e w13 ⟨rfl, hb13⟩; have HB13 := Lib.hid (below_trans2 HB12.out hb13); clear hb13))
    go_ret
    exact ⟨rfl, HB13.out⟩
end
end Go.Proofs.YtlbilofnbhhmjaaDoor
