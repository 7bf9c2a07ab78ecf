/- A value that comes in, where it is of a bounded bulk. -/
import Derived.Test.YtlbilofnbhhmjaaDoorOpenJ
import Derived.Test.YtlbilofnbhhmjaaDoorVast
namespace Go.Proofs.YtlbilofnbhhmjaaDoor
open Go.ChangeShapes Go.WideShapes Go.ChangeAt Go.RowKit
set_option linter.unusedVariables false
set_option linter.unusedSimpArgs false
theorem sum_succ (ks : List ByteArray) : (ks.map fun k => k.size + 1).sum = (ks.map ByteArray.size).sum + ks.length := by
  induction ks with
  | nil => rfl
  | cons k ks ih => simp only [List.map_cons, List.sum_cons, List.length_cons]; omega
section
variable {H : Type} {enc : TypeId × Value → H} {W : World}
theorem bulk_part {d : DataW H} : ∀ {ds : List (DataW H)} {i : Nat}, ds[i]? = some d → Rows.uptoBulk d ≤ Rows.uptoBulkAll ds
  | x :: ds, 0, h => by
    obtain rfl := Option.some.inj h
    simp only [Rows.uptoBulkAll]; omega
  | x :: ds, i + 1, h => by
    have := bulk_part (ds := ds) (i := i) h
    simp only [Rows.uptoBulkAll]; omega
theorem bulk_sum {α : Type} {f : α → Nat} : ∀ {l : List α} {ds : List (DataW H)}, l.length ≤ ds.length → (∀ (i : Nat) x d, l[i]? = some x → ds[i]? = some d → f x ≤ Rows.uptoBulk d) → (l.map f).sum ≤ Rows.uptoBulkAll ds
  | [], ds, _, _ => Nat.zero_le _
  | x :: l, [], h, _ => by simp at h
  | x :: l, d :: ds, h, hp => by
    have h1 := hp 0 x d rfl rfl
    have h2 := bulk_sum (l := l) (ds := ds) (by simpa using h) (fun i y e hy he => hp (i + 1) y e hy he)
    simp only [List.map_cons, List.sum_cons, Rows.uptoBulkAll]
    omega
theorem bulk_three {xs : List (DataW H × List MemPlace)} {y2 y3 y4 : DataW H × List MemPlace} {s : ByteArray} (b2 : xs[2]? = some y2) (b3 : xs[3]? = some y3) (b4 : xs[4]? = some y4) (e : y2.1 = .lit (.string s.data.toList)) :
    s.size + 1 + Rows.uptoBulk y3.1 + Rows.uptoBulk y4.1 ≤ Rows.uptoBulkAll (xs.map (·.1)) := by
  match xs, b2, b3, b4 with
  | x0 :: x1 :: x2 :: x3 :: x4 :: r, b2, b3, b4 =>
    simp only [List.getElem?_cons_succ, List.getElem?_cons_zero, Option.some.injEq] at b2 b3 b4
    subst b2 b3 b4
    have e2 : s.data.toList.length = s.size := Array.length_toList
    simp only [List.map_cons, Rows.uptoBulkAll]
    rw [e]
    simp only [Rows.uptoBulk, e2]
    omega
set_option maxRecDepth 100000 in
/-- The texts of a slice. -/
theorem open_textsU {fuel : Nat} {cs : List Value} {x : DataW H × List MemPlace} (h : DataW.trod enc Tryd.prog W 0 (fun _ => true) true fuel 26 cs = some x) (hz : Sized 26 x.1) :
    ∃ (A : Option Addr) (c : Nat) (ks : List ByteArray), cs = [.slice A ks.length c] ∧ ks.length ≤ c ∧ StrAt W A ks ∧ ks.length ≤ 140737488355328 ∧ (∀ k ∈ ks, k.size ≤ 140737488355328) ∧ (ks.map fun k => k.size + 1).sum + 1 ≤ Rows.uptoBulk x.1 := by
  have h47 := reach_47
  rcases DataW.trod_slice und26 h with ⟨rfl, rfl⟩ | ⟨a, len, cap, elems, rest, n, _, rfl, rfl, _, hlc, _, hel, hat, _⟩
  · exact ⟨none, 0, [], rfl, Nat.le_refl _, fun h => absurd h (by simp), by simp, by simp, by simp [Rows.uptoBulk]⟩
  · rw [cells9] at hat
    have key : ∀ i, i < len → ∃ k : ByteArray, W.cell? (a.add i) = some (.string k) ∧ elems[i]? = some (.lit (.string k.data.toList), []) := fun i hi => by
      have hi2 := hat i hi
      obtain ⟨y, hy⟩ : ∃ y, elems[i]? = some y := ⟨_, List.getElem?_eq_getElem (by omega)⟩
      rw [hy] at hi2
      obtain ⟨cs', hc, ht⟩ := Option.bind_eq_some_iff.1 hi2
      obtain ⟨s, rfl, rfl, _⟩ := DataW.trod_string und9 ht
      rw [Nat.mul_one] at hc
      exact ⟨s, cell_of_cells?_one hc, hy⟩
    obtain ⟨ks, hkl, hks⟩ := pick_list len key
    subst hkl
    refine ⟨some a, cap, ks, rfl, hlc, fun h0 => ?_, ?_, fun k hk => ?_, ?_⟩
    · obtain ⟨k0, hk0⟩ : ∃ k, ks[0]? = some k := ⟨_, List.getElem?_eq_getElem h0⟩
      have hsp : a.spot = none := by simpa [Addr.add] using World.cell?_spot (hks 0 k0 hk0).1
      obtain ⟨b, o, sp⟩ := a
      simp only at hsp
      subst hsp
      exact ⟨b, o, rfl, fun i k hk => by have := (hks i k hk).1; rwa [Addr.add_lit] at this⟩
    · have := hz ((elems.map (·.1)).length + (rest.map (·.1)).length |> (· * Tryd.prog.bytesOf 9)) (by simp only [DataW.weights, und26]; exact List.mem_cons_self)
      rw [bytes9] at this
      simp only [List.length_map] at this
      omega
    · obtain ⟨i, hi, rfl⟩ := List.getElem_of_mem hk
      have he := (hks i _ (List.getElem?_eq_getElem hi)).2
      have hm : (DataW.lit (.string ks[i].data.toList) : DataW H) ∈ elems.map (·.1) := List.mem_map.2 ⟨_, List.mem_of_getElem? he, rfl⟩
      have := hz ks[i].data.toList.length (by
        simp only [DataW.weights, und26]
        exact List.mem_cons_of_mem _ (List.mem_append_left _ (weights_all hm _ (by simp [DataW.weights]))))
      have e : ks[i].data.toList.length = ks[i].size := Array.length_toList
      omega
    · have hb := bulk_sum (f := fun k : ByteArray => k.size + 1) (l := ks) (ds := elems.map (·.1)) (by simp; omega) (fun i k d hi hd => by
        rw [List.getElem?_map, (hks i k hi).2] at hd
        obtain rfl := Option.some.inj hd
        simp [Rows.uptoBulk])
      simp only [Rows.uptoBulk]
      omega
set_option maxRecDepth 100000 in
theorem open_valueU : ∀ (fuel : Nat) (cs : List Value) (x : DataW H × List MemPlace), DataW.trod enc Tryd.prog W 0 (fun _ => true) true fuel 29 cs = some x → Sized 29 x.1 → ∃ j, JR W j cs ∧ JAll (JSz 140737488355328) j ∧ costJ j ≤ Rows.uptoBulk x.1 := by
  intro fuel
  induction fuel using Nat.strongRecOn with
  | _ fuel ih =>
    intro cs x h hz
    have h47 := reach_47
    obtain ⟨fs, hfs, hft⟩ := fields29
    obtain ⟨xs, n, rfl, rfl, hcl, hxl, hall⟩ := DataW.trod_struct hfs h
    rw [cells29] at hcl
    obtain ⟨c0, c1, c2, c3, c4, rfl⟩ : ∃ a b c d e, cs = [a, b, c, d, e] := by
      match cs, hcl with
      | [a, b, c, d, e], _ => exact ⟨a, b, c, d, e, rfl⟩
    have hsz : fs.size = 5 := by have := congrArg List.length hft; simpa using this
    have fld : ∀ (i : Nat) (t : TypeId) (o : Nat), [((25 : TypeId), 0), (4, 1), (9, 2), (26, 3), (27, 4)][i]? = some (t, o) → ∃ f, fs[i]? = some f ∧ f.type = t ∧ f.offset = o := fun i t o hi => by
      rw [← hft, List.getElem?_map] at hi
      obtain ⟨f, hf, e⟩ := Option.map_eq_some_iff.1 hi
      simp only [Prod.mk.injEq] at e
      exact ⟨f, by simpa using hf, e.1, e.2⟩
    have typ : fs.toList.map (·.type) = [25, 4, 9, 26, 27] := by
      have := congrArg (List.map Prod.fst) hft
      rw [List.map_map] at this
      exact this
    have part : ∀ (i : Nat) (t : TypeId) (o : Nat), [((25 : TypeId), 0), (4, 1), (9, 2), (26, 3), (27, 4)][i]? = some (t, o) → ∃ y, xs[i]? = some y ∧ DataW.trod enc Tryd.prog W 0 (fun _ => true) true n t (([c0, c1, c2, c3, c4].drop o).take (Tryd.prog.cellsOf t)) = some y ∧ Sized t y.1 := fun i t o hi => by
      obtain ⟨f, hf, rfl, rfl⟩ := fld i t o hi
      have hlt : i < xs.length := by rw [hxl]; have := (Array.getElem?_eq_some_iff.1 hf).1; omega
      obtain ⟨y, hy⟩ : ∃ y, xs[i]? = some y := ⟨_, List.getElem?_eq_getElem hlt⟩
      refine ⟨y, hy, (hall i f hf).trans hy, fun m hm => hz m ?_⟩
      simp only [DataW.weights, hfs]
      exact DataW.weights_mem_each (j := i) (t := f.type) (by rw [List.getElem?_map]; simp [hf]) (by rw [List.getElem?_map, hy]; rfl) m hm
    obtain ⟨y0, _, t0, _⟩ := part 0 25 0 rfl
    obtain ⟨y1, _, t1, _⟩ := part 1 4 1 rfl
    obtain ⟨y2, b2, t2, z2⟩ := part 2 9 2 rfl
    obtain ⟨y3, b3, t3, z3⟩ := part 3 26 3 rfl
    obtain ⟨y4, b4, t4, z4⟩ := part 4 27 4 rfl
    rw [cells25] at t0
    rw [cells4] at t1
    rw [cells9] at t2
    rw [cells26] at t3
    rw [cells27] at t4
    simp only [List.drop_zero, List.drop_succ_cons, List.take_succ_cons, List.take_zero] at t0 t1 t2 t3 t4
    obtain ⟨kd, e0, _, _⟩ := DataW.trod_int und25 t0
    obtain ⟨bb, e1, _⟩ := DataW.trod_bool und4 t1
    obtain ⟨s, e2, e2', _⟩ := DataW.trod_string und9 t2
    obtain ⟨A, c, ks, e3, hkc, hA, hkl, hks, hkb⟩ := open_textsU t3 z3
    have hbulk : s.size + 1 + Rows.uptoBulk y3.1 + Rows.uptoBulk y4.1 ≤ Rows.uptoBulkAll (xs.map (·.1)) := bulk_three b2 b3 b4 (by rw [e2'])
    simp only [List.cons.injEq, and_true] at e0 e1 e2 e3
    subst e0 e1 e2 e3
    have hs : s.size ≤ 140737488355328 := by
      have := z2 s.data.toList.length (by rw [e2']; simp [DataW.weights])
      have e : s.data.toList.length = s.size := Array.length_toList
      omega
    have fin : ∀ (B : Option Addr) (d : Nat) (ls : List J), c4 = .slice B ls.length d → ls.length ≤ d → JsR W B 0 ls → ls.length ≤ 140737488355328 → JsAll (JSz 140737488355328) ls → costsJ ls ≤ Rows.uptoBulk y4.1 → ∃ j, JR W j [.int .i8 kd, .bool bb, .string s, .slice A ks.length c, c4] ∧ JAll (JSz 140737488355328) j ∧ costJ j ≤ Rows.uptoBulk (.agg (xs.map (·.1)) : DataW H) := fun B d ls e hd hB hl hals hcs => by
      subst e
      refine ⟨.mk kd bb s ks ls, ?_, ?_, ?_⟩
      · unfold JR
        exact ⟨A, c, B, d, rfl, hkc, hd, hA, hB⟩
      · unfold JAll
        exact ⟨⟨hs, hkl, hl, hks⟩, hals⟩
      · unfold costJ
        have := sum_succ ks
        simp only [Rows.uptoBulk]
        omega
    rcases DataW.trod_slice und27 t4 with ⟨e4, _⟩ | ⟨a, len, cap, elems, rest, m, rfl, e4, hx4, _, hlc, _, hel, hat, _⟩
    · simp only [List.cons.injEq, and_true] at e4
      exact fin none 0 [] e4 (Nat.le_refl _) (by unfold JsR; trivial) (by simp) (by unfold JsAll; trivial) (by unfold costsJ; omega)
    · simp only [List.cons.injEq, and_true] at e4
      rw [cells29] at hat
      have key : ∀ i, i < len → ∃ j : J, (JAll (JSz 140737488355328) j ∧ ∃ y, elems[i]? = some y ∧ costJ j ≤ Rows.uptoBulk y.1) ∧ ∃ cs', JR W j cs' ∧ cs'.length = 5 ∧ ∀ k, k < 5 → W.cell? ((a.add (i * 5)).add k) = cs'[k]? := fun i hi => by
        have hi2 := hat i hi
        obtain ⟨y, hy⟩ : ∃ y, elems[i]? = some y := ⟨_, List.getElem?_eq_getElem (by omega)⟩
        rw [hy] at hi2
        obtain ⟨cs', hc, ht⟩ := Option.bind_eq_some_iff.1 hi2
        obtain ⟨_, hc2, hc3⟩ := World.cells?_some hc
        obtain ⟨j, hj1, hj2, hj3⟩ := ih m (by omega) cs' y ht (fun q hq => by
          refine z4 q ?_
          rw [hx4]
          simp only [DataW.weights, und27]
          exact List.mem_cons_of_mem _ (List.mem_append_left _ (weights_all (List.mem_map.2 ⟨y, List.mem_of_getElem? hy, rfl⟩) q hq)))
        exact ⟨j, ⟨hj2, y, hy, hj3⟩, cs', hj1, hc2, hc3⟩
      obtain ⟨ls, hll, hls⟩ := pick_list len key
      have hlen : ls.length ≤ 140737488355328 := by
        have := z4 ((elems.map (·.1)).length + (rest.map (·.1)).length |> (· * Tryd.prog.bytesOf 29)) (by rw [hx4]; simp only [DataW.weights, und27]; exact List.mem_cons_self)
        rw [bytes29] at this
        simp only [List.length_map] at this
        omega
      have hja : JsAll (JSz 140737488355328) ls := jsAll_of fun j hj => by
        obtain ⟨i, hi, rfl⟩ := List.getElem_of_mem hj
        exact (hls i _ (List.getElem?_eq_getElem hi)).1.1
      have hcost : costsJ ls ≤ Rows.uptoBulk y4.1 := by
        rw [hx4, costs_sum]
        have hb := bulk_sum (f := costJ) (l := ls) (ds := elems.map (·.1)) (by simp; omega) (fun i j d hi hd => by
          obtain ⟨y, hy, hc⟩ := (hls i j hi).1.2
          rw [List.getElem?_map, hy] at hd
          obtain rfl := Option.some.inj hd
          exact hc)
        simp only [Rows.uptoBulk]
        omega
      refine fin (some a) cap ls (by rw [e4, hll]) (by omega) ?_ hlen hja hcost
      by_cases h0 : 0 < len
      · obtain ⟨j0, hj0⟩ : ∃ j, ls[0]? = some j := ⟨_, List.getElem?_eq_getElem (by omega)⟩
        obtain ⟨_, cs0, _, hc5, hc0⟩ := hls 0 j0 hj0
        have hcell := hc0 0 (by omega)
        rw [List.getElem?_eq_getElem (by omega)] at hcell
        have hsp : a.spot = none := by simpa [Addr.add] using World.cell?_spot hcell
        refine jsR_of hsp ls 0 (fun i j hj => ?_)
        obtain ⟨_, cs', hj1, hc5, hc⟩ := hls i j hj
        refine ⟨cs', hj1, fun k v hv => ?_⟩
        have hk := (List.getElem?_eq_some_iff.1 hv).1
        have := hc k (by omega)
        rw [hv] at this
        obtain ⟨b, o, sp⟩ := a
        simp only at hsp
        subst hsp
        rw [Addr.add_lit, Addr.add_lit] at this
        rwa [show o + (0 + i * 5 + k) = o + i * 5 + k by omega]
      · have : ls = [] := List.eq_nil_of_length_eq_zero (by omega)
        rw [this]; unfold JsR; trivial
set_option maxRecDepth 100000 in
/-- An argument that is a value. -/
theorem open_argU {base : Nat} {v : Value} {d : DataW H} {p : List MemPlace} (hval : Value.okWide Tryd.prog W .any base 29 v) (h : DataW.Trod enc Tryd.prog W 0 (fun _ => true) true 29 v d p) (hz : Sized 29 d) :
    ∃ cs : List Value, v = .agg cs.toArray ∧ ∃ j, JR W j cs ∧ JAll (JSz 140737488355328) j ∧ costJ j ≤ Rows.uptoBulk d := by
  obtain ⟨fs, hfs, _⟩ := fields29
  unfold Value.okWide at hval
  rw [hfs] at hval
  obtain ⟨cs, rfl, _⟩ := hval
  obtain ⟨fuel, hf⟩ := h
  refine ⟨cs.toList, by simp, ?_⟩
  exact open_valueU fuel cs.toList (d, p) hf hz
end
theorem costs_len : ∀ ls : List J, ls.length ≤ costsJ ls
  | [] => Nat.zero_le _
  | .mk kd b t ks l :: js => by
    have := costs_len js
    unfold costsJ costJ
    simp only [List.length_cons]; omega
theorem mem_le_sum {k : ByteArray} : ∀ {ks : List ByteArray}, k ∈ ks → k.size ≤ (ks.map ByteArray.size).sum
  | x :: ks, h => by
    simp only [List.map_cons, List.sum_cons]
    rcases List.mem_cons.1 h with rfl | h
    · omega
    · have := mem_le_sum h; omega
mutual
theorem cost_sz {M : Nat} : ∀ {j : J}, costJ j ≤ M → JAll (JSz M) j
  | .mk kd b t ks ls, h => by
    unfold costJ at h
    unfold JAll
    have hl : ls.length ≤ costsJ ls := costs_len ls
    have hk : ∀ k ∈ ks, k.size ≤ (ks.map ByteArray.size).sum := fun k hk => mem_le_sum hk
    exact ⟨⟨by simp only [J.tx]; omega, by simp only [J.ks]; omega, by simp only [J.ls]; omega, fun k hk2 => by have := hk k hk2; omega⟩, costs_sz (by omega)⟩
theorem costs_sz {M : Nat} : ∀ {ls : List J}, costsJ ls ≤ M → JsAll (JSz M) ls
  | [], _ => by unfold JsAll; trivial
  | j :: js, h => by
    unfold costsJ at h
    unfold JsAll
    exact ⟨cost_sz (by omega), costs_sz (by omega)⟩
end
end Go.Proofs.YtlbilofnbhhmjaaDoor
