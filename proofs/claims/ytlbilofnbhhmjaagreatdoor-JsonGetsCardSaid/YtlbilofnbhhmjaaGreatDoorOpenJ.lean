/- A value that comes in: how it lies in memory, and how large its texts and lists can be. -/
import Derived.Test.YtlbilofnbhhmjaaGreatDoorFrame
import Derived.Test.YtlbilofnbhhmjaaGreatDoorSpec
import Derived.SizedLaws
namespace Go.Proofs.YtlbilofnbhhmjaaGreatDoor
open Go.ChangeShapes Go.WideShapes Go.ChangeAt Go.RowKit
set_option linter.unusedVariables false
set_option linter.unusedSimpArgs false
theorem pick_list {α : Type} {P : Nat → α → Prop} : ∀ (n : Nat), (∀ i, i < n → ∃ x, P i x) → ∃ l : List α, l.length = n ∧ ∀ i x, l[i]? = some x → P i x
  | 0, _ => ⟨[], rfl, fun i x h => by simp at h⟩
  | n + 1, h => by
    obtain ⟨l, hl, hp⟩ := pick_list n (fun i hi => h i (by omega))
    obtain ⟨x, hx⟩ := h n (by omega)
    refine ⟨l ++ [x], by simp [hl], fun i y hy => ?_⟩
    by_cases hi : i < n
    · rw [List.getElem?_append_left (by omega)] at hy; exact hp i y hy
    · rw [List.getElem?_append_right (by omega)] at hy
      have : i = n := by
        have := (List.getElem?_eq_some_iff.1 hy).1
        simp at this; omega
      subst this
      rw [hl, Nat.sub_self] at hy
      obtain rfl : x = y := by simpa using hy
      exact hx
theorem fields29 : ∃ fs : Array Field, Tryz.prog.underlying 26 = some (.struct fs) ∧ fs.toList.map (fun f => (f.type, f.offset)) = [(22, 0), (4, 1), (9, 2), (23, 3), (24, 4)] := ⟨_, Tryz.underlying26, by kernel_rfl⟩
theorem cells29 : Tryz.prog.cellsOf 26 = 5 := by kernel_rfl
theorem cells25 : Tryz.prog.cellsOf 22 = 1 := by kernel_rfl
theorem cells4 : Tryz.prog.cellsOf 4 = 1 := by kernel_rfl
theorem cells9 : Tryz.prog.cellsOf 9 = 1 := by kernel_rfl
theorem cells26 : Tryz.prog.cellsOf 23 = 1 := by kernel_rfl
theorem cells27 : Tryz.prog.cellsOf 24 = 1 := by kernel_rfl
theorem und25 : Tryz.prog.underlying 22 = some (.int .i8) := by kernel_rfl
theorem und4 : Tryz.prog.underlying 4 = some .bool := by kernel_rfl
theorem und9 : Tryz.prog.underlying 9 = some .string := by kernel_rfl
theorem und26 : Tryz.prog.underlying 23 = some (.slice 9) := by kernel_rfl
theorem und27 : Tryz.prog.underlying 24 = some (.slice 26) := by kernel_rfl
theorem bytes9 : Tryz.prog.bytesOf 9 = 16 := by kernel_rfl
theorem bytes29 : Tryz.prog.bytesOf 26 = 72 := by kernel_rfl
theorem weights_all {H : Type} {P : Program} {e : TypeId} : ∀ {ds : List (DataW H)} {d : DataW H}, d ∈ ds → ∀ n ∈ d.weights P e, n ∈ DataW.weightsAll P e ds
  | x :: ds, d, h, n, hn => by
    unfold DataW.weightsAll
    rcases List.mem_cons.1 h with rfl | h
    · exact List.mem_append_left _ hn
    · exact List.mem_append_right _ (weights_all h n hn)
section
variable {H : Type} {enc : TypeId × Value → H} {W : World}
def Sized (t : TypeId) (d : DataW H) : Prop := ∀ n ∈ d.weights Tryz.prog t, n ≤ reachBytes
theorem reach_47 : reachBytes ≤ 140737488355328 := by decide
set_option maxRecDepth 100000 in
/-- The texts of a slice. -/
theorem open_texts {fuel : Nat} {cs : List Value} {x : DataW H × List MemPlace} (h : DataW.trod enc Tryz.prog W 0 (fun _ => true) true fuel 23 cs = some x) (hz : Sized 23 x.1) :
    ∃ (A : Option Addr) (c : Nat) (ks : List ByteArray), cs = [.slice A ks.length c] ∧ ks.length ≤ c ∧ StrAt W A ks ∧ ks.length ≤ 140737488355328 ∧ ∀ k ∈ ks, k.size ≤ 140737488355328 := by
  have h47 := reach_47
  rcases DataW.trod_slice und26 h with ⟨rfl, rfl⟩ | ⟨a, len, cap, elems, rest, n, _, rfl, rfl, _, hlc, _, hel, hat, _⟩
  · exact ⟨none, 0, [], rfl, Nat.le_refl _, fun h => absurd h (by simp), by simp, by simp⟩
  · rw [cells9] at hat
    have key : ∀ i, i < len → ∃ k : ByteArray, W.cell? (a.add i) = some (.string k) ∧ elems[i]? = some (.lit (.string k.data.toList), []) := fun i hi => by
      have hi2 := hat i hi
      obtain ⟨y, hy⟩ : ∃ y, elems[i]? = some y := ⟨_, List.getElem?_eq_getElem (by omega)⟩
      rw [hy] at hi2
      obtain ⟨cs', hc, ht⟩ := Option.bind_eq_some_iff.1 hi2
      obtain ⟨s, rfl, rfl, _⟩ := DataW.trod_string und9 ht
      rw [Nat.mul_one] at hc
      exact ⟨s, cell_of_cells?_one hc, hy⟩
    obtain ⟨ks, hkl, hks⟩ := pick_list len key
    subst hkl
    refine ⟨some a, cap, ks, rfl, hlc, fun h0 => ?_, ?_, fun k hk => ?_⟩
    · obtain ⟨k0, hk0⟩ : ∃ k, ks[0]? = some k := ⟨_, List.getElem?_eq_getElem h0⟩
      have hsp : a.spot = none := by simpa [Addr.add] using World.cell?_spot (hks 0 k0 hk0).1
      obtain ⟨b, o, sp⟩ := a
      simp only at hsp
      subst hsp
      exact ⟨b, o, rfl, fun i k hk => by have := (hks i k hk).1; rwa [Addr.add_lit] at this⟩
    · have := hz ((elems.map (·.1)).length + (rest.map (·.1)).length |> (· * Tryz.prog.bytesOf 9)) (by simp only [DataW.weights, und26]; exact List.mem_cons_self)
      rw [bytes9] at this
      simp only [List.length_map] at this
      omega
    · obtain ⟨i, hi, rfl⟩ := List.getElem_of_mem hk
      have he := (hks i _ (List.getElem?_eq_getElem hi)).2
      have hm : (DataW.lit (.string ks[i].data.toList) : DataW H) ∈ elems.map (·.1) := List.mem_map.2 ⟨_, List.mem_of_getElem? he, rfl⟩
      have := hz ks[i].data.toList.length (by
        simp only [DataW.weights, und26]
        exact List.mem_cons_of_mem _ (List.mem_append_left _ (weights_all hm _ (by simp [DataW.weights]))))
      have e : ks[i].data.toList.length = ks[i].size := Array.length_toList
      omega
theorem one_of {l : List Value} (h : l.length = 1) : ∃ a, l = [a] := by
  match l, h with
  | [a], _ => exact ⟨a, rfl⟩
theorem jsR_of {B : Addr} (hB : B.spot = none) : ∀ (ls : List J) (o : Nat), (∀ (i : Nat) j, ls[i]? = some j → ∃ cs, JR W j cs ∧ ∀ (k : Nat) v, cs[k]? = some v → W.cell? ⟨B.block, B.off + (o + i * 5 + k), none⟩ = some v) → JsR W (some B) o ls
  | [], o, _ => by unfold JsR; trivial
  | j :: ls, o, h => by
    unfold JsR
    obtain ⟨cs, h1, h2⟩ := h 0 j rfl
    obtain ⟨b, f, sp⟩ := B
    simp only at hB
    subst hB
    refine ⟨⟨b, f, cs, rfl, h1, fun k v hv => by have := h2 k v hv; rwa [show o + 0 * 5 + k = o + k by omega] at this⟩, jsR_of (B := ⟨b, f, none⟩) rfl ls (o + 5) (fun i j hj => ?_)⟩
    obtain ⟨cs2, h3, h4⟩ := h (i + 1) j hj
    exact ⟨cs2, h3, fun k v hv => by have := h4 k v hv; rwa [show o + (i + 1) * 5 + k = o + 5 + i * 5 + k by omega] at this⟩
theorem jsAll_of {P : J → Prop} : ∀ {ls : List J}, (∀ j ∈ ls, JAll P j) → JsAll P ls
  | [], _ => by unfold JsAll; trivial
  | j :: ls, h => by unfold JsAll; exact ⟨h j (by simp), jsAll_of (fun x hx => h x (by simp [hx]))⟩
set_option maxRecDepth 100000 in
theorem open_value : ∀ (fuel : Nat) (cs : List Value) (x : DataW H × List MemPlace), DataW.trod enc Tryz.prog W 0 (fun _ => true) true fuel 26 cs = some x → Sized 26 x.1 → ∃ j, JR W j cs ∧ JAll (JSz 140737488355328) j := by
  intro fuel
  induction fuel using Nat.strongRecOn with
  | _ fuel ih =>
    intro cs x h hz
    have h47 := reach_47
    obtain ⟨fs, hfs, hft⟩ := fields29
    obtain ⟨xs, n, rfl, rfl, hcl, hxl, hall⟩ := DataW.trod_struct hfs h
    rw [cells29] at hcl
    obtain ⟨c0, c1, c2, c3, c4, rfl⟩ : ∃ a b c d e, cs = [a, b, c, d, e] := by
      match cs, hcl with
      | [a, b, c, d, e], _ => exact ⟨a, b, c, d, e, rfl⟩
    have hsz : fs.size = 5 := by have := congrArg List.length hft; simpa using this
    have fld : ∀ (i : Nat) (t : TypeId) (o : Nat), [((22 : TypeId), 0), (4, 1), (9, 2), (23, 3), (24, 4)][i]? = some (t, o) → ∃ f, fs[i]? = some f ∧ f.type = t ∧ f.offset = o := fun i t o hi => by
      rw [← hft, List.getElem?_map] at hi
      obtain ⟨f, hf, e⟩ := Option.map_eq_some_iff.1 hi
      simp only [Prod.mk.injEq] at e
      exact ⟨f, by simpa using hf, e.1, e.2⟩
    have typ : fs.toList.map (·.type) = [22, 4, 9, 23, 24] := by
      have := congrArg (List.map Prod.fst) hft
      rw [List.map_map] at this
      exact this
    have part : ∀ (i : Nat) (t : TypeId) (o : Nat), [((22 : TypeId), 0), (4, 1), (9, 2), (23, 3), (24, 4)][i]? = some (t, o) → ∃ y, xs[i]? = some y ∧ DataW.trod enc Tryz.prog W 0 (fun _ => true) true n t (([c0, c1, c2, c3, c4].drop o).take (Tryz.prog.cellsOf t)) = some y ∧ Sized t y.1 := fun i t o hi => by
      obtain ⟨f, hf, rfl, rfl⟩ := fld i t o hi
      have hlt : i < xs.length := by rw [hxl]; have := (Array.getElem?_eq_some_iff.1 hf).1; omega
      obtain ⟨y, hy⟩ : ∃ y, xs[i]? = some y := ⟨_, List.getElem?_eq_getElem hlt⟩
      refine ⟨y, hy, (hall i f hf).trans hy, fun m hm => hz m ?_⟩
      simp only [DataW.weights, hfs]
      exact DataW.weights_mem_each (j := i) (t := f.type) (by rw [List.getElem?_map]; simp [hf]) (by rw [List.getElem?_map, hy]; rfl) m hm
    obtain ⟨y0, _, t0, _⟩ := part 0 22 0 rfl
    obtain ⟨y1, _, t1, _⟩ := part 1 4 1 rfl
    obtain ⟨y2, _, t2, z2⟩ := part 2 9 2 rfl
    obtain ⟨y3, _, t3, z3⟩ := part 3 23 3 rfl
    obtain ⟨y4, _, t4, z4⟩ := part 4 24 4 rfl
    rw [cells25] at t0
    rw [cells4] at t1
    rw [cells9] at t2
    rw [cells26] at t3
    rw [cells27] at t4
    simp only [List.drop_zero, List.drop_succ_cons, List.take_succ_cons, List.take_zero] at t0 t1 t2 t3 t4
    obtain ⟨kd, e0, _, _⟩ := DataW.trod_int und25 t0
    obtain ⟨bb, e1, _⟩ := DataW.trod_bool und4 t1
    obtain ⟨s, e2, e2', _⟩ := DataW.trod_string und9 t2
    obtain ⟨A, c, ks, e3, hkc, hA, hkl, hks⟩ := open_texts t3 z3
    simp only [List.cons.injEq, and_true] at e0 e1 e2 e3
    subst e0 e1 e2 e3
    have hs : s.size ≤ 140737488355328 := by
      have := z2 s.data.toList.length (by rw [e2']; simp [DataW.weights])
      have e : s.data.toList.length = s.size := Array.length_toList
      omega
    have fin : ∀ (B : Option Addr) (d : Nat) (ls : List J), c4 = .slice B ls.length d → ls.length ≤ d → JsR W B 0 ls → ls.length ≤ 140737488355328 → JsAll (JSz 140737488355328) ls → ∃ j, JR W j [.int .i8 kd, .bool bb, .string s, .slice A ks.length c, c4] ∧ JAll (JSz 140737488355328) j := fun B d ls e hd hB hl hals => by
      subst e
      refine ⟨.mk kd bb s ks ls, ?_, ?_⟩
      · unfold JR
        exact ⟨A, c, B, d, rfl, hkc, hd, hA, hB⟩
      · unfold JAll
        exact ⟨⟨hs, hkl, hl, hks⟩, hals⟩
    rcases DataW.trod_slice und27 t4 with ⟨e4, _⟩ | ⟨a, len, cap, elems, rest, m, rfl, e4, hx4, _, hlc, _, hel, hat, _⟩
    · simp only [List.cons.injEq, and_true] at e4
      exact fin none 0 [] e4 (Nat.le_refl _) (by unfold JsR; trivial) (by simp) (by unfold JsAll; trivial)
    · simp only [List.cons.injEq, and_true] at e4
      rw [cells29] at hat
      have key : ∀ i, i < len → ∃ j : J, JAll (JSz 140737488355328) j ∧ ∃ cs', JR W j cs' ∧ cs'.length = 5 ∧ ∀ k, k < 5 → W.cell? ((a.add (i * 5)).add k) = cs'[k]? := fun i hi => by
        have hi2 := hat i hi
        obtain ⟨y, hy⟩ : ∃ y, elems[i]? = some y := ⟨_, List.getElem?_eq_getElem (by omega)⟩
        rw [hy] at hi2
        obtain ⟨cs', hc, ht⟩ := Option.bind_eq_some_iff.1 hi2
        obtain ⟨_, hc2, hc3⟩ := World.cells?_some hc
        obtain ⟨j, hj1, hj2⟩ := ih m (by omega) cs' y ht (fun q hq => by
          refine z4 q ?_
          rw [hx4]
          simp only [DataW.weights, und27]
          exact List.mem_cons_of_mem _ (List.mem_append_left _ (weights_all (List.mem_map.2 ⟨y, List.mem_of_getElem? hy, rfl⟩) q hq)))
        exact ⟨j, hj2, cs', hj1, hc2, hc3⟩
      obtain ⟨ls, hll, hls⟩ := pick_list len key
      have hlen : ls.length ≤ 140737488355328 := by
        have := z4 ((elems.map (·.1)).length + (rest.map (·.1)).length |> (· * Tryz.prog.bytesOf 26)) (by rw [hx4]; simp only [DataW.weights, und27]; exact List.mem_cons_self)
        rw [bytes29] at this
        simp only [List.length_map] at this
        omega
      have hja : JsAll (JSz 140737488355328) ls := jsAll_of fun j hj => by
        obtain ⟨i, hi, rfl⟩ := List.getElem_of_mem hj
        exact (hls i _ (List.getElem?_eq_getElem hi)).1
      refine fin (some a) cap ls (by rw [e4, hll]) (by omega) ?_ hlen hja
      by_cases h0 : 0 < len
      · obtain ⟨j0, hj0⟩ : ∃ j, ls[0]? = some j := ⟨_, List.getElem?_eq_getElem (by omega)⟩
        obtain ⟨_, cs0, _, hc5, hc0⟩ := hls 0 j0 hj0
        have hcell := hc0 0 (by omega)
        rw [List.getElem?_eq_getElem (by omega)] at hcell
        have hsp : a.spot = none := by simpa [Addr.add] using World.cell?_spot hcell
        refine jsR_of hsp ls 0 (fun i j hj => ?_)
        obtain ⟨_, cs', hj1, hc5, hc⟩ := hls i j hj
        refine ⟨cs', hj1, fun k v hv => ?_⟩
        have hk := (List.getElem?_eq_some_iff.1 hv).1
        have := hc k (by omega)
        rw [hv] at this
        obtain ⟨b, o, sp⟩ := a
        simp only at hsp
        subst hsp
        rw [Addr.add_lit, Addr.add_lit] at this
        rwa [show o + (0 + i * 5 + k) = o + i * 5 + k by omega]
      · have : ls = [] := List.eq_nil_of_length_eq_zero (by omega)
        rw [this]; unfold JsR; trivial
set_option maxRecDepth 100000 in
/-- An argument that is a value. -/
theorem open_arg {base : Nat} {v : Value} {d : DataW H} {p : List MemPlace} (hval : Value.okWide Tryz.prog W .any base 26 v) (h : DataW.Trod enc Tryz.prog W 0 (fun _ => true) true 26 v d p) (hz : Sized 26 d) :
    ∃ cs : List Value, v = .agg cs.toArray ∧ ∃ j, JR W j cs ∧ JAll (JSz 140737488355328) j := by
  obtain ⟨fs, hfs, _⟩ := fields29
  unfold Value.okWide at hval
  rw [hfs] at hval
  obtain ⟨cs, rfl, _⟩ := hval
  obtain ⟨fuel, hf⟩ := h
  refine ⟨cs.toList, by simp, ?_⟩
  exact open_value fuel cs.toList (d, p) hf hz
theorem sized_arg {d : DataW H} (h : (DataW.weightsEach Tryz.prog [26] [d]).all (· ≤ reachBytes) = true) : Sized 26 d := fun n hn => by
  have := List.all_eq_true.1 h n (DataW.weights_mem_each (j := 0) rfl rfl n hn)
  simpa using this
end
theorem readable29 : Tryz.prog.readableRec 26 = true := by kernel_rfl
theorem rowed29 : 26 < Tryz.prog.types.size := of_decide_eq_true (by kernel_rfl)
/-- A value that came in reads as it did. -/
theorem kept29 {H : Type} {enc : TypeId × Value → H} {W W' : World} {v : Value} {d : DataW H} {p : List MemPlace} (h : DataW.Trod enc Tryz.prog W 0 (fun _ => true) true 26 v d p) (hb : Below W.heap.size W W')
    (hlt : ∀ x ∈ p, x.block < W.heap.size) : DataW.Trod enc Tryz.prog W' 0 (fun b => decide (b < W.heap.size)) true 26 v d p :=
  Below.trod laidOut readable29 rowed29 h hb hlt
def zeroArg : Value := .agg #[.int .i8 0, .bool false, .string ⟨#[]⟩, .slice none 0 0, .slice none 0 0]
def zeroData {H : Type} : DataW H := .agg [.lit (.int .i8 0), .lit (.bool false), .lit (.string []), .nil, .nil]
end Go.Proofs.YtlbilofnbhhmjaaGreatDoor
