/- sort.Slice of the places of keys that differ: they stand by rising keys. json's write: laws for the row of places. -/
import Derived.Test.YtlbilofnbhhmjaaGreatDoorShape
import Derived.Test.YtlbilofnbhhmjaaGreatDoorShelf2
import Derived.Lib.RowBridge
import Derived.Lib.SortBridge
import Derived.Test.YtlbilofnbhhmjaaGreatDoorWr0
import Derived.Laws.OwnMore
namespace Go.Proofs.YtlbilofnbhhmjaaGreatDoor
section
open Go.RowKit Go.Sort Go.Lib Go.Shelf
set_option linter.unusedVariables false
set_option linter.unusedSimpArgs false
/-- Places as cells. -/
def places (l : List Nat) : List Value := l.map fun i : Nat => Value.int .i64 (i : Int)
noncomputable def siT : TypeInfo := (Tryz.prog.info? 86).get (by kernel_rfl)
noncomputable def siE : TypeInfo := (Tryz.prog.info? 3).get (by kernel_rfl)
theorem siK (n : Nat) (h2 : 2 ≤ n) : Lib.swapperK n siE 2 = 5 := by
  have a : siE.hasPointers = false := by kernel_rfl
  have b : siE.bytes = 8 := by kernel_rfl
  have c : (n == 0) = false := by simp; omega
  have d : (n == 1) = false := by simp; omega
  simp [Lib.swapperK, a, b, c, d]
theorem keyLt_str (ks : List ByteArray) (a b : Nat) : keyLt ks a b = ltStr (ks.getD a ⟨#[]⟩).toList (ks.getD b ⟨#[]⟩).toList := by
  unfold keyLt ltStr; rw [bytesLess_eq]
theorem swo_key (ks : List ByteArray) {α : Type} (f : α → Nat) : SWO fun a b : α => keyLt ks (f a) (f b) where
  irrefl x := by rw [keyLt_str]; exact swo_ltStr.irrefl _
  trans x y z h1 h2 := by rw [keyLt_str] at *; exact swo_ltStr.trans _ _ _ h1 h2
  ntrans x y z h1 h2 := by rw [keyLt_str] at *; exact swo_ltStr.ntrans _ _ _ h1 h2
theorem toList_inj {a b : ByteArray} (h : a.toList = b.toList) : a = b := by
  have e : a.data.toList = b.data.toList := by
    have h1 : a.toList = a.data.toList := ByteArray.toList_eq _
    have h2 : b.toList = b.data.toList := ByteArray.toList_eq _
    rw [← h1, ← h2, h]
  have := Array.toList_inj.1 e
  cases a; cases b; simp at this; rw [this]
/-- Keys that differ are told apart. -/
theorem key_anti {ks : List ByteArray} (hn : ks.Nodup) {a b : Nat} (ha : a < ks.length) (hb : b < ks.length) (h1 : keyLt ks a b = false) (h2 : keyLt ks b a = false) : a = b := by
  rw [keyLt_str] at h1 h2
  simp only [ltStr, decide_eq_false_iff_not, List.not_lt] at h1 h2
  have e := toList_inj (List.le_antisymm h2 h1)
  rw [List.getD_eq_getElem?_getD, List.getD_eq_getElem?_getD, List.getElem?_eq_getElem ha, List.getElem?_eq_getElem hb] at e
  simp only [Option.getD_some] at e
  rw [List.nodup_iff_pairwise_ne, List.pairwise_iff_getElem] at hn
  rcases Nat.lt_trichotomy a b with h | h | h
  · exact absurd e (hn a b ha hb h)
  · exact h
  · exact absurd e.symm (hn b a hb ha h)
/-- A permutation of the places that is sorted by keys that differ is the one. -/
theorem ord_unique {ks : List ByteArray} (hn : ks.Nodup) {l : List Nat} (hp : l.Perm (List.range ks.length)) (hs : l.Pairwise fun x y => keyLt ks y x = false) : l = ordOf ks := by
  have hS := swo_key ks (fun x : Nat => x)
  have hperm : l.Perm (ordOf ks) := hp.trans (List.mergeSort_perm _ _).symm
  refine List.Perm.eq_of_pairwise (le := fun x y => (!keyLt ks y x) = true) ?_ ?_ ?_ hperm
  · intro a b ha hb h1 h2
    simp only [Bool.not_eq_true'] at h1 h2
    have ha' : a < ks.length := by simpa using (hp.mem_iff).1 ha
    have hb' : b < ks.length := by simpa using (hp.mem_iff).1 (hperm.symm.mem_iff.1 hb)
    exact key_anti hn ha' hb' h2 h1
  · exact hs.imp (fun h => by simpa using h)
  · refine List.pairwise_mergeSort ?_ ?_ _
    · intro a b c h1 h2
      simp only [Bool.not_eq_true'] at h1 h2 ⊢
      exact hS.ntrans c b a h2 h1
    · intro a b
      cases h : keyLt ks b a with
      | false => simp
      | true => simp [hS.asymmA h]
theorem extract_full {α : Type} (a : Array α) (n : Nat) (h : a.size = n) : a.extract 0 n = a := by subst h; exact Array.extract_size
theorem row_sorted {α : Type} [Inhabited α] {enc : α → Value} {w : World} {blk n T : Nat} {cs : List Value} {d : Array α} {os : Array Obj} (h : Row w blk T cs) (hl : cs.length = d.size) :
    Row (grow (putRow enc (Sort.ahead w n) blk 0 d) os) blk T (d.toList.map enc) := by
  have hlt := h.lt
  unfold Row
  rw [heap_grow_old _ _ (by simpa using hlt)]
  have hb : w.heap[blk]? = some (.cells cs.toArray T (0, 0)) := h
  simp only [putRow, mapBlock, Sort.ahead, Array.getElem?_modify, if_true, hb, Option.map_some, onCells]
  congr 2
  apply Array.ext'
  apply List.ext_getElem?
  intro i
  simp only [putCells, Array.getElem?_toList, Array.getElem?_mapIdx, List.getElem?_toArray, Nat.zero_add, Nat.sub_zero, Nat.zero_le, true_and, List.getElem?_map]
  by_cases hi : i < d.size
  · rw [List.getElem?_eq_getElem (by omega), Array.getElem?_eq_getElem hi]
    simp [hi]
  · rw [List.getElem?_eq_none (by omega), Array.getElem?_eq_none (by omega)]
    rfl
theorem grown_sorted {α : Type} [Inhabited α] {enc : α → Value} {w : World} {blk n : Nat} {d : Array α} {os : Array Obj} : w.grownBy (grow (putRow enc (Sort.ahead w n) blk 0 d) os) (some blk) := by
  refine ⟨rfl, rfl, rfl, by simp, fun k hk hne => ?_⟩
  rw [heap_grow_old _ _ (by simpa using hk)]
  have : blk ≠ k := fun e => hne (by rw [e])
  simp [putRow, mapBlock, Sort.ahead, Array.getElem?_modify, this]
theorem grown_grow (w : World) (os : Array Obj) : w.grownBy (grow w os) none := ⟨rfl, rfl, rfl, by simp, fun k hk _ => heap_grow_old _ _ hk⟩
def encF {n : Nat} (x : Fin n) : Value := .int .i64 (x.val : Int)
theorem sort_any (ks : List ByteArray) (hn : ks.Nodup) (Bj Bo blk ab ao kc c : Nat) (w : World) (h2 : 2 ≤ ks.length) (hn2 : ks.length ≤ 1000) (hrow : Row w blk 3 (places (List.range ks.length)))
    (hj : w.cell? ⟨Bj, 3, none⟩ = some (.slice (some ⟨ab, ao, none⟩) ks.length kc)) (ho : w.cell? ⟨Bo, 0, none⟩ = some (.slice (some ⟨blk, 0, none⟩) ks.length c))
    (hk : ∀ i k, ks[i]? = some k → w.cell? ⟨ab, ao + i, none⟩ = some (.string k)) (h1 : Bj ≠ blk) (h3 : Bo ≠ blk) (h4 : ab ≠ blk) :
    Calls Tryz.prog 50 #[.iface 86 (.slice (some ⟨blk, 0, none⟩) ks.length c), .func (.func 51) #[] #[.pointer (some ⟨Bj, 0, none⟩), .pointer (some ⟨Bo, 0, none⟩)]] w fun e w' =>
      e = .returned (.tuple #[]) ∧ Row w' blk 3 (places (ordOf ks)) ∧ w.grownBy w' (some blk) := by
  obtain ⟨m, hm⟩ : ∃ m, ks.length = m + 1 := ⟨ks.length - 1, by omega⟩
  have hblk := hrow.lt
  obtain ⟨d, hd⟩ : ∃ d : Array (Fin (m + 1)), d = Array.ofFn (fun i : Fin (m + 1) => i) := ⟨_, rfl⟩
  have hds : d.size = m + 1 := by rw [hd]; simp
  have hdg : ∀ j (hj : j < m + 1), d[j]! = ⟨j, hj⟩ := fun j hj => by rw [getElem!_pos d j (by omega)]; simp [hd]
  have hcell : ∀ j, j < m + 1 → w.cell? ⟨blk, 0 + j, none⟩ = some (.int .i64 (j : Int)) := fun j hj => by
    rw [Nat.zero_add]
    refine hrow.at_ ?_
    unfold places
    rw [List.getElem?_map, List.getElem?_range (by omega)]
    rfl
  have hH : Holds (encF (n := m + 1)) w blk 0 d := fun j hj => by
    rw [hds] at hj
    refine ⟨?_, hrow.frozen _⟩
    rw [hcell j hj, hdg j hj]; rfl
  have hless : LessReads Tryz.prog 51 #[.pointer (some ⟨Bj, 0, none⟩), .pointer (some ⟨Bo, 0, none⟩)] (encF (n := m + 1)) (fun a b => keyLt ks a.val b.val) blk 0 d.size w := by
    intro q os dk hs i j hi hjj
    have old : ∀ a : Addr, a.block ≠ blk → ∀ v, w.cell? a = some v → (sortWorld (encF (n := m + 1)) w blk 0 q dk os).cell? a = some v := fun a ha v hv => by
      have hlt := block_lt_of_cell hv
      unfold sortWorld
      rw [cell?_grow _ _ _ (by simpa using hlt), cell?_putRow_other _ _ blk 0 dk _ (Or.inl ha)]
      exact hv
    have new : ∀ t, t < d.size → (sortWorld (encF (n := m + 1)) w blk 0 q dk os).cell? ⟨blk, t, none⟩ = some (.int .i64 ((dk[t]!).val : Int)) := fun t ht => by
      unfold sortWorld
      rw [cell?_grow _ _ _ (by simpa using hblk)]
      have := cell?_putRow (encF (n := m + 1)) (Sort.ahead w q) blk 0 d dk (holds_ahead _ _ _ _ _ _ hH) hs t (by omega)
      rw [Nat.zero_add] at this
      exact this
    exact less_any Bj Bo blk ks.length c 0 false ⟨#[]⟩ ab ao kc .nilIface ks _ (dk[i]!).val (dk[j]!).val i j (old _ h1 _ hj) (old _ h3 _ ho) (by omega) (by omega) (new i hi) (new j hjj)
      (by have := (dk[i]!).isLt; omega) (by have := (dk[j]!).isLt; omega) hn2 (fun i k hik => old _ h4 _ (hk i k hik))
  have hS := Any.sort_Slice_sorted Tryz.sa6 86 3 siT siE (by kernel_rfl) (by kernel_rfl) (by kernel_rfl) (by kernel_rfl) 2 (fun _ => by kernel_rfl) (by kernel_rfl) (fun _ => by kernel_rfl) (encF (n := m + 1)) (fun _ => rfl) (fun a b => keyLt ks a.val b.val) (swo_key ks (fun x : Fin (m + 1) => x.val)) 51 _
    (enters_of Tryz.func51 (by kernel_rfl) rfl) blk 0 c d (by omega) (by omega) 96 (by rw [siK _ (by omega)]; kernel_rfl) true
    (fun args W => run_callFunc_extern Tryz.func96 (by kernel_rfl) (by kernel_rfl) (by kernel_rfl) (e := Extern.ReflectliteSwapper.swap true) (by kernel_rfl) args W) _ hless hH hblk
  rw [hds] at hS
  rw [hm]
  refine hS.mono ?_
  rintro e w' ⟨rfl, d', q, os, hp, hso, rfl⟩
  have hsz : d'.size = d.size := by have := hp.1; omega
  have hl : (d'.toList.map (fun x : Fin (m + 1) => x.val)) = ordOf ks := by
    refine ord_unique hn ?_ ?_
    · have h5 := hp.2.2
      have e1 : d'.extract 0 (m + 1) = d' := extract_full _ _ (by omega)
      have e2 : d.extract 0 (m + 1) = d := extract_full _ _ hds
      rw [e1, e2] at h5
      have h6 := h5.map (fun x : Fin (m + 1) => x.val)
      refine h6.trans (List.Perm.of_eq ?_)
      rw [hd, hm]
      apply List.ext_getElem
      · simp
      · intro i h1 h2
        rw [List.getElem_map, Array.getElem_toList, Array.getElem_ofFn, List.getElem_range]
    · rw [List.pairwise_map, List.pairwise_iff_getElem]
      intro i j hi hj hij
      have hi' : i < d'.size := by simpa using hi
      have hj' : j < d'.size := by simpa using hj
      have := hso i j (Nat.zero_le _) hij (by omega)
      rw [getElem!_pos d' j hj', getElem!_pos d' i hi'] at this
      simpa using this
  refine ⟨rfl, ?_, grown_sorted⟩
  have := row_sorted (enc := encF (n := m + 1)) (n := q) (os := os) (d := d') hrow (by unfold places; simp; omega)
  unfold places
  rw [← hl, List.map_map]
  exact this
theorem sort_tiny (p : Option Addr) (ks : List ByteArray) (c : Nat) (h1 : ks.length ≤ 1) (lb : Array Value) (w : World) :
    Calls Tryz.prog 50 #[.iface 86 (.slice p ks.length c), .func (.func 51) #[] lb] w fun e w' => e = .returned (.tuple #[]) ∧ w.grownBy w' none := by
  have hK : Lib.swapperK ks.length siE 2 = ks.length + 1 := by
    rcases Nat.eq_zero_or_pos ks.length with h | h
    · rw [h]; simp [Lib.swapperK]
    · rw [show ks.length = 1 by omega]; simp [Lib.swapperK]
  have hS := Any.sort_Slice_tiny Tryz.sa6 86 3 siT siE (by kernel_rfl) (by kernel_rfl) (by kernel_rfl) (by kernel_rfl) 2 (fun _ => by kernel_rfl) p ks.length c h1 (92 + ks.length) (by
    rw [hK]
    rcases Nat.eq_zero_or_pos ks.length with h | h
    · rw [h]; kernel_rfl
    · rw [show ks.length = 1 by omega]; kernel_rfl) (.func 51) #[] lb w
  exact hS.mono fun e w' ⟨h, os, hw⟩ => ⟨h, by rw [hw]; exact grown_grow _ _⟩
theorem ord_tiny {ks : List ByteArray} (h1 : ks.length ≤ 1) : ordOf ks = List.range ks.length := by
  unfold ordOf
  rcases Nat.eq_zero_or_pos ks.length with h | h
  · rw [h]; simp
  · rw [show ks.length = 1 by omega]; simp
end
section
open Go.RowKit
set_option linter.unusedVariables false
set_option linter.unusedSimpArgs false
theorem info3 : Tryz.prog.info? 3 = some (Tryz.prog.info? 3).get! := by kernel_rfl
theorem zi3 : (Tryz.prog.info? 3).get!.zero = some (.int .i64 0) := by kernel_rfl
theorem si3 : (Tryz.prog.info? 3).get!.size = 1 := by kernel_rfl
theorem bi3 : (Tryz.prog.info? 3).get!.bytes = 8 := by kernel_rfl
theorem zero37 (w : World) : (zeroValue 86).run Tryz.prog w = .ok (.slice none 0 0) w := by kernel_rfl
theorem wpList_make37 {ops : Array Oper} {rest : List Oper} {o : Oper} {a : Act} {w : World} {Q : Exit → Act → World → Prop} (hgd : o.guard = none) (x y : Operand) (ho : o.op = .makeSlice 86 x y) (n : Nat)
    (hx : a.eval x = .int .i64 (n : Int)) (hy : a.eval y = .int .i64 (n : Int)) (hn : n ≤ 1000)
    (h : ∀ w', Row w' w.heap.size 3 (List.replicate n (.int .i64 0)) → w.grownBy w' none → w'.heap.size = w.heap.size + 1 → wpList Tryz.prog ops Q rest (a.put o.dst (.slice (some ⟨w.heap.size, 0, none⟩) n n)) w') : wpList Tryz.prog ops Q (o :: rest) a w :=
  wpList_plain hgd fun K hK => by
    have hr := run_make (P := Tryz.prog) w 86 3 _ (.int .i64 0) Tryz.underlying86 info3 zi3 .i64 .i64 (n : Int) (n : Int) (by omega) (Int.le_refl _) (by rw [bi3]; omega) (by omega)
    rw [si3, Int.toNat_natCast, Nat.mul_one, show madeCells (Value.int .i64 0).cells n = (List.replicate n (Value.int .i64 0)).toArray by apply Array.ext'; rw [show (Value.int .i64 0).cells = #[.int .i64 0] from rfl, toList_madeCells_one]] at hr
    unfold Oper.wp execOp
    simp only [ho, hx, hy, hr, Sem.run_bind, Result.andThen_ok]
    exact hK _ _ (h _ (Row.new w _ 3) (grown_new _ _).1 (grown_new _ _).2)
theorem sort_all (ks : List ByteArray) (hn : ks.Nodup) (Bj Bo blk : Nat) (A : Option Addr) (kc c : Nat) (w : World) (hn2 : ks.length ≤ 1000) (hrow : Row w blk 3 (places (List.range ks.length)))
    (hj : w.cell? ⟨Bj, 3, none⟩ = some (.slice A ks.length kc)) (ho : w.cell? ⟨Bo, 0, none⟩ = some (.slice (some ⟨blk, 0, none⟩) ks.length c))
    (hA : StrAt w A ks) (hA2 : ∀ a, 0 < ks.length → A = some a → a.block ≠ blk) (h1 : Bj ≠ blk) (h3 : Bo ≠ blk) :
    Calls Tryz.prog 50 #[.iface 86 (.slice (some ⟨blk, 0, none⟩) ks.length c), .func (.func 51) #[] #[.pointer (some ⟨Bj, 0, none⟩), .pointer (some ⟨Bo, 0, none⟩)]] w fun e w' =>
      e = .returned (.tuple #[]) ∧ Row w' blk 3 (places (ordOf ks)) ∧ w.grownBy w' (some blk) := by
  by_cases h : 2 ≤ ks.length
  · obtain ⟨ab, ao, rfl, hk⟩ := hA (by omega)
    exact sort_any ks hn Bj Bo blk ab ao kc c w h hn2 hrow hj ho hk h1 h3 (hA2 _ (by omega) rfl)
  · refine (sort_tiny _ ks c (by omega) _ w).mono ?_
    rintro e w' ⟨he, hg⟩
    refine ⟨he, ?_, grown_none hg _⟩
    rw [ord_tiny (by omega)]
    exact hrow.grown hg (by simp)
theorem places_set (n i : Nat) (h : i < n) : (places (List.range i) ++ List.replicate (n - i) (Value.int .i64 0)).set i (.int .i64 (i : Int)) = places (List.range (i + 1)) ++ List.replicate (n - (i + 1)) (Value.int .i64 0) := by
  have hl : (places (List.range i)).length = i := by simp [places]
  rw [List.set_append_right _ _ (by omega), hl, Nat.sub_self, show n - i = (n - (i + 1)) + 1 by omega, List.replicate_succ, List.set_cons_zero, List.range_succ]
  simp [places]
theorem places_full (n : Nat) : places (List.range n) ++ List.replicate (n - n) (Value.int .i64 0) = places (List.range n) := by simp
theorem ordOf_length (ks : List ByteArray) : (ordOf ks).length = ks.length := by unfold ordOf; rw [List.length_mergeSort, List.length_range]
theorem ordOf_lt {ks : List ByteArray} {o : Nat} (h : o ∈ ordOf ks) : o < ks.length := by
  unfold ordOf at h; rw [List.mem_mergeSort] at h; simpa using h
end
end Go.Proofs.YtlbilofnbhhmjaaGreatDoor
