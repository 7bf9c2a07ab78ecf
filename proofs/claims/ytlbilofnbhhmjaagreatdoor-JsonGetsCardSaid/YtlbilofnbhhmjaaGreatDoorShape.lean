/- json's shape. json's check: what it computes. A value's text, in plain Lean; what check lets through. What json's write needs: appending a text, a truth value; the closure that compares two keys. -/
import Derived.Test.YtlbilofnbhhmjaaGreatDoorSpec
import Derived.Test.YtlbilofnbhhmjaaGreatDoorSmall
import Derived.Test.YtlbilofnbhhmjaaGreatDoorShelf2
import Derived.Test.YtlbilofnbhhmjaaGreatDoorKey
import Derived.Test.YtlbilofnbhhmjaaGreatDoorPSpec
import Derived.Sort.LotA
import Derived.Sort.Walk0
import Derived.Lib.AppendStr
namespace Go.Proofs.YtlbilofnbhhmjaaGreatDoor
section
open Go.RowKit
set_option linter.unusedVariables false
set_option linter.unusedSimpArgs false
/-- Has a value nothing that its kind does not have? (n keys, m values) -/
def shapeV (kd : Int) (b : Bool) (t : ByteArray) (n m : Nat) : Bool :=
  if kd = 0 then !b && (t.toList == []) && n == 0 && m == 0
  else if kd = 1 then (t.toList == []) && n == 0 && m == 0
  else if kd = 2 ∨ kd = 3 then !b && n == 0 && m == 0
  else if kd = 4 then n == 0 && !b && (t.toList == [])
  else if kd = 5 then n == m && !b && (t.toList == [])
  else false
theorem cast_beq0 (m : Nat) : ((m : Int) == 0) = (m == 0) := by
  rw [Bool.eq_iff_iff]; simp
theorem cast_bne (n m : Nat) : ((n : Int) != (m : Int)) = (n != m) := by
  rw [Bool.eq_iff_iff]; simp; omega
theorem sh4a {b : Bool} {t : ByteArray} {n m : Nat} (hn : 0 < n) : false = shapeV 4 b t n m := by
  have hx : (n == 0) = false := by simp; omega
  simp [shapeV, hx]
theorem sh4b {b : Bool} {t : ByteArray} {n m : Nat} (hn : ¬ 0 < n) (hb : ¬ b = true) : t.toList.isEmpty = shapeV 4 b t n m := by
  obtain rfl : n = 0 := by omega
  simp at hb; subst hb; simp [shapeV]
theorem sh5a {b : Bool} {t : ByteArray} {n m : Nat} (hn : (n : Int) = (m : Int)) (hb : ¬ b = true) : t.toList.isEmpty = shapeV 5 b t n m := by
  obtain rfl : n = m := by omega
  simp at hb; subst hb; simp [shapeV]
theorem sh5b {b : Bool} {t : ByteArray} {n m : Nat} (hn : ¬ (n : Int) = (m : Int)) : false = shapeV 5 b t n m := by
  have hx : (n == m) = false := by simp; omega
  simp [shapeV, hx]
set_option maxHeartbeats 6400000 in
set_option maxRecDepth 100000 in
theorem shape_any (kd : Int) (b : Bool) (t : ByteArray) (A B : Option Addr) (n c m d : Nat) (w : World) :
    Calls Tryz.prog 46 #[.agg #[.int .i8 kd, .bool b, .string t, .slice A n c, .slice B m d]] w fun e w' => e = .returned (.bool (shapeV kd b t n m)) ∧ w.grownBy w' none := by
  obtain ⟨V, hV⟩ : ∃ V, shapeV kd b t n m = V := ⟨_, rfl⟩
  rw [hV]
  have HV := Lib.hid hV
  clear hV
  have hu29 := Tryz.underlying26
  by_cases h0 : kd = 0
  · subst h0
    go_enter Tryz.func46, Tryz.ntmps46
    go_wp2
    all_goals go_ret
    all_goals refine ⟨ret_bool ?_, by first | exact grown_alloc (grown_alloc (grown_refl _ _) _) _ | exact grown_set (grown_alloc (grown_alloc (grown_refl _ _) _) _) (.inr (by simp)) _ _⟩
    all_goals (rw [← HV.out]; clear HV; first | (simp [shapeV, cast_beq0, cast_bne, *]; done) | (simp [shapeV, cast_beq0, cast_bne, *] at *; done) | exact sh4a (by assumption) | exact sh4b (by assumption) (by assumption) | exact sh5a (by assumption) (by assumption) | exact sh5b (by assumption))
  by_cases h1 : kd = 1
  · subst h1
    go_enter Tryz.func46, Tryz.ntmps46
    go_wp2
    all_goals go_ret
    all_goals refine ⟨ret_bool ?_, by first | exact grown_alloc (grown_alloc (grown_refl _ _) _) _ | exact grown_set (grown_alloc (grown_alloc (grown_refl _ _) _) _) (.inr (by simp)) _ _⟩
    all_goals (rw [← HV.out]; clear HV; first | (simp [shapeV, cast_beq0, cast_bne, *]; done) | (simp [shapeV, cast_beq0, cast_bne, *] at *; done) | exact sh4a (by assumption) | exact sh4b (by assumption) (by assumption) | exact sh5a (by assumption) (by assumption) | exact sh5b (by assumption))
  by_cases h2 : kd = 2
  · subst h2
    go_enter Tryz.func46, Tryz.ntmps46
    go_wp2
    all_goals go_ret
    all_goals refine ⟨ret_bool ?_, by first | exact grown_alloc (grown_alloc (grown_refl _ _) _) _ | exact grown_set (grown_alloc (grown_alloc (grown_refl _ _) _) _) (.inr (by simp)) _ _⟩
    all_goals (rw [← HV.out]; clear HV; first | (simp [shapeV, cast_beq0, cast_bne, *]; done) | (simp [shapeV, cast_beq0, cast_bne, *] at *; done) | exact sh4a (by assumption) | exact sh4b (by assumption) (by assumption) | exact sh5a (by assumption) (by assumption) | exact sh5b (by assumption))
  by_cases h3 : kd = 3
  · subst h3
    go_enter Tryz.func46, Tryz.ntmps46
    go_wp2
    all_goals go_ret
    all_goals refine ⟨ret_bool ?_, by first | exact grown_alloc (grown_alloc (grown_refl _ _) _) _ | exact grown_set (grown_alloc (grown_alloc (grown_refl _ _) _) _) (.inr (by simp)) _ _⟩
    all_goals (rw [← HV.out]; clear HV; first | (simp [shapeV, cast_beq0, cast_bne, *]; done) | (simp [shapeV, cast_beq0, cast_bne, *] at *; done) | exact sh4a (by assumption) | exact sh4b (by assumption) (by assumption) | exact sh5a (by assumption) (by assumption) | exact sh5b (by assumption))
  by_cases h4 : kd = 4
  · subst h4
    go_enter Tryz.func46, Tryz.ntmps46
    go_wp2
    all_goals go_ret
    all_goals refine ⟨ret_bool ?_, by first | exact grown_alloc (grown_alloc (grown_refl _ _) _) _ | exact grown_set (grown_alloc (grown_alloc (grown_refl _ _) _) _) (.inr (by simp)) _ _⟩
    all_goals (rw [← HV.out]; clear HV; first | (simp [shapeV, cast_beq0, cast_bne, *]; done) | (simp [shapeV, cast_beq0, cast_bne, *] at *; done) | exact sh4a (by assumption) | exact sh4b (by assumption) (by assumption) | exact sh5a (by assumption) (by assumption) | exact sh5b (by assumption))
  by_cases h5 : kd = 5
  · subst h5
    go_enter Tryz.func46, Tryz.ntmps46
    go_wp2
    all_goals go_ret
    all_goals refine ⟨ret_bool ?_, by first | exact grown_alloc (grown_alloc (grown_refl _ _) _) _ | exact grown_set (grown_alloc (grown_alloc (grown_refl _ _) _) _) (.inr (by simp)) _ _⟩
    all_goals (rw [← HV.out]; clear HV; first | (simp [shapeV, cast_beq0, cast_bne, *]; done) | (simp [shapeV, cast_beq0, cast_bne, *] at *; done) | exact sh4a (by assumption) | exact sh4b (by assumption) (by assumption) | exact sh5a (by assumption) (by assumption) | exact sh5b (by assumption))
  · have b0 : (kd == 0) = false := by simpa using h0
    have b1 : (kd == 1) = false := by simpa using h1
    have b2 : (kd == 2) = false := by simpa using h2
    have b3 : (kd == 3) = false := by simpa using h3
    have b4 : (kd == 4) = false := by simpa using h4
    have b5 : (kd == 5) = false := by simpa using h5
    have HE : Hid (V = false) := Lib.hid (by rw [← HV.out]; simp [shapeV, h0, h1, h2, h3, h4, h5])
    clear h0 h1 h2 h3 h4 h5
    go_enter Tryz.func46, Tryz.ntmps46
    go_wp2
    all_goals go_ret
    all_goals refine ⟨ret_bool HE.out.symm, by first | exact grown_alloc (grown_alloc (grown_refl _ _) _) _ | exact grown_set (grown_alloc (grown_alloc (grown_refl _ _) _) _) (.inr (by simp)) _ _⟩
end
section
open Go.RowKit
set_option linter.unusedVariables false
set_option linter.unusedSimpArgs false
/-- Is a text UTF-8? -/
def validB (s : ByteArray) : Bool := Lib.validD s.data.toList
/-- Is a text a number? -/
def numB (s : ByteArray) : Bool := numV (num s 0) == (s.size : Int)
/-- What is wrong with a value itself (0: nothing), when so many were gone through ahead of it. -/
def checkV (j : J) (d n : Int) : Int :=
  if 8192 < n then 3 else if 16 < d then 133 else if shapeV j.kd j.bl j.tx j.ks.length j.ls.length = false then 134
  else if 256 < j.ls.length then 3 else if j.kd = 2 ∧ numB j.tx = false then 130 else if j.kd = 3 ∧ validB j.tx = false then 131 else 0
/-- What is wrong with a key. -/
def checkK (obj : Bool) (ks : List ByteArray) (i : Nat) : Int :=
  if obj = true ∧ validB (ks.getD i ⟨#[]⟩) = false then 131 else if obj = true ∧ (ks.take i).any (fun q => decide (q = ks.getD i ⟨#[]⟩)) = true then 132 else 0
def checkItems (rec : J → Int → Int × Int) (obj : Bool) (ks : List ByteArray) : Nat → List J → Int → Int × Int
  | _, [], n => (0, n)
  | i, v :: vs, n => if checkK obj ks i ≠ 0 then (checkK obj ks i, n) else if (rec v n).1 ≠ 0 then rec v n else checkItems rec obj ks (i + 1) vs (rec v n).2
/-- A value is gone through: the error, and how many were gone through. -/
def checkJ : Nat → J → Int → Int → Int × Int
  | 0, _, _, n => (0, n)
  | f + 1, j, d, n => if checkV j d (n + 1) ≠ 0 then (checkV j d (n + 1), n + 1) else checkItems (fun v m => checkJ f v (d + 1) m) (decide (j.kd = 5)) j.ks 0 j.ls (n + 1)
theorem checkItems_le {rec : J → Int → Int × Int} {obj : Bool} {ks : List ByteArray} (hr : ∀ v n, n ≤ 8192 → (rec v n).1 = 0 → n ≤ (rec v n).2 ∧ (rec v n).2 ≤ 8192) :
    ∀ {i : Nat} {ls : List J} {n : Int}, n ≤ 8192 → (checkItems rec obj ks i ls n).1 = 0 → n ≤ (checkItems rec obj ks i ls n).2 ∧ (checkItems rec obj ks i ls n).2 ≤ 8192
  | i, [], n, hn, _ => ⟨Int.le_refl _, hn⟩
  | i, v :: vs, n, hn, h => by
    unfold checkItems at h ⊢
    split at h
    · rename_i h1; exact absurd h h1
    · split at h
      · rename_i h1; exact absurd h h1
      · rename_i h1 h2
        rw [if_neg h1, if_neg h2]
        obtain ⟨a, b⟩ := hr v n hn (by simpa using h2)
        obtain ⟨c, d⟩ := checkItems_le hr b h
        exact ⟨by omega, d⟩
theorem checkV_le {j : J} {d n : Int} (h : checkV j d n = 0) : n ≤ 8192 := by
  unfold checkV at h
  split at h
  · cases h
  · omega
theorem checkJ_le : ∀ {f : Nat} {j : J} {d n : Int}, n ≤ 8192 → (checkJ f j d n).1 = 0 → n ≤ (checkJ f j d n).2 ∧ (checkJ f j d n).2 ≤ 8192
  | 0, j, d, n, hn, _ => ⟨Int.le_refl _, hn⟩
  | f + 1, j, d, n, hn, h => by
    unfold checkJ at h ⊢
    split at h
    · rename_i h1; exact absurd h h1
    · rename_i h1
      rw [if_neg h1]
      have := checkV_le (by simpa using h1)
      obtain ⟨a, b⟩ := checkItems_le (fun v n hn h => checkJ_le hn h) this h
      exact ⟨by omega, b⟩
/-- What check does: the counter's block g turns, nothing else of what was there. -/
def CheckPost (r : Int × Int) (g : Nat) (w : World) (e : Ending) (w' : World) : Prop := e = .returned (.int .i64 r.1) ∧ Row w' g 63 [.int .i64 r.2] ∧ w.grownBy w' (some g)
end
section
open Go.RowKit
set_option linter.unusedVariables false
set_option linter.unusedSimpArgs false
/-- Two keys, by their places. -/
def keyLt (ks : List ByteArray) (a b : Nat) : Bool := Op.bytesLess (ks.getD a ⟨#[]⟩).toList (ks.getD b ⟨#[]⟩).toList
/-- The places of the keys, by rising keys. -/
def ordOf (ks : List ByteArray) : List Nat := (List.range ks.length).mergeSort (fun x y => !keyLt ks y x)
/-- Texts in line from the i-th on, with commas ahead of all but the first of all. -/
def joinFrom : Nat → List (List Int) → List Int
  | _, [] => []
  | i, a :: l => (if 0 < i then [44] else []) ++ (a ++ joinFrom (i + 1) l)
/-- A member. -/
def membS (rec : J → List Int) (ks : List ByteArray) (ls : List J) (i : Nat) : List Int := quoteS (ks.getD i ⟨#[]⟩) ++ (58 :: rec (ls.getD i J.zero))
def writeJ : Nat → J → List Int
  | 0, _ => []
  | f + 1, j =>
    if j.kd = 0 then [110, 117, 108, 108]
    else if j.kd = 1 then (if j.bl then [116, 114, 117, 101] else [102, 97, 108, 115, 101])
    else if j.kd = 2 then restAt j.tx 0
    else if j.kd = 3 then quoteS j.tx
    else if j.kd = 4 then 91 :: (joinFrom 0 (j.ls.map (writeJ f)) ++ [93])
    else 123 :: (joinFrom 0 ((ordOf j.ks).map (membS (writeJ f) j.ks j.ls)) ++ [125])
/-- What check lets through, so deep. -/
def Right : Nat → J → Prop
  | 0, _ => False
  | f + 1, j => shapeV j.kd j.bl j.tx j.ks.length j.ls.length = true ∧ j.ls.length ≤ 256 ∧ (j.kd = 2 → numB j.tx = true) ∧ (j.kd = 3 → validB j.tx = true) ∧
    (j.kd = 5 → (∀ k ∈ j.ks, validB k = true) ∧ j.ks.Nodup) ∧ ∀ v ∈ j.ls, Right f v
theorem checkItems_right {f : Nat} {rec : J → Int → Int × Int} {obj : Bool} {ks : List ByteArray} (hr : ∀ v n, (rec v n).1 = 0 → Right f v) :
    ∀ {i : Nat} {ls : List J} {n : Int}, (checkItems rec obj ks i ls n).1 = 0 → (∀ v ∈ ls, Right f v) ∧ ∀ k, i ≤ k → k < i + ls.length → checkK obj ks k = 0
  | i, [], n, _ => ⟨by simp, fun k h1 h2 => by simp at h2; omega⟩
  | i, v :: vs, n, h => by
    unfold checkItems at h
    split at h
    · rename_i h1; exact absurd h h1
    · split at h
      · rename_i h1; exact absurd h h1
      · rename_i h1 h2
        obtain ⟨a, b⟩ := checkItems_right hr h
        refine ⟨fun x hx => ?_, fun k hk1 hk2 => ?_⟩
        · rcases List.mem_cons.1 hx with rfl | hx
          · exact hr x n (by simpa using h2)
          · exact a x hx
        · by_cases e : k = i
          · subst e; simpa using h1
          · exact b k (by omega) (by simp at hk2; omega)
theorem checkK_zero {ks : List ByteArray} {i : Nat} (h : checkK true ks i = 0) (hi : i < ks.length) : validB ks[i] = true ∧ ks[i] ∉ ks.take i := by
  have hg : ks.getD i ⟨#[]⟩ = ks[i] := by rw [List.getD_eq_getElem?_getD, List.getElem?_eq_getElem hi]; rfl
  unfold checkK at h
  rw [hg] at h
  split at h
  · cases h
  · rename_i h1
    split at h
    · cases h
    · rename_i h2
      refine ⟨by simpa using h1, fun hm => h2 ⟨rfl, ?_⟩⟩
      rw [List.any_eq_true]
      exact ⟨_, hm, by simp⟩
theorem nodup_of_take {α : Type} : ∀ {l : List α}, (∀ i (h : i < l.length), l[i] ∉ l.take i) → l.Nodup := by
  intro l h
  rw [List.nodup_iff_pairwise_ne, List.pairwise_iff_getElem]
  intro i j hi hj hij e
  apply h j hj
  rw [← e]
  rw [List.mem_take_iff_getElem]
  exact ⟨i, by omega, rfl⟩
theorem check_right : ∀ {f : Nat} {j : J} {d n : Int}, d ≤ 17 → 18 ≤ (f : Int) + d → (checkJ f j d n).1 = 0 → Right f j
  | 0, j, d, n, hd, hf, h => by omega
  | f + 1, j, d, n, hd, hf, h => by
    unfold checkJ at h
    split at h
    · rename_i h1; exact absurd h h1
    · rename_i h1
      have h0 : checkV j d (n + 1) = 0 := by simpa using h1
      obtain ⟨a, b⟩ := checkItems_right (f := f) (fun v m hv => by
        have hd2 : d ≤ 16 := by
          unfold checkV at h0
          have a1 : ¬ 8192 < n + 1 := fun a1 => by simp [a1] at h0
          have : ¬ 16 < d := fun b1 => by simp [a1, b1] at h0
          omega
        exact check_right (by omega) (by omega) hv) h
      unfold checkV at h0
      have a1 : ¬ 8192 < n + 1 := fun a1 => by simp [a1] at h0
      have b1 : ¬ 16 < d := fun b1 => by simp [a1, b1] at h0
      have c1 : shapeV j.kd j.bl j.tx j.ks.length j.ls.length = true := by
        cases hc : shapeV j.kd j.bl j.tx j.ks.length j.ls.length with
        | false => simp [a1, b1, hc] at h0
        | true => rfl
      have e1 : ¬ 256 < j.ls.length := fun e => by simp [a1, b1, c1, e] at h0
      have f1 : ¬ (j.kd = 2 ∧ numB j.tx = false) := fun e => by simp only [a1, b1, c1, e1, if_false, Bool.true_eq_false] at h0; rw [if_pos e] at h0; cases h0
      have g1 : ¬ (j.kd = 3 ∧ validB j.tx = false) := fun e => by simp only [a1, b1, c1, e1, if_false, Bool.true_eq_false] at h0; rw [if_neg f1, if_pos e] at h0; cases h0
      unfold Right
      refine ⟨c1, by omega, fun k2 => ?_, fun k3 => ?_, fun k5 => ?_, a⟩
      · cases hn : numB j.tx with
        | true => rfl
        | false => exact absurd ⟨k2, hn⟩ f1
      · cases hn : validB j.tx with
        | true => rfl
        | false => exact absurd ⟨k3, hn⟩ g1
      · have hl : j.ks.length = j.ls.length := by
          rw [k5] at c1
          simp [shapeV] at c1
          exact c1.1.1
        rw [show decide (j.kd = 5) = true by simpa using k5] at b
        have hk : ∀ i (h : i < j.ks.length), validB j.ks[i] = true ∧ j.ks[i] ∉ j.ks.take i := fun i hi => checkK_zero (b i (Nat.zero_le _) (by omega)) hi
        refine ⟨fun k hm => ?_, nodup_of_take fun i hi => (hk i hi).2⟩
        obtain ⟨i, hi, rfl⟩ := List.getElem_of_mem hm
        exact (hk i hi).1
theorem joinFrom_snoc (l : List (List Int)) (a : List Int) : ∀ i, joinFrom i (l ++ [a]) = joinFrom i l ++ ((if 0 < i + l.length then [44] else []) ++ a) := by
  induction l with
  | nil => intro i; simp [joinFrom]
  | cons b l ih => intro i; simp [joinFrom, ih, Nat.add_assoc, Nat.add_comm 1]
theorem joinFrom_cons (i : Nat) (a : List Int) (l : List (List Int)) : joinFrom i (a :: l) = (if 0 < i then [44] else []) ++ (a ++ joinFrom (i + 1) l) := rfl
end
section
open Go.RowKit
set_option linter.unusedVariables false
set_option linter.unusedSimpArgs false
theorem strCells_rest (s : ByteArray) : Lib.strCells s = (restAt s 0).map (Value.int .u8) := by
  unfold Lib.strCells restAt bytesAt
  rw [List.map_map]
  apply List.ext_getElem
  · simp
  · intro i h1 h2
    simp only [List.length_map, Array.length_toList] at h1
    have h3 : i < s.size := h1
    simp only [List.getElem_map, List.getElem_range, Function.comp_apply, Nat.zero_add]
    rw [ch_in h3]
    rfl
theorem restAt_length (s : ByteArray) (i : Nat) : (restAt s i).length = s.size - i := bytesAt_length _ _ _
theorem wpList_append_str {ops : Array Oper} {rest : List Oper} {o : Oper} {a : Act} {w : World} {Q : Exit → Act → World → Prop} (hgd : o.guard = none) (s x : Operand)
    (ho : o.op = .call { callee := .builtin .append, args := #[s, x], argTypes := #[41, 9] }) (base : Nat) (v : Value) (l : List Int) (hs : a.eval s = v) (hown : Own w base v l)
    (y : ByteArray) (hx : a.eval x = .string y) (hsz : l.length + y.size ≤ 1099511627776) (hbase : base ≤ w.heap.size)
    (h : ∀ v' w', Own w' base v' (l ++ restAt y 0) → w.grownBy w' v.ownBlock → wpList Tryz.prog ops Q rest (a.put o.dst v') w') : wpList Tryz.prog ops Q (o :: rest) a w :=
  Lib.wpList_append_own_string w hgd s x 41 9 ho base 5 _ Tryz.underlying41 Tryz.underlying9 info5 (by kernel_rfl) (by kernel_rfl) (by kernel_rfl) v l.length _ hs hown y hx (by unfold maxLen; omega) (by omega) hbase (fun v' w' h1 h2 _ => h v' w' (by
    unfold Own
    rw [List.map_append, List.length_append, restAt_length, ← strCells_rest]; exact h1) h2)
set_option maxHeartbeats 800000 in
theorem appendBool79 (base : Nat) (v : Value) (acc : List Int) (b : Bool) (w : World) (hown : Own w base v acc) (hb : base ≤ w.heap.size) (hsz : acc.length ≤ 1073741824) :
    Calls Tryz.prog 72 #[v, .bool b] w (Appends base w (acc ++ (if b then [116, 114, 117, 101] else [102, 97, 108, 115, 101]))) := by
  have Ho := Lib.hid hown
  clear hown
  cases b
  · go_enter Tryz.func72, Tryz.ntmps72
    go_wp2_with (refine wpList_append_str rfl (.tmp 8) (.const (.string ⟨#[102, 97, 108, 115, 101]⟩)) rfl base v acc rfl Ho.out ⟨#[102, 97, 108, 115, 101]⟩ rfl (by show acc.length + 5 ≤ _; omega) hb ?_; intro v2 w2 ho2 hg2; simp only [Act.put, List.setIfInBounds_toArray, List.set_cons_zero, List.set_cons_succ]; have Ho2 := Lib.hid ho2; have HK := Lib.hid (kp_own Ho.out hg2); clear ho2 hg2)
    go_ret
    exact ⟨_, rfl, Ho2.out, HK.out⟩
  · go_enter Tryz.func72, Tryz.ntmps72
    go_wp2_with (refine wpList_append_str rfl (.tmp 6) (.const (.string ⟨#[116, 114, 117, 101]⟩)) rfl base v acc rfl Ho.out ⟨#[116, 114, 117, 101]⟩ rfl (by show acc.length + 4 ≤ _; omega) hb ?_; intro v2 w2 ho2 hg2; simp only [Act.put, List.setIfInBounds_toArray, List.set_cons_zero, List.set_cons_succ]; have Ho2 := Lib.hid ho2; have HK := Lib.hid (kp_own Ho.out hg2); clear ho2 hg2)
    go_ret
    exact ⟨_, rfl, Ho2.out, HK.out⟩
set_option maxHeartbeats 800000 in
theorem appendBool_any (base : Nat) (v : Value) (acc : List Int) (b : Bool) (w : World) (hown : Own w base v acc) (hb : base ≤ w.heap.size) (hsz : acc.length ≤ 1073741824) :
    Calls Tryz.prog 48 #[v, .bool b] w (Appends base w (acc ++ (if b then [116, 114, 117, 101] else [102, 97, 108, 115, 101]))) := by
  obtain ⟨X, hX⟩ : ∃ x, (if b then [116, 114, 117, 101] else [102, 97, 108, 115, 101] : List Int) = x := ⟨_, rfl⟩
  have h := appendBool79 base v acc b w hown hb hsz
  rw [hX] at h ⊢
  have H := Lib.hid h
  clear hown h hX
  go_enter Tryz.func48, Tryz.ntmps48
  go_wp2_with (go_at_call 72; refine H.out.mono ?_; rintro e w2 ⟨v2, rfl, ho2, hk⟩; have Ho2 := Lib.hid ho2; have HK := Lib.hid hk; clear ho2 hk)
  go_ret
  exact ⟨_, rfl, Ho2.out, HK.out⟩
set_option maxHeartbeats 3200000 in
/-- The closure that compares two keys, by the places that the row holds. -/
theorem less_any (Bj Bo blk n c : Nat) (kd : Int) (bb : Bool) (t : ByteArray) (ab ao kc : Nat) (lv : Value) (ks : List ByteArray) (W : World) (p q : Nat) (i j : Nat)
    (hj : W.cell? ⟨Bj, 3, none⟩ = some (.slice (some ⟨ab, ao, none⟩) ks.length kc)) (ho : W.cell? ⟨Bo, 0, none⟩ = some (.slice (some ⟨blk, 0, none⟩) n c))
    (hi : i < n) (hjj : j < n) (hp : W.cell? ⟨blk, i, none⟩ = some (.int .i64 (p : Int))) (hq : W.cell? ⟨blk, j, none⟩ = some (.int .i64 (q : Int))) (hpn : p < ks.length) (hqn : q < ks.length)
    (hn : n ≤ 1000) (hk : ∀ i k, ks[i]? = some k → W.cell? ⟨ab, ao + i, none⟩ = some (.string k)) :
    Calls Tryz.prog 51 #[.int .i64 (i : Int), .int .i64 (j : Int), .pointer (some ⟨Bj, 0, none⟩), .pointer (some ⟨Bo, 0, none⟩)] W fun e w' => e = .returned (.bool (keyLt ks p q)) ∧ ∃ m, w' = W.drewN m := by
  obtain ⟨kp, hkp⟩ : ∃ k, ks[p]? = some k := ⟨_, List.getElem?_eq_getElem hpn⟩
  obtain ⟨kq, hkq⟩ : ∃ k, ks[q]? = some k := ⟨_, List.getElem?_eq_getElem hqn⟩
  have cp := hk p kp hkp
  have cq := hk q kq hkq
  have HE : Hid (keyLt ks p q = Op.bytesLess kp.toList kq.toList) := Lib.hid (by unfold keyLt; simp [List.getD_eq_getElem?_getD, hkp, hkq])
  have e1 : (i : Int) < (n : Int) := by omega
  have e2 : (j : Int) < (n : Int) := by omega
  have e3 : (p : Int) < (ks.length : Int) := by omega
  have e4 : (q : Int) < (ks.length : Int) := by omega
  clear hkp hkq hk
  go_enter Tryz.func51, Tryz.ntmps51
  go_wp2_with fail
  go_quiet (fail)
  go_wp2_with fail
  go_ret
  exact ⟨ret_bool HE.out.symm, _, rfl⟩
end
end Go.Proofs.YtlbilofnbhhmjaaGreatDoor
