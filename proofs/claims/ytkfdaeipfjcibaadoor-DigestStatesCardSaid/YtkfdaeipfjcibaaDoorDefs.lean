/- What the contracts of the digest's functions say: the cells of a State, which bytes it stands for, where bytes lie. -/
import Derived.Test.YtkfdaeipfjcibaaDoorProg
import Derived.Test.YtkfdaeipfjcibaaDoorBase
import Derived.Test.YtkfdaeipfjcibaaDoorMath2
import Derived.WalkKit
namespace Go.Proofs.YtkfdaeipfjcibaaDoor
open Go.RowKit
set_option linter.unusedVariables false
/-- The cells of a State. -/
def stc (s : S8) (blk : List Int) (n : Int) : List Value := s.list.map (Value.int .u32) ++ (blk.map (Value.int .u8) ++ [.int .u64 n])
theorem stc_length (s : S8) (blk : List Int) (n : Int) (h : blk.length = 64) : (stc s blk n).length = 73 := by simp [stc, S8.list, h]
theorem stc_blk (s : S8) (blk : List Int) (n : Int) (h : blk.length = 64) (j : Nat) (hj : j < 64) : (stc s blk n)[8 + j]? = some (.int .u8 (blk.getD j 0)) := by
  unfold stc
  rw [List.getElem?_append_right (by simp [S8.list])]
  simp [S8.list, List.getElem?_append, h, hj]
theorem stc_n (s : S8) (blk : List Int) (n : Int) (h : blk.length = 64) : (stc s blk n)[72]? = some (.int .u64 n) := by
  unfold stc
  rw [List.getElem?_append_right (by simp [S8.list])]
  simp [S8.list, List.getElem?_append, h]
theorem stc_v (s : S8) (blk : List Int) (n : Int) : ∀ j, j < 8 → (stc s blk n)[j]? = some (.int .u32 (s.list.getD j 0))
  | 0, _ | 1, _ | 2, _ | 3, _ | 4, _ | 5, _ | 6, _ | 7, _ => rfl
theorem stc_set_n (s : S8) (blk : List Int) (n m : Int) (h : blk.length = 64) : (stc s blk n).set 72 (.int .u64 m) = stc s blk m := by
  unfold stc
  rw [List.set_append_right _ _ (by simp [S8.list]), List.set_append_right _ _ (by simp [S8.list, h])]
  simp [S8.list, h]
theorem stc_splice (s : S8) (blk : List Int) (n : Int) (o : Nat) (cs : List Int) (h : blk.length = 64) (ho : o + cs.length ≤ 64) :
    splice (stc s blk n) (8 + o) (cs.map (Value.int .u8)) = stc s (splice blk o cs) n := by
  unfold stc splice
  rw [List.take_append, List.drop_append, List.take_of_length_le (by simp [S8.list])]
  rw [show List.drop (8 + o + (List.map (Value.int .u8) cs).length) (s.list.map (Value.int .u32)) = [] from List.drop_eq_nil_of_le (by simp [S8.list]; omega)]
  have e1 : 8 + o - (s.list.map (Value.int .u32)).length = o := by simp [S8.list]
  have e2 : 8 + o + (List.map (Value.int .u8) cs).length - (s.list.map (Value.int .u32)).length = o + cs.length := by simp [S8.list]; omega
  rw [e1, e2, List.take_append_of_le_length (by simp [h]; omega), List.drop_append_of_le_length (by simp [h]; omega)]
  simp
/-- So many bytes of a list are laid into an array of its length, the rest is 0. -/
def part (xs : List Int) (k : Nat) : List Value := (xs.take k).map (Value.int .u8) ++ List.replicate (xs.length - k) (.int .u8 0)
theorem part_length (xs : List Int) (k : Nat) (h : k ≤ xs.length) : (part xs k).length = xs.length := by simp [part]; omega
theorem part_zero (xs : List Int) : part xs 0 = List.replicate xs.length (.int .u8 0) := by simp [part]
theorem part_all (xs : List Int) : part xs xs.length = xs.map (Value.int .u8) := by simp [part]
theorem part_free (xs : List Int) (k : Nat) (h : k < xs.length) : (part xs k)[k]? = some (.int .u8 0) := by
  unfold part
  rw [List.getElem?_append_right (by simp; omega)]
  rw [List.getElem?_replicate, if_pos (by simp; omega)]
theorem part_set (xs : List Int) (k : Nat) (h : k < xs.length) : (part xs k).set k (.int .u8 (xs.getD k 0)) = part xs (k + 1) := by
  unfold part
  rw [List.set_append_right _ _ (by simp; omega), show xs.length - k = (xs.length - (k + 1)) + 1 by omega, List.replicate_succ]
  rw [show k - (List.map (Value.int .u8) (List.take k xs)).length = 0 by simp; omega]
  have e : xs.getD k 0 = xs[k] := by simp [h]
  rw [e, List.take_succ_eq_append_getElem h, List.map_append, List.append_assoc, List.set_cons_zero]
  rfl
/-- Block b is a State that stands for these bytes. -/
def Rep (w : World) (b : Nat) (l : List Int) : Prop := ∃ blk, Fits blk l ∧ Row w b 50 (stc (comps IV l (l.length / 64)) blk l.length) ∧ l.length ≤ 1073741824
/-- These bytes lie where a slice begins (nothing is said of an empty one). -/
def Src (w : World) (A : Option Addr) (l : List Int) : Prop := 0 < l.length → ∃ a : Addr, A = some a ∧ a.spot = none ∧ ∀ j, j < l.length → w.cell? ⟨a.block, a.off + j, none⟩ = some (.int .u8 (l.getD j 0))
theorem Rep.lt {w : World} {b : Nat} {l : List Int} (h : Rep w b l) : b < w.heap.size := by obtain ⟨_, _, h, _⟩ := h; exact h.lt
theorem Rep.n {w : World} {b : Nat} {l : List Int} (h : Rep w b l) : w.cell? ⟨b, 72, none⟩ = some (.int .u64 (l.length : Int)) := by
  obtain ⟨blk, h1, h2, _⟩ := h; exact h2.at_ (stc_n _ _ _ h1.1)
theorem Rep.grown {w w' : World} {b : Nat} {l : List Int} {row : Option Nat} (h : Rep w b l) (hg : w.grownBy w' row) (hne : some b ≠ row) : Rep w' b l := by
  obtain ⟨blk, h1, h2, h3⟩ := h; exact ⟨blk, h1, h2.grown hg hne, h3⟩
/-- The table of constants. -/
def HasK (w : World) : Prop := ∀ j, j < 64 → w.cell? ⟨0, j, none⟩ = some (.int .u32 (KT.getD j 0))
theorem HasK.grown {w w' : World} {row : Option Nat} (h : HasK w) (hg : w.grownBy w' row) (hne : some 0 ≠ row) : HasK w' := fun j hj => by
  rw [grown_cell hg (block_lt_of_cell (h j hj)) hne]; exact h j hj
def Said.step : Prop := ∀ (b : Nat) (s : S8) (blk : List Int) (n : Int) (w : World), blk.length = 64 → Row w b 50 (stc s blk n) → 0 ≠ b → HasK w →
    Calls Tryd.prog 24 #[.pointer (some ⟨b, 0, none⟩)] w fun e w' => e = .returned (.tuple #[]) ∧ Row w' b 50 (stc (comp s blk) blk n) ∧ w.grownBy w' (some b)
end Go.Proofs.YtkfdaeipfjcibaaDoor
