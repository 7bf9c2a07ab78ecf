/- The plain mathematics of a sum that grows: bytes put behind the block's filled part; a block that is full is gone through. No program. -/
import Derived.Test.YtkfdaeipfjcibaaDoorMath
import Derived.Laws.CopyOwn
namespace Go.Proofs.YtkfdaeipfjcibaaDoor
open Go.RowKit
theorem comps_append (s : S8) (l x : List Int) : ∀ q, 64 * q ≤ l.length → comps s (l ++ x) q = comps s l q
  | 0, _ => rfl
  | q + 1, h => by
    rw [comps, comps, comps_append s l x q (by omega)]
    congr 1
    rw [List.drop_append_of_le_length (by omega), List.take_append_of_le_length (by simp; omega)]
/-- The block's filled part holds the bytes behind the whole blocks. -/
def Fits (blk l : List Int) : Prop := blk.length = 64 ∧ ∀ j, j < l.length % 64 → blk[j]? = l[64 * (l.length / 64) + j]?
theorem splice_length {blk cs : List Int} {o : Nat} (hb : blk.length = 64) (ho : o + cs.length ≤ 64) : (splice blk o cs).length = 64 := by
  rw [length_splice _ _ _ (by omega), hb]
theorem splice_get {α : Type} {L cs : List α} {o j : Nat} (h : o ≤ L.length) : (splice L o cs)[j]? = if j < o then L[j]? else if j < o + cs.length then cs[j - o]? else L[j]? := by
  unfold splice
  by_cases h1 : j < o
  · rw [if_pos h1, List.getElem?_append_left (by simp; omega), List.getElem?_take, if_pos h1]
  · rw [if_neg h1, List.getElem?_append_right (by simp; omega), List.length_take, Nat.min_eq_left h]
    by_cases h2 : j < o + cs.length
    · rw [if_pos h2, List.getElem?_append_left (by omega)]
    · rw [if_neg h2, List.getElem?_append_right (by omega), List.getElem?_drop]
      congr 1; omega
/-- Fewer bytes than there is room for. -/
theorem fits_some {blk l cs : List Int} (h : Fits blk l) (hc : l.length % 64 + cs.length < 64) : Fits (splice blk (l.length % 64) cs) (l ++ cs) ∧ (l ++ cs).length / 64 = l.length / 64 := by
  have hq : (l ++ cs).length / 64 = l.length / 64 := by simp; omega
  refine ⟨⟨splice_length h.1 (by omega), fun j hj => ?_⟩, hq⟩
  rw [splice_get (by rw [h.1]; omega), hq]
  have hj' : j < l.length % 64 + cs.length := by simp at hj; omega
  by_cases h1 : j < l.length % 64
  · rw [if_pos h1, h.2 j h1, List.getElem?_append_left (by omega)]
  · rw [if_neg h1, if_pos hj', List.getElem?_append_right (by omega)]
    congr 1; omega
/-- Just as many as there is room for: the block is full. -/
theorem fits_all {blk l cs : List Int} (h : Fits blk l) (hc : l.length % 64 + cs.length = 64) : Fits (splice blk (l.length % 64) cs) (l ++ cs) ∧ (l ++ cs).length / 64 = l.length / 64 + 1 ∧
    (l ++ cs).length % 64 = 0 ∧ splice blk (l.length % 64) cs = ((l ++ cs).drop (64 * (l.length / 64))).take 64 := by
  have hq : (l ++ cs).length / 64 = l.length / 64 + 1 := by simp; omega
  have hr : (l ++ cs).length % 64 = 0 := by simp; omega
  refine ⟨⟨splice_length h.1 (by omega), fun j hj => by omega⟩, hq, hr, ?_⟩
  apply List.ext_getElem?
  intro j
  rw [splice_get (by rw [h.1]; omega), List.getElem?_take, List.getElem?_drop]
  by_cases h64 : j < 64
  · rw [if_pos h64]
    by_cases h1 : j < l.length % 64
    · rw [if_pos h1, h.2 j h1, List.getElem?_append_left (by omega)]
    · rw [if_neg h1, if_pos (by omega), List.getElem?_append_right (by omega)]
      congr 1; omega
  · rw [if_neg h64, if_neg (by omega), if_neg (by omega), List.getElem?_eq_none (by rw [h.1]; omega)]
theorem comps_all {s : S8} {blk l cs : List Int} (h : Fits blk l) (hc : l.length % 64 + cs.length = 64) :
    comp (comps s l (l.length / 64)) (splice blk (l.length % 64) cs) = comps s (l ++ cs) ((l ++ cs).length / 64) := by
  obtain ⟨_, hq, _, hb⟩ := fits_all h hc
  rw [hq, comps, comps_append s l cs _ (by omega), hb]
theorem comps_some {s : S8} {blk l cs : List Int} (h : Fits blk l) (hc : l.length % 64 + cs.length < 64) :
    comps s l (l.length / 64) = comps s (l ++ cs) ((l ++ cs).length / 64) := by
  obtain ⟨_, hq⟩ := fits_some h hc
  rw [hq, comps_append s l cs _ (by omega)]
theorem fits_nil : Fits (List.replicate 64 0) [] := ⟨by simp, fun j hj => by simp at hj⟩
end Go.Proofs.YtkfdaeipfjcibaaDoor
