/- UTF-8, in plain Lean: the rune that the model's decoder finds at a place, the document's own word on how many bytes a sign has, and that a sign's bytes are its rune's. -/
import Derived.Test.YtlbilofnbhhmjaaGreatDoorSpec
import Derived.Lib.DecodeN
import Derived.Lib.IndexBytes
import Derived.Lib.RuneCountTail
namespace Go.Proofs.YtlbilofnbhhmjaaGreatDoor
open Go.Lib
set_option linter.unusedVariables false
set_option linter.unusedSimpArgs false
/-- The document's word: how many bytes the sign has whose first bytes these are, of so many that are left. -/
def wholeN (n b0 b1 b2 b3 : Nat) : Nat :=
  if b0 < 128 then 1
  else if 194 ≤ b0 ∧ b0 ≤ 223 then (if 2 ≤ n ∧ 128 ≤ b1 ∧ b1 ≤ 191 then 2 else 0)
  else if 224 ≤ b0 ∧ b0 ≤ 239 then (if 3 ≤ n ∧ (if b0 = 224 then 160 else 128) ≤ b1 ∧ b1 ≤ (if b0 = 237 then 159 else 191) ∧ 128 ≤ b2 ∧ b2 ≤ 191 then 3 else 0)
  else if 240 ≤ b0 ∧ b0 ≤ 244 then (if 4 ≤ n ∧ (if b0 = 240 then 144 else 128) ≤ b1 ∧ b1 ≤ (if b0 = 244 then 143 else 191) ∧ 128 ≤ b2 ∧ b2 ≤ 191 ∧ 128 ≤ b3 ∧ b3 ≤ 191 then 4 else 0)
  else 0
set_option maxRecDepth 100000 in
set_option maxHeartbeats 4000000 in
theorem decodeN_whole (n b0 b1 b2 b3 : Nat) (hn : 1 ≤ n) (h0 : b0 < 256) (h1 : b1 < 256) (h2 : b2 < 256) (h3 : b3 < 256) :
    (wholeN n b0 b1 b2 b3 = 0 ∧ decodeN n b0 b1 b2 b3 = (65533, 1) ∧ 128 ≤ b0) ∨
    (wholeN n b0 b1 b2 b3 = 1 ∧ decodeN n b0 b1 b2 b3 = (b0, 1) ∧ b0 < 128) ∨
    (wholeN n b0 b1 b2 b3 = 2 ∧ decodeN n b0 b1 b2 b3 = (b0 % 32 * 64 + b1 % 64, 2) ∧ 2 ≤ n ∧ 194 ≤ b0 ∧ b0 ≤ 223 ∧ 128 ≤ b1 ∧ b1 ≤ 191) ∨
    (wholeN n b0 b1 b2 b3 = 3 ∧ decodeN n b0 b1 b2 b3 = (b0 % 16 * 4096 + b1 % 64 * 64 + b2 % 64, 3) ∧ 3 ≤ n ∧ 224 ≤ b0 ∧ b0 ≤ 239 ∧ 128 ≤ b1 ∧ b1 ≤ 191 ∧ 128 ≤ b2 ∧ b2 ≤ 191 ∧ (b0 = 224 → 160 ≤ b1) ∧ (b0 = 237 → b1 ≤ 159)) ∨
    (wholeN n b0 b1 b2 b3 = 4 ∧ decodeN n b0 b1 b2 b3 = (b0 % 8 * 262144 + b1 % 64 * 4096 + b2 % 64 * 64 + b3 % 64, 4) ∧ 4 ≤ n ∧ 240 ≤ b0 ∧ b0 ≤ 244 ∧ 128 ≤ b1 ∧ b1 ≤ 191 ∧ 128 ≤ b2 ∧ b2 ≤ 191 ∧ 128 ≤ b3 ∧ b3 ≤ 191 ∧ (b0 = 240 → 144 ≤ b1) ∧ (b0 = 244 → b1 ≤ 143)) := by
  unfold wholeN decodeN
  repeat' split
  all_goals first
    | (exfalso; omega)
    | (left; refine ⟨rfl, rfl, ?_⟩; omega)
    | (right; left; refine ⟨rfl, rfl, ?_⟩; omega)
    | (right; right; left; refine ⟨rfl, rfl, ?_⟩; omega)
    | (right; right; right; left; refine ⟨rfl, rfl, ?_⟩; omega)
    | (right; right; right; right; refine ⟨rfl, rfl, ?_⟩; omega)
theorem get_ch {s : ByteArray} {i : Nat} (h : i < s.size) : (((s.get! i).toNat : Nat) : Int) = ch s i := by
  rw [ch_in h, ← Lib.getD_get!', List.getD_eq_getElem?_getD, Lib.data_getElem? s i h]; rfl
/-- How many bytes the sign has that begins at a place; 0: none begins there. -/
def wholeAt (s : ByteArray) (i : Nat) : Nat := wholeN (s.size - i) (s.get! i).toNat (s.get! (i + 1)).toNat (s.get! (i + 2)).toNat (s.get! (i + 3)).toNat
/-- So many bytes from a place on. -/
def bytesAt (s : ByteArray) (i n : Nat) : List Int := (List.range n).map fun k => ch s (i + k)
theorem bytesAt_length (s : ByteArray) (i n : Nat) : (bytesAt s i n).length = n := by simp [bytesAt]
/-- What the decoder finds at a place: no sign; or one, of just these bytes. -/
theorem rune_spec {s : ByteArray} {i : Nat} (h : i < s.size) :
    (wholeAt s i = 0 ∧ Utf8.decode s i = (65533, 1) ∧ 128 ≤ ch s i) ∨
    (0 < wholeAt s i ∧ wholeAt s i ≤ 4 ∧ (Utf8.decode s i).2 = wholeAt s i ∧ i + wholeAt s i ≤ s.size ∧ (Utf8.decode s i).1 ≤ 1114111 ∧ ¬ (55296 ≤ (Utf8.decode s i).1 ∧ (Utf8.decode s i).1 ≤ 57343) ∧
      encodeRuneZ (((Utf8.decode s i).1 : Nat) : Int) = bytesAt s i (wholeAt s i) ∧ ((Utf8.decode s i).2 < 2 → (Utf8.decode s i).1 < 128)) := by
  have lt : ∀ k, (s.get! k).toNat < 256 := fun k => UInt8.toNat_lt _
  rw [decode_at]
  have g0 := get_ch h
  have g1 : i + 1 < s.size → _ := get_ch (s := s) (i := i + 1)
  have g2 : i + 2 < s.size → _ := get_ch (s := s) (i := i + 2)
  have g3 : i + 3 < s.size → _ := get_ch (s := s) (i := i + 3)
  have hw : wholeAt s i = wholeN (s.size - i) (s.get! i).toNat (s.get! (i + 1)).toNat (s.get! (i + 2)).toNat (s.get! (i + 3)).toNat := rfl
  have key := decodeN_whole (s.size - i) (s.get! i).toNat (s.get! (i + 1)).toNat (s.get! (i + 2)).toNat (s.get! (i + 3)).toNat (by omega) (lt _) (lt _) (lt _) (lt _)
  have l1 := lt (i + 1)
  rw [← hw] at key
  clear hw lt
  generalize wholeAt s i = W at key ⊢
  generalize (s.get! i).toNat = b0 at key g0 ⊢
  generalize (s.get! (i + 1)).toNat = b1 at key g1 l1 ⊢
  generalize (s.get! (i + 2)).toNat = b2 at key g2 ⊢
  generalize (s.get! (i + 3)).toNat = b3 at key g3 ⊢
  rcases key with ⟨rfl, hd, hb⟩ | ⟨rfl, hd, hb⟩ | ⟨rfl, hd, hn, hb⟩ | ⟨rfl, hd, hn, hb⟩ | ⟨rfl, hd, hn, hb⟩
  · exact .inl ⟨rfl, hd, by omega⟩
  all_goals right
  · rw [hd]
    refine ⟨by omega, by omega, rfl, by omega, by simp only; omega, by simp only; omega, ?_, fun _ => hb⟩
    rw [encodeRuneZ_one (by omega) (by omega)]
    simp [bytesAt, ← g0]
  · rw [hd]
    refine ⟨by omega, by omega, rfl, by omega, by simp only; omega, by simp only; omega, ?_, fun h => by simp at h⟩
    rw [encodeRuneZ_two (by omega) (by omega)]
    simp only [bytesAt, List.range_succ, List.range_zero, List.nil_append, List.cons_append, List.map_cons, List.map_nil, Nat.add_zero, ← g0, ← g1 (by omega), List.cons.injEq, and_true]
    omega
  · rw [hd]
    refine ⟨by omega, by omega, rfl, by omega, by simp only; omega, by simp only; omega, ?_, fun h => by simp at h⟩
    rw [encodeRuneZ_three (by omega)]
    simp only [bytesAt, List.range_succ, List.range_zero, List.nil_append, List.cons_append, List.map_cons, List.map_nil, Nat.add_zero, ← g0, ← g1 (by omega), ← g2 (by omega), List.cons.injEq, and_true]
    omega
  · rw [hd]
    refine ⟨by omega, by omega, rfl, by omega, by simp only; omega, by simp only; omega, ?_, fun h => by simp at h⟩
    rw [encodeRuneZ_four (by omega) (by omega)]
    simp only [bytesAt, List.range_succ, List.range_zero, List.nil_append, List.cons_append, List.map_cons, List.map_nil, Nat.add_zero, ← g0, ← g1 (by omega), ← g2 (by omega), ← g3 (by omega), List.cons.injEq, and_true]
    omega
theorem runeAt_none {s : ByteArray} {i : Nat} (h : i < s.size) (hw : wholeAt s i = 0) : runeAt s i = (65533, 0) ∧ Utf8.decode s i = (65533, 1) := by
  rcases rune_spec h with ⟨_, h1, _⟩ | ⟨h1, _⟩
  · refine ⟨?_, h1⟩
    unfold runeAt; rw [h1]; rfl
  · omega
theorem runeAt_some {s : ByteArray} {i : Nat} (h : i < s.size) (hw : wholeAt s i ≠ 0) : runeAt s i = ((((Utf8.decode s i).1 : Nat) : Int), wholeAt s i) ∧ (Utf8.decode s i).2 = wholeAt s i ∧ 0 < wholeAt s i ∧ wholeAt s i ≤ 4 ∧ i + wholeAt s i ≤ s.size ∧
    (Utf8.decode s i).1 ≤ 1114111 ∧ encodeRuneZ (((Utf8.decode s i).1 : Nat) : Int) = bytesAt s i (wholeAt s i) ∧ ¬ ((Utf8.decode s i).1 = 65533 ∧ (Utf8.decode s i).2 < 2) ∧ ¬ (55296 ≤ (Utf8.decode s i).1 ∧ (Utf8.decode s i).1 ≤ 57343) := by
  rcases rune_spec h with ⟨h1, _, _⟩ | ⟨h1, h2, h3, h4, h5, h6, h7, h8⟩
  · exact absurd h1 hw
  · have hne : ¬ ((Utf8.decode s i).1 = 65533 ∧ (Utf8.decode s i).2 < 2) := fun ⟨a, b⟩ => by have := h8 b; omega
    refine ⟨?_, h3, h1, h2, h4, h5, h7, hne, h6⟩
    unfold runeAt
    simp only
    rw [if_neg hne, h3]
end Go.Proofs.YtlbilofnbhhmjaaGreatDoor
