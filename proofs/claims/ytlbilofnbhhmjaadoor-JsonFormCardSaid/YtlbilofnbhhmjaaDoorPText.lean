/- Texts, sign by sign: how a sign may be spelt, and that it is read so; what is read is UTF-8 and is written no longer. No program in it. -/
import Derived.Test.YtlbilofnbhhmjaaDoorPSpec
namespace Go.Proofs.YtlbilofnbhhmjaaDoor
open Go.Lib
set_option linter.unusedVariables false
set_option linter.unusedSimpArgs false
/-- These bytes stand in s from i on. -/
def At (s : ByteArray) (i : Nat) (l : List Int) : Prop := i + l.length ≤ s.size ∧ ∀ k c, l[k]? = some c → ch s (i + k) = c
theorem At.append {s : ByteArray} {i : Nat} {a b : List Int} : At s i (a ++ b) ↔ At s i a ∧ At s (i + a.length) b := by
  constructor
  · rintro ⟨h1, h2⟩
    simp only [List.length_append] at h1
    refine ⟨⟨by omega, fun k c hk => h2 k c ?_⟩, by omega, fun k c hk => ?_⟩
    · rw [List.getElem?_append_left (List.getElem?_eq_some_iff.1 hk).1]; exact hk
    · rw [Nat.add_assoc]
      exact h2 _ c (by rw [List.getElem?_append_right (by omega), Nat.add_sub_cancel_left]; exact hk)
  · rintro ⟨⟨h1, h2⟩, h3, h4⟩
    refine ⟨by simp only [List.length_append]; omega, fun k c hk => ?_⟩
    by_cases hlt : k < a.length
    · rw [List.getElem?_append_left hlt] at hk; exact h2 k c hk
    · rw [List.getElem?_append_right (by omega)] at hk
      have := h4 _ c hk
      rwa [show i + a.length + (k - a.length) = i + k by omega] at this
theorem At.cons {s : ByteArray} {i : Nat} {c : Int} {b : List Int} : At s i (c :: b) ↔ (i < s.size ∧ ch s i = c) ∧ At s (i + 1) b := by
  have := At.append (s := s) (i := i) (a := [c]) (b := b)
  rw [List.singleton_append] at this
  rw [this]
  refine and_congr_left fun _ => ⟨fun h => ⟨h.1, h.2 0 c rfl⟩, fun h => ⟨h.1, fun k d hk => ?_⟩⟩
  match k, hk with
  | 0, hk => simp at hk; subst hk; exact h.2
  | k + 1, hk => simp at hk
theorem At.nil {s : ByteArray} {i : Nat} (h : i ≤ s.size) : At s i [] := ⟨h, fun k c hk => by simp at hk⟩
theorem At.bytes {s : ByteArray} {i : Nat} {l : List Int} (h : At s i l) : bytesAt s i l.length = l := by
  apply List.ext_getElem?
  intro k
  unfold bytesAt
  rw [List.getElem?_map]
  by_cases hk : k < l.length
  · rw [List.getElem?_range hk, Option.map_some, h.2 k _ (List.getElem?_eq_getElem hk), List.getElem?_eq_getElem hk]
  · rw [List.getElem?_eq_none (by simp; omega), List.getElem?_eq_none (by omega)]; rfl
theorem at_bytes {s : ByteArray} {i n : Nat} (h : i + n ≤ s.size) : At s i (bytesAt s i n) := by
  refine ⟨by rw [bytesAt_length]; exact h, fun k c hk => ?_⟩
  unfold bytesAt at hk
  rw [List.getElem?_map] at hk
  by_cases hlt : k < n
  · rw [List.getElem?_range hlt] at hk; simpa using hk
  · rw [List.getElem?_eq_none (by simp; omega)] at hk; cases hk
theorem At.fits {s t : ByteArray} {i : Nat} (h : At s i (restAt t 0)) : ∀ k, k < t.size → ch s (i + k) = ch t k := fun k hk => by
  refine h.2 k _ ?_
  unfold restAt bytesAt
  rw [List.getElem?_map, List.getElem?_range (by omega)]
  simp
theorem restAt_len (t : ByteArray) : (restAt t 0).length = t.size := by unfold restAt; rw [bytesAt_length]; omega
/-- A sign's rune. -/
def RuneV (r : Int) : Prop := 0 ≤ r ∧ r ≤ 1114111 ∧ ¬ (55296 ≤ r ∧ r ≤ 57343)
/-- A sign's bytes are read as the sign. -/
theorem rune_of_enc {s : ByteArray} {i : Nat} {r : Int} (hr : RuneV r) (h : At s i (encodeRuneZ r)) : wholeAt s i = (encodeRuneZ r).length ∧ runeAt s i = (r, (encodeRuneZ r).length) := by
  obtain ⟨h0, h1, h2⟩ := hr
  have hl := encodeRuneZ_length r
  have hi : i < s.size := by have := h.1; omega
  suffices hw : wholeAt s i = (encodeRuneZ r).length ∧ (Utf8.decode s i).1 = r.toNat by
    refine ⟨hw.1, ?_⟩
    obtain ⟨a, _⟩ := runeAt_some hi (by omega)
    rw [a, hw.1, hw.2, Int.toNat_of_nonneg h0]
  have lt : ∀ k, (s.get! k).toNat < 256 := fun k => UInt8.toNat_lt _
  have g0 := get_ch hi
  have g1 : i + 1 < s.size → _ := get_ch (s := s) (i := i + 1)
  have g2 : i + 2 < s.size → _ := get_ch (s := s) (i := i + 2)
  have g3 : i + 3 < s.size → _ := get_ch (s := s) (i := i + 3)
  have key := decodeN_whole (s.size - i) (s.get! i).toNat (s.get! (i + 1)).toNat (s.get! (i + 2)).toNat (s.get! (i + 3)).toNat (by omega) (lt _) (lt _) (lt _) (lt _)
  have hw : wholeAt s i = wholeN (s.size - i) (s.get! i).toNat (s.get! (i + 1)).toNat (s.get! (i + 2)).toNat (s.get! (i + 3)).toNat := rfl
  have hd := decode_at s i
  have l0 := lt i; have l1 := lt (i + 1); have l2 := lt (i + 2); have l3 := lt (i + 3)
  rw [hw, hd]
  clear hw hd lt
  generalize (s.get! i).toNat = b0 at *
  generalize (s.get! (i + 1)).toNat = b1 at *
  generalize (s.get! (i + 2)).toNat = b2 at *
  generalize (s.get! (i + 3)).toNat = b3 at *
  by_cases c1 : r ≤ 127
  · rw [encodeRuneZ_one h0 c1] at h ⊢
    have e0 := h.2 0 r rfl
    have hb : b0 < 128 := by rw [Nat.add_zero] at e0; omega
    have hwn : wholeN (s.size - i) b0 b1 b2 b3 = 1 := by unfold wholeN; rw [if_pos hb]
    rw [hwn] at key ⊢
    rcases key with ⟨e, _⟩ | ⟨_, e, _⟩ | ⟨e, _⟩ | ⟨e, _⟩ | ⟨e, _⟩
    · omega
    · rw [e]; exact ⟨rfl, by simp only; rw [Nat.add_zero] at e0; omega⟩
    all_goals omega
  by_cases c2 : r ≤ 2047
  · rw [encodeRuneZ_two (by omega) c2] at h ⊢
    have e0 := h.2 0 _ rfl
    have e1 := h.2 1 _ rfl
    have hs := h.1
    simp only [List.length_cons, List.length_nil] at hs
    have g1 := g1 (by omega)
    rw [Nat.add_zero] at e0
    have hwn : wholeN (s.size - i) b0 b1 b2 b3 = 2 := by unfold wholeN; rw [if_neg (by omega), if_pos (by omega), if_pos (by omega)]
    rw [hwn] at key ⊢
    rcases key with ⟨e, _⟩ | ⟨e, _⟩ | ⟨_, e, _⟩ | ⟨e, _⟩ | ⟨e, _⟩
    · omega
    · omega
    · rw [e]; exact ⟨rfl, by simp only; omega⟩
    all_goals omega
  by_cases c3 : r ≤ 65535
  · rw [encodeRuneZ_three (by omega)] at h ⊢
    have e0 := h.2 0 _ rfl
    have e1 := h.2 1 _ rfl
    have e2 := h.2 2 _ rfl
    have hs := h.1
    simp only [List.length_cons, List.length_nil] at hs
    have g1 := g1 (by omega)
    have g2 := g2 (by omega)
    rw [Nat.add_zero] at e0
    have hwn : wholeN (s.size - i) b0 b1 b2 b3 = 3 := by
      unfold wholeN
      rw [if_neg (by omega), if_neg (by omega), if_pos (by omega)]
      split <;> split <;> (rw [if_pos (by omega)])
    rw [hwn] at key ⊢
    rcases key with ⟨e, _⟩ | ⟨e, _⟩ | ⟨e, _⟩ | ⟨_, e, _⟩ | ⟨e, _⟩
    · omega
    · omega
    · omega
    · rw [e]; exact ⟨rfl, by simp only; omega⟩
    · omega
  · rw [encodeRuneZ_four (by omega) h1] at h ⊢
    have e0 := h.2 0 _ rfl
    have e1 := h.2 1 _ rfl
    have e2 := h.2 2 _ rfl
    have e3 := h.2 3 _ rfl
    have hs := h.1
    simp only [List.length_cons, List.length_nil] at hs
    have g1 := g1 (by omega)
    have g2 := g2 (by omega)
    have g3 := g3 (by omega)
    rw [Nat.add_zero] at e0
    have hwn : wholeN (s.size - i) b0 b1 b2 b3 = 4 := by
      unfold wholeN
      rw [if_neg (by omega), if_neg (by omega), if_neg (by omega), if_pos (by omega)]
      split <;> split <;> (rw [if_pos (by omega)])
    rw [hwn] at key ⊢
    rcases key with ⟨e, _⟩ | ⟨e, _⟩ | ⟨e, _⟩ | ⟨e, _⟩ | ⟨_, e, _⟩
    · omega
    · omega
    · omega
    · omega
    · rw [e]; exact ⟨rfl, by simp only; omega⟩
/-- The bytes of some signs. -/
def enc (rs : List Int) : List Int := rs.flatMap encodeRuneZ
theorem enc_append (a b : List Int) : enc (a ++ b) = enc a ++ enc b := by simp [enc]
theorem enc_cons (r : Int) (b : List Int) : enc (r :: b) = encodeRuneZ r ++ enc b := rfl
/-- What is UTF-8 is made of signs. -/
theorem runes_of_utf {t : ByteArray} : ∀ (d k : Nat), t.size - k ≤ d → utfFrom t k = true → ∃ rs, (∀ r ∈ rs, RuneV r) ∧ restAt t k = enc rs
  | d, k, hd, h => by
    by_cases hk : t.size ≤ k
    · exact ⟨[], by simp, by rw [restAt_end hk]; rfl⟩
    · have hlt : k < t.size := by omega
      rw [utfFrom_step hlt] at h
      split at h
      · cases h
      · rename_i hw
        obtain ⟨a, b, c, e, f, g, x, y, z⟩ := runeAt_some hlt hw
        match d, hd with
        | 0, hd => omega
        | d + 1, hd =>
          obtain ⟨rs, h1, h2⟩ := runes_of_utf d (k + wholeAt t k) (by omega) h
          refine ⟨((Utf8.decode t k).1 : Int) :: rs, fun r hr => ?_, ?_⟩
          · rcases List.mem_cons.1 hr with rfl | hr
            · exact ⟨by omega, by omega, by omega⟩
            · exact h1 r hr
          · rw [restAt_step f, h2, enc_cons, x]
/-- What is made of signs is UTF-8. -/
theorem utf_of_runes {s : ByteArray} : ∀ (rs : List Int) (i : Nat), (∀ r ∈ rs, RuneV r) → At s i (enc rs) → s.size = i + (enc rs).length → utfFrom s i = true
  | [], i, _, h, hs => utfFrom_end (by simp [enc] at hs; omega)
  | r :: rs, i, hr, h, hs => by
    rw [enc_cons] at h hs
    obtain ⟨h1, h2⟩ := At.append.1 h
    have hl := encodeRuneZ_length r
    obtain ⟨a, _⟩ := rune_of_enc (hr r (by simp)) h1
    have hi := h1.1
    rw [utfFrom_step (by omega), if_neg (by omega), a]
    exact utf_of_runes rs _ (fun x hx => hr x (by simp [hx])) h2 (by simp at hs; omega)
theorem enc_byte (rs : List Int) : ∀ x ∈ enc rs, 0 ≤ x ∧ x < 256 := by
  intro x hx
  obtain ⟨r, _, h⟩ := List.mem_flatMap.1 hx
  exact encodeRuneZ_byte r x h
theorem ch_str {l : List Int} (hb : ∀ x ∈ l, 0 ≤ x ∧ x < 256) {k : Nat} {c : Int} (hk : l[k]? = some c) : ch (str l) k = c := by
  obtain ⟨hlt, rfl⟩ := List.getElem?_eq_some_iff.1 hk
  have hsz : (str l).size = l.length := Go.strOfNums_size l
  have hz : k < (strOfNums l).size := by have : (strOfNums l).size = l.length := hsz; omega
  rw [ch_in hz]
  have hb := hb l[k] (List.getElem_mem _)
  simp only [strOfNums, ByteArray.getElem_eq_getElem_data, List.getElem_toArray, List.getElem_map]
  simp
  omega
theorem at_str {l : List Int} (hb : ∀ x ∈ l, 0 ≤ x ∧ x < 256) : At (str l) 0 l := ⟨by rw [Nat.zero_add, show (str l).size = l.length from Go.strOfNums_size l]; exact Nat.le_refl _, fun k c hk => by rw [Nat.zero_add]; exact ch_str hb hk⟩
theorem restAt_str {l : List Int} (hb : ∀ x ∈ l, 0 ≤ x ∧ x < 256) : restAt (str l) 0 = l := by
  have := (at_str hb).bytes
  unfold restAt
  rw [show (str l).size - 0 = l.length from Go.strOfNums_size l]; exact this
theorem str_restAt (t : ByteArray) : str (restAt t 0) = t := by
  apply ByteArray.ext
  apply Array.ext
  · show (strOfNums _).size = _; rw [Go.strOfNums_size, restAt_len]; rfl
  · intro k h1 h2
    simp only [strOfNums, List.getElem_toArray, List.getElem_map, restAt, bytesAt, List.getElem_range, Nat.zero_add]
    rw [ch_in (show k < t.size from h2)]
    simp; rfl
theorem valid_str {rs : List Int} (h : ∀ r ∈ rs, RuneV r) : utfFrom (str (enc rs)) 0 = true :=
  utf_of_runes rs 0 h (at_str (enc_byte rs)) (by rw [Nat.zero_add]; exact Go.strOfNums_size _)
end Go.Proofs.YtlbilofnbhhmjaaDoor
