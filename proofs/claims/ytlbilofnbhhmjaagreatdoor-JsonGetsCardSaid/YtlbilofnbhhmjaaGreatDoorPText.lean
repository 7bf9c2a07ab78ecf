/- Texts, sign by sign: how a sign may be spelt, and that it is read so; what is read is UTF-8 and is written no longer. No program in it. Texts, spelt in any way that is read; what is read of a text is UTF-8, and is written no longer. No program in it. -/
import Derived.Test.YtlbilofnbhhmjaaGreatDoorPSpec
namespace Go.Proofs.YtlbilofnbhhmjaaGreatDoor
section
open Go.Lib
set_option linter.unusedVariables false
set_option linter.unusedSimpArgs false
/-- These bytes stand in s from i on. -/
def At (s : ByteArray) (i : Nat) (l : List Int) : Prop := i + l.length ≤ s.size ∧ ∀ k c, l[k]? = some c → ch s (i + k) = c
theorem At.append {s : ByteArray} {i : Nat} {a b : List Int} : At s i (a ++ b) ↔ At s i a ∧ At s (i + a.length) b := by
  constructor
  · rintro ⟨h1, h2⟩
    simp only [List.length_append] at h1
    refine ⟨⟨by omega, fun k c hk => h2 k c ?_⟩, by omega, fun k c hk => ?_⟩
    · rw [List.getElem?_append_left (List.getElem?_eq_some_iff.1 hk).1]; exact hk
    · rw [Nat.add_assoc]
      exact h2 _ c (by rw [List.getElem?_append_right (by omega), Nat.add_sub_cancel_left]; exact hk)
  · rintro ⟨⟨h1, h2⟩, h3, h4⟩
    refine ⟨by simp only [List.length_append]; omega, fun k c hk => ?_⟩
    by_cases hlt : k < a.length
    · rw [List.getElem?_append_left hlt] at hk; exact h2 k c hk
    · rw [List.getElem?_append_right (by omega)] at hk
      have := h4 _ c hk
      rwa [show i + a.length + (k - a.length) = i + k by omega] at this
theorem At.cons {s : ByteArray} {i : Nat} {c : Int} {b : List Int} : At s i (c :: b) ↔ (i < s.size ∧ ch s i = c) ∧ At s (i + 1) b := by
  have := At.append (s := s) (i := i) (a := [c]) (b := b)
  rw [List.singleton_append] at this
  rw [this]
  refine and_congr_left fun _ => ⟨fun h => ⟨h.1, h.2 0 c rfl⟩, fun h => ⟨h.1, fun k d hk => ?_⟩⟩
  match k, hk with
  | 0, hk => simp at hk; subst hk; exact h.2
  | k + 1, hk => simp at hk
theorem At.nil {s : ByteArray} {i : Nat} (h : i ≤ s.size) : At s i [] := ⟨h, fun k c hk => by simp at hk⟩
theorem At.bytes {s : ByteArray} {i : Nat} {l : List Int} (h : At s i l) : bytesAt s i l.length = l := by
  apply List.ext_getElem?
  intro k
  unfold bytesAt
  rw [List.getElem?_map]
  by_cases hk : k < l.length
  · rw [List.getElem?_range hk, Option.map_some, h.2 k _ (List.getElem?_eq_getElem hk), List.getElem?_eq_getElem hk]
  · rw [List.getElem?_eq_none (by simp; omega), List.getElem?_eq_none (by omega)]; rfl
theorem at_bytes {s : ByteArray} {i n : Nat} (h : i + n ≤ s.size) : At s i (bytesAt s i n) := by
  refine ⟨by rw [bytesAt_length]; exact h, fun k c hk => ?_⟩
  unfold bytesAt at hk
  rw [List.getElem?_map] at hk
  by_cases hlt : k < n
  · rw [List.getElem?_range hlt] at hk; simpa using hk
  · rw [List.getElem?_eq_none (by simp; omega)] at hk; cases hk
theorem At.fits {s t : ByteArray} {i : Nat} (h : At s i (restAt t 0)) : ∀ k, k < t.size → ch s (i + k) = ch t k := fun k hk => by
  refine h.2 k _ ?_
  unfold restAt bytesAt
  rw [List.getElem?_map, List.getElem?_range (by omega)]
  simp
theorem restAt_len (t : ByteArray) : (restAt t 0).length = t.size := by unfold restAt; rw [bytesAt_length]; omega
/-- A sign's rune. -/
def RuneV (r : Int) : Prop := 0 ≤ r ∧ r ≤ 1114111 ∧ ¬ (55296 ≤ r ∧ r ≤ 57343)
/-- A sign's bytes are read as the sign. -/
theorem rune_of_enc {s : ByteArray} {i : Nat} {r : Int} (hr : RuneV r) (h : At s i (encodeRuneZ r)) : wholeAt s i = (encodeRuneZ r).length ∧ runeAt s i = (r, (encodeRuneZ r).length) := by
  obtain ⟨h0, h1, h2⟩ := hr
  have hl := encodeRuneZ_length r
  have hi : i < s.size := by have := h.1; omega
  suffices hw : wholeAt s i = (encodeRuneZ r).length ∧ (Utf8.decode s i).1 = r.toNat by
    refine ⟨hw.1, ?_⟩
    obtain ⟨a, _⟩ := runeAt_some hi (by omega)
    rw [a, hw.1, hw.2, Int.toNat_of_nonneg h0]
  have lt : ∀ k, (s.get! k).toNat < 256 := fun k => UInt8.toNat_lt _
  have g0 := get_ch hi
  have g1 : i + 1 < s.size → _ := get_ch (s := s) (i := i + 1)
  have g2 : i + 2 < s.size → _ := get_ch (s := s) (i := i + 2)
  have g3 : i + 3 < s.size → _ := get_ch (s := s) (i := i + 3)
  have key := decodeN_whole (s.size - i) (s.get! i).toNat (s.get! (i + 1)).toNat (s.get! (i + 2)).toNat (s.get! (i + 3)).toNat (by omega) (lt _) (lt _) (lt _) (lt _)
  have hw : wholeAt s i = wholeN (s.size - i) (s.get! i).toNat (s.get! (i + 1)).toNat (s.get! (i + 2)).toNat (s.get! (i + 3)).toNat := rfl
  have hd := decode_at s i
  have l0 := lt i; have l1 := lt (i + 1); have l2 := lt (i + 2); have l3 := lt (i + 3)
  rw [hw, hd]
  clear hw hd lt
  generalize (s.get! i).toNat = b0 at *
  generalize (s.get! (i + 1)).toNat = b1 at *
  generalize (s.get! (i + 2)).toNat = b2 at *
  generalize (s.get! (i + 3)).toNat = b3 at *
  by_cases c1 : r ≤ 127
  · rw [encodeRuneZ_one h0 c1] at h ⊢
    have e0 := h.2 0 r rfl
    have hb : b0 < 128 := by rw [Nat.add_zero] at e0; omega
    have hwn : wholeN (s.size - i) b0 b1 b2 b3 = 1 := by unfold wholeN; rw [if_pos hb]
    rw [hwn] at key ⊢
    rcases key with ⟨e, _⟩ | ⟨_, e, _⟩ | ⟨e, _⟩ | ⟨e, _⟩ | ⟨e, _⟩
    · omega
    · rw [e]; exact ⟨rfl, by simp only; rw [Nat.add_zero] at e0; omega⟩
    all_goals omega
  by_cases c2 : r ≤ 2047
  · rw [encodeRuneZ_two (by omega) c2] at h ⊢
    have e0 := h.2 0 _ rfl
    have e1 := h.2 1 _ rfl
    have hs := h.1
    simp only [List.length_cons, List.length_nil] at hs
    have g1 := g1 (by omega)
    rw [Nat.add_zero] at e0
    have hwn : wholeN (s.size - i) b0 b1 b2 b3 = 2 := by unfold wholeN; rw [if_neg (by omega), if_pos (by omega), if_pos (by omega)]
    rw [hwn] at key ⊢
    rcases key with ⟨e, _⟩ | ⟨e, _⟩ | ⟨_, e, _⟩ | ⟨e, _⟩ | ⟨e, _⟩
    · omega
    · omega
    · rw [e]; exact ⟨rfl, by simp only; omega⟩
    all_goals omega
  by_cases c3 : r ≤ 65535
  · rw [encodeRuneZ_three (by omega)] at h ⊢
    have e0 := h.2 0 _ rfl
    have e1 := h.2 1 _ rfl
    have e2 := h.2 2 _ rfl
    have hs := h.1
    simp only [List.length_cons, List.length_nil] at hs
    have g1 := g1 (by omega)
    have g2 := g2 (by omega)
    rw [Nat.add_zero] at e0
    have hwn : wholeN (s.size - i) b0 b1 b2 b3 = 3 := by
      unfold wholeN
      rw [if_neg (by omega), if_neg (by omega), if_pos (by omega)]
      split <;> split <;> (rw [if_pos (by omega)])
    rw [hwn] at key ⊢
    rcases key with ⟨e, _⟩ | ⟨e, _⟩ | ⟨e, _⟩ | ⟨_, e, _⟩ | ⟨e, _⟩
    · omega
    · omega
    · omega
    · rw [e]; exact ⟨rfl, by simp only; omega⟩
    · omega
  · rw [encodeRuneZ_four (by omega) h1] at h ⊢
    have e0 := h.2 0 _ rfl
    have e1 := h.2 1 _ rfl
    have e2 := h.2 2 _ rfl
    have e3 := h.2 3 _ rfl
    have hs := h.1
    simp only [List.length_cons, List.length_nil] at hs
    have g1 := g1 (by omega)
    have g2 := g2 (by omega)
    have g3 := g3 (by omega)
    rw [Nat.add_zero] at e0
    have hwn : wholeN (s.size - i) b0 b1 b2 b3 = 4 := by
      unfold wholeN
      rw [if_neg (by omega), if_neg (by omega), if_neg (by omega), if_pos (by omega)]
      split <;> split <;> (rw [if_pos (by omega)])
    rw [hwn] at key ⊢
    rcases key with ⟨e, _⟩ | ⟨e, _⟩ | ⟨e, _⟩ | ⟨e, _⟩ | ⟨_, e, _⟩
    · omega
    · omega
    · omega
    · omega
    · rw [e]; exact ⟨rfl, by simp only; omega⟩
/-- The bytes of some signs. -/
def enc (rs : List Int) : List Int := rs.flatMap encodeRuneZ
theorem enc_append (a b : List Int) : enc (a ++ b) = enc a ++ enc b := by simp [enc]
theorem enc_cons (r : Int) (b : List Int) : enc (r :: b) = encodeRuneZ r ++ enc b := rfl
/-- What is UTF-8 is made of signs. -/
theorem runes_of_utf {t : ByteArray} : ∀ (d k : Nat), t.size - k ≤ d → utfFrom t k = true → ∃ rs, (∀ r ∈ rs, RuneV r) ∧ restAt t k = enc rs
  | d, k, hd, h => by
    by_cases hk : t.size ≤ k
    · exact ⟨[], by simp, by rw [restAt_end hk]; rfl⟩
    · have hlt : k < t.size := by omega
      rw [utfFrom_step hlt] at h
      split at h
      · cases h
      · rename_i hw
        obtain ⟨a, b, c, e, f, g, x, y, z⟩ := runeAt_some hlt hw
        match d, hd with
        | 0, hd => omega
        | d + 1, hd =>
          obtain ⟨rs, h1, h2⟩ := runes_of_utf d (k + wholeAt t k) (by omega) h
          refine ⟨((Utf8.decode t k).1 : Int) :: rs, fun r hr => ?_, ?_⟩
          · rcases List.mem_cons.1 hr with rfl | hr
            · exact ⟨by omega, by omega, by omega⟩
            · exact h1 r hr
          · rw [restAt_step f, h2, enc_cons, x]
/-- What is made of signs is UTF-8. -/
theorem utf_of_runes {s : ByteArray} : ∀ (rs : List Int) (i : Nat), (∀ r ∈ rs, RuneV r) → At s i (enc rs) → s.size = i + (enc rs).length → utfFrom s i = true
  | [], i, _, h, hs => utfFrom_end (by simp [enc] at hs; omega)
  | r :: rs, i, hr, h, hs => by
    rw [enc_cons] at h hs
    obtain ⟨h1, h2⟩ := At.append.1 h
    have hl := encodeRuneZ_length r
    obtain ⟨a, _⟩ := rune_of_enc (hr r (by simp)) h1
    have hi := h1.1
    rw [utfFrom_step (by omega), if_neg (by omega), a]
    exact utf_of_runes rs _ (fun x hx => hr x (by simp [hx])) h2 (by simp at hs; omega)
theorem enc_byte (rs : List Int) : ∀ x ∈ enc rs, 0 ≤ x ∧ x < 256 := by
  intro x hx
  obtain ⟨r, _, h⟩ := List.mem_flatMap.1 hx
  exact encodeRuneZ_byte r x h
theorem ch_str {l : List Int} (hb : ∀ x ∈ l, 0 ≤ x ∧ x < 256) {k : Nat} {c : Int} (hk : l[k]? = some c) : ch (str l) k = c := by
  obtain ⟨hlt, rfl⟩ := List.getElem?_eq_some_iff.1 hk
  have hsz : (str l).size = l.length := Go.strOfNums_size l
  have hz : k < (strOfNums l).size := by have : (strOfNums l).size = l.length := hsz; omega
  rw [ch_in hz]
  have hb := hb l[k] (List.getElem_mem _)
  simp only [strOfNums, ByteArray.getElem_eq_getElem_data, List.getElem_toArray, List.getElem_map]
  simp
  omega
theorem at_str {l : List Int} (hb : ∀ x ∈ l, 0 ≤ x ∧ x < 256) : At (str l) 0 l := ⟨by rw [Nat.zero_add, show (str l).size = l.length from Go.strOfNums_size l]; exact Nat.le_refl _, fun k c hk => by rw [Nat.zero_add]; exact ch_str hb hk⟩
theorem restAt_str {l : List Int} (hb : ∀ x ∈ l, 0 ≤ x ∧ x < 256) : restAt (str l) 0 = l := by
  have := (at_str hb).bytes
  unfold restAt
  rw [show (str l).size - 0 = l.length from Go.strOfNums_size l]; exact this
theorem str_restAt (t : ByteArray) : str (restAt t 0) = t := by
  apply ByteArray.ext
  apply Array.ext
  · show (strOfNums _).size = _; rw [Go.strOfNums_size, restAt_len]; rfl
  · intro k h1 h2
    simp only [strOfNums, List.getElem_toArray, List.getElem_map, restAt, bytesAt, List.getElem_range, Nat.zero_add]
    rw [ch_in (show k < t.size from h2)]
    simp; rfl
theorem valid_str {rs : List Int} (h : ∀ r ∈ rs, RuneV r) : utfFrom (str (enc rs)) 0 = true :=
  utf_of_runes rs 0 h (at_str (enc_byte rs)) (by rw [Nat.zero_add]; exact Go.strOfNums_size _)
end
section
open Go.Lib
set_option linter.unusedVariables false
set_option linter.unusedSimpArgs false
/-- These bytes, in a text, are read as this sign. -/
def Spl (m : List Int) (r : Int) : Prop := ∀ (s : ByteArray) (f i : Nat) (acc : List Int), At s i m → textN s (f + 1) i acc = textN s f (i + m.length) (acc ++ encodeRuneZ r)
theorem enc_first {r : Int} (h : 128 ≤ r) (h1 : r ≤ 1114111) (h2 : ¬ (55296 ≤ r ∧ r ≤ 57343)) : ∀ c ∈ encodeRuneZ r, 128 ≤ c := by
  intro c hc
  by_cases c2 : r ≤ 2047
  · rw [encodeRuneZ_two h c2] at hc
    simp at hc; omega
  by_cases c3 : r ≤ 65535
  · rw [encodeRuneZ_three (by omega)] at hc
    simp at hc; omega
  · rw [encodeRuneZ_four (by omega) h1] at hc
    simp at hc; omega
theorem spl_raw {r : Int} (hr : RuneV r) (h32 : 32 ≤ r) (h34 : r ≠ 34) (h92 : r ≠ 92) : Spl (encodeRuneZ r) r := by
  intro s f i acc h
  obtain ⟨a, b⟩ := rune_of_enc hr h
  have hl := encodeRuneZ_length r
  have hi := h.1
  obtain ⟨c, hc⟩ : ∃ c, (encodeRuneZ r)[0]? = some c := ⟨_, List.getElem?_eq_getElem (by omega)⟩
  have hcs := h.2 0 c hc
  rw [Nat.add_zero] at hcs
  have hcc : 32 ≤ c ∧ c ≠ 34 ∧ c ≠ 92 := by
    by_cases h1 : r ≤ 127
    · rw [encodeRuneZ_one hr.1 h1] at hc
      simp at hc; omega
    · have := enc_first (by omega) hr.2.1 hr.2.2 c (List.mem_of_getElem? hc)
      omega
  rw [textN.eq_def s (f + 1)]
  simp only
  rw [if_neg (by rw [hcs]; omega), if_neg (by rw [hcs]; omega), if_neg (by rw [hcs]; omega), b]
  simp only
  rw [if_neg (by omega)]
theorem spl_esc {m : List Int} {r : Int} (h : ∀ s i, At s i (92 :: m) → escape s i = .ok r (i + (m.length + 1))) : Spl (92 :: m) r := by
  intro s f i acc ha
  obtain ⟨⟨h1, h2⟩, _⟩ := At.cons.1 ha
  rw [textN.eq_def s (f + 1)]
  simp only
  rw [if_neg (by rw [h2]; omega), if_neg (by rw [h2]; omega), if_pos h2, h s i ha]
  rfl
theorem spl_two {c r : Int} (h : ∀ s i, ch s (i + 1) = c → escape s i = .ok r (i + 2)) : Spl [92, c] r := by
  refine spl_esc fun s i ha => ?_
  obtain ⟨_, hb⟩ := At.cons.1 ha
  obtain ⟨⟨_, hc⟩, _⟩ := At.cons.1 hb
  exact h s i hc
theorem hexv_hexD {n : Int} (h0 : 0 ≤ n) (h1 : n ≤ 15) : hexv (hexD n) = some n := by
  have : ∀ k : Nat, k ≤ 15 → hexv (hexD (k : Int)) = some (k : Int) := by decide
  have h := this n.toNat (by omega)
  rwa [Int.toNat_of_nonneg h0] at h
/-- Four digits at a place. -/
theorem four_at {s : ByteArray} {i : Nat} {a b c d w x y z : Int} (h : At s i [a, b, c, d]) (ha : hexv a = some w) (hb : hexv b = some x) (hc : hexv c = some y) (hd : hexv d = some z) : four s i = .ok (16 * (16 * (16 * w + x) + y) + z) (i + 4) := by
  obtain ⟨⟨_, e0⟩, h⟩ := At.cons.1 h
  obtain ⟨⟨_, e1⟩, h⟩ := At.cons.1 h
  obtain ⟨⟨_, e2⟩, h⟩ := At.cons.1 h
  obtain ⟨⟨_, e3⟩, h⟩ := At.cons.1 h
  unfold four
  simp only [fourN, e0, ha, e1, hb, e2, hc, e3, hd]
  congr 1
  omega
theorem escape_sign {s : ByteArray} {i : Nat} (h : ch s (i + 1) = 117) : escape s i = signOf s i := by
  unfold escape; rw [h]; simp
theorem spl_u {a b c d w x y z v : Int} (ha : hexv a = some w) (hb : hexv b = some x) (hc : hexv c = some y) (hd : hexv d = some z) (hv : 16 * (16 * (16 * w + x) + y) + z = v) (hp : v < 55296 ∨ 57343 < v) : Spl [92, 117, a, b, c, d] v := by
  refine spl_esc fun s i h => ?_
  obtain ⟨_, h⟩ := At.cons.1 h
  obtain ⟨⟨_, e1⟩, h⟩ := At.cons.1 h
  rw [escape_sign e1, (signIs (four_at h ha hb hc hd)).plain (by omega), hv]
  rfl
/-- A pair. -/
theorem spl_uu {a b c d w x y z a' b' c' d' w' x' y' z' v u r : Int} (ha : hexv a = some w) (hb : hexv b = some x) (hc : hexv c = some y) (hd : hexv d = some z) (hv : 16 * (16 * (16 * w + x) + y) + z = v)
    (ha' : hexv a' = some w') (hb' : hexv b' = some x') (hc' : hexv c' = some y') (hd' : hexv d' = some z') (hu : 16 * (16 * (16 * w' + x') + y') + z' = u)
    (h1 : 55296 ≤ v) (h2 : v ≤ 56319) (h3 : 56320 ≤ u) (h4 : u ≤ 57343) (hr : 65536 + (v - 55296) * 1024 + (u - 56320) = r) : Spl [92, 117, a, b, c, d, 92, 117, a', b', c', d'] r := by
  refine spl_esc fun s i h => ?_
  obtain ⟨_, h⟩ := At.cons.1 h
  obtain ⟨⟨_, e1⟩, h⟩ := At.cons.1 h
  obtain ⟨hA, h⟩ := (At.append (a := [a, b, c, d]) (b := [92, 117, a', b', c', d'])).1 h
  obtain ⟨⟨_, e2⟩, h⟩ := At.cons.1 h
  obtain ⟨⟨_, e3⟩, h⟩ := At.cons.1 h
  have hf := four_at hA ha hb hc hd
  have hg := four_at h ha' hb' hc' hd'
  rw [escape_sign e1, (signIs hf).two (by omega) (by omega) e2 e3 _ _ hg, if_neg (by omega)]
  congr 1
  omega
/-- How the program spells a sign. -/
theorem spl_own {r : Int} (hr : RuneV r) : Spl (escS (encodeRuneZ r)) r := by
  by_cases hh : 127 < r
  · rw [escS_high (enc_first (by omega) hr.2.1 hr.2.2)]
    exact spl_raw hr (by omega) (by omega) (by omega)
  · have h0 := hr.1
    rw [encodeRuneZ_one h0 (by omega), show escS [r] = escB r by simp [escS]]
    unfold escB
    split
    · rename_i e; subst e; exact spl_two fun s i h => by unfold escape; rw [h]; rfl
    split
    · rename_i e; subst e; exact spl_two fun s i h => by unfold escape; rw [h]; rfl
    split
    · rename_i e; subst e; exact spl_two fun s i h => by unfold escape; rw [h]; rfl
    split
    · rename_i e; subst e; exact spl_two fun s i h => by unfold escape; rw [h]; rfl
    split
    · rename_i e; subst e; exact spl_two fun s i h => by unfold escape; rw [h]; rfl
    split
    · rename_i e; subst e; exact spl_two fun s i h => by unfold escape; rw [h]; rfl
    split
    · rename_i e; subst e; exact spl_two fun s i h => by unfold escape; rw [h]; rfl
    split
    · exact spl_u (w := 0) (x := 0) (by decide) (by decide) (hexv_hexD (by omega) (by omega)) (hexv_hexD (by omega) (by omega)) (by omega) (by omega)
    · have := spl_raw hr (by omega) (by omega) (by omega)
      rwa [encodeRuneZ_one h0 (by omega)] at this
/-- Signs in line, each with its spelling. -/
theorem textN_spl : ∀ (l : List (List Int × Int)) (s : ByteArray) (f i : Nat) (acc : List Int), (∀ p ∈ l, Spl p.1 p.2) → At s i (l.flatMap (·.1) ++ [34]) → l.length < f → textN s f i acc = .ok (acc ++ enc (l.map (·.2))) (i + (l.flatMap (·.1)).length + 1)
  | [], s, f, i, acc, _, h, hf => by
    match f, hf with
    | f + 1, _ =>
      obtain ⟨⟨h1, h2⟩, _⟩ := At.cons.1 h
      rw [textN.eq_def s (f + 1)]
      simp only
      rw [if_neg (by rw [h2]; omega), if_pos h2]
      simp [enc]
  | p :: l, s, f, i, acc, hp, h, hf => by
    match f, hf with
    | f + 1, hf =>
      rw [List.flatMap_cons, List.append_assoc] at h
      obtain ⟨h1, h2⟩ := At.append.1 h
      rw [hp p (by simp) s f i acc h1, textN_spl l s f _ _ (fun q hq => hp q (by simp [hq])) h2 (by simp at hf; omega), List.map_cons, enc_cons, List.flatMap_cons, List.length_append, List.append_assoc]
      congr 1
      omega
theorem spl_length {l : List (List Int × Int)} (h : ∀ p ∈ l, p.1 ≠ []) : l.length ≤ (l.flatMap (·.1)).length := by
  induction l with
  | nil => simp
  | cons p l ih =>
    have := ih (fun q hq => h q (by simp [hq]))
    have := List.length_pos_iff.2 (h p (by simp))
    rw [List.flatMap_cons, List.length_append, List.length_cons]
    omega
theorem text_spl {l : List (List Int × Int)} {s : ByteArray} {i : Nat} (hp : ∀ p ∈ l, Spl p.1 p.2) (hn : ∀ p ∈ l, p.1 ≠ []) (h : At s i (34 :: (l.flatMap (·.1) ++ [34]))) : text s i = .ok (enc (l.map (·.2))) (i + ((l.flatMap (·.1)).length + 2)) := by
  obtain ⟨_, h1⟩ := At.cons.1 h
  have := h1.1
  have hl := spl_length hn
  unfold text
  rw [textN_spl l s _ _ _ hp h1 (by rw [List.length_append] at this; omega), List.nil_append]
  congr 1
  omega
theorem escS_enc_ne {r : Int} : escS (encodeRuneZ r) ≠ [] := by
  have hl := encodeRuneZ_length r
  match h : encodeRuneZ r, hl with
  | c :: t, _ =>
    show escB c ++ escS t ≠ []
    have : escB c ≠ [] := by
      unfold escB
      repeat' split
      all_goals simp
    simp [this]
theorem escS_enc (rs : List Int) : escS (enc rs) = (rs.map fun r => (escS (encodeRuneZ r), r)).flatMap (·.1) := by
  induction rs with
  | nil => rfl
  | cons r rs ih => rw [enc_cons, escS_append, ih, List.map_cons, List.flatMap_cons]
/-- A text as the program writes it is read as itself. -/
theorem text_quote {s t : ByteArray} {i : Nat} (hv : utfFrom t 0 = true) (h : At s i (quoteS t)) : text s i = .ok (restAt t 0) (i + (quoteS t).length) := by
  obtain ⟨rs, h1, h2⟩ := runes_of_utf t.size 0 (by omega) hv
  unfold quoteS at h ⊢
  rw [h2, escS_enc] at h ⊢
  rw [text_spl (l := rs.map fun r => (escS (encodeRuneZ r), r)) (fun p hp => by
    obtain ⟨r, hr, rfl⟩ := List.mem_map.1 hp
    exact spl_own (h1 r hr)) (fun p hp => by
    obtain ⟨r, hr, rfl⟩ := List.mem_map.1 hp
    exact escS_enc_ne) h]
  rw [List.map_map, show rs.map ((fun p : List Int × Int => p.2) ∘ fun r => (escS (encodeRuneZ r), r)) = rs by simp [Function.comp_def]]
  simp
/-! ### What is read -/
theorem escB_le (c : Int) : (escB c).length ≤ 6 := by
  unfold escB
  repeat' split
  all_goals simp
theorem escS_enc_le {v : Int} (hv : RuneV v) : (escS (encodeRuneZ v)).length ≤ 6 ∧ (32 ≤ v → v ≠ 34 → v ≠ 92 → (escS (encodeRuneZ v)).length = (encodeRuneZ v).length) := by
  have h0 := hv.1
  by_cases hh : 127 < v
  · rw [escS_high (enc_first (by omega) hv.2.1 hv.2.2)]
    have := (encodeRuneZ_length v).2
    exact ⟨by omega, fun _ _ _ => rfl⟩
  · rw [encodeRuneZ_one h0 (by omega), show escS [v] = escB v by simp [escS]]
    refine ⟨escB_le v, fun a b c => ?_⟩
    unfold escB
    rw [if_neg b, if_neg c, if_neg (by omega), if_neg (by omega), if_neg (by omega), if_neg (by omega), if_neg (by omega), if_neg (by omega)]
theorem signOf_far {s : ByteArray} {i j : Nat} {v : Int} (h : signOf s i = .ok v j) : i + 6 ≤ j := by
  cases hf : four s (i + 2) with
  | no k e => unfold signOf at h; rw [hf] at h; cases h
  | ok u k =>
    have his := signIs hf
    obtain ⟨h1, h2, h3, h4⟩ := four_ok hf
    by_cases h5 : u < 55296 ∨ 57343 < u
    · rw [his.plain h5] at h
      cases h
      omega
    · by_cases h6 : 56319 < u ∨ ch s k ≠ 92 ∨ ch s (k + 1) ≠ 117
      · rw [his.half (by omega) (by omega) h6] at h; cases h
      · cases hg : four s (k + 2) with
        | no m e => rw [his.bad (by omega) (by omega) (by omega) (by omega) _ _ hg] at h; cases h
        | ok x m =>
          obtain ⟨g1, g2, g3, g4⟩ := four_ok hg
          rw [his.two (by omega) (by omega) (by omega) (by omega) _ _ hg] at h
          split at h
          · cases h
          · cases h
            omega
theorem escape_len {s : ByteArray} {i j : Nat} {v : Int} (hi : i < s.size) (h : escape s i = .ok v j) : RuneV v ∧ i + (escS (encodeRuneZ v)).length ≤ j := by
  obtain ⟨a, b, c, d, e⟩ := escape_ok hi h
  have hv : RuneV v := ⟨c, d, e⟩
  refine ⟨hv, ?_⟩
  by_cases h117 : ch s (i + 1) = 117
  · rw [escape_sign h117] at h
    have := signOf_far h
    have := (escS_enc_le hv).1
    omega
  · have two : ∀ x : Int, (x = 34 ∨ x = 92 ∨ x = 47 ∨ x = 8 ∨ x = 12 ∨ x = 10 ∨ x = 13 ∨ x = 9) → (escS (encodeRuneZ x)).length ≤ 2 := by
      intro x hx
      rcases hx with rfl | rfl | rfl | rfl | rfl | rfl | rfl | rfl <;> decide
    unfold escape at h
    repeat' split at h
    all_goals first
      | (exfalso; omega)
      | (cases h; refine Nat.add_le_add_left (two _ ?_) i; omega)
      | cases h
theorem textN_back {s : ByteArray} : ∀ (f i : Nat) (acc l : List Int) (j : Nat) (rs0 : List Int), textN s f i acc = .ok l j → acc = enc rs0 → (∀ r ∈ rs0, RuneV r) → ∃ rs, (∀ r ∈ rs, RuneV r) ∧ l = enc rs ∧ (escS l).length + i + 1 ≤ (escS acc).length + j
  | 0, i, acc, l, j, rs0, h, _, _ => by simp [textN] at h
  | f + 1, i, acc, l, j, rs0, h, ha, hr => by
    unfold textN at h
    split at h
    · cases h
    · rename_i h1
      have hi : i < s.size := by omega
      split at h
      · cases h; exact ⟨rs0, hr, ha, by omega⟩
      · rename_i h2
        split at h
        · rename_i h3
          split at h
          · rename_i v k he
            obtain ⟨hv, hl⟩ := escape_len hi he
            obtain ⟨rs, a, b, c⟩ := textN_back f k _ l j (rs0 ++ [v]) h (by rw [enc_append, ha]; simp [enc]) (fun r hm => by
              rcases List.mem_append.1 hm with hm | hm
              · exact hr r hm
              · obtain rfl : r = v := by simpa using hm
                exact hv)
            refine ⟨rs, a, b, ?_⟩
            rw [escS_append, List.length_append] at c
            omega
          · cases h
        · rename_i h3
          split at h
          · cases h
          · rename_i h4
            have hw : wholeAt s i ≠ 0 := fun e => by rw [(runeAt_none hi e).1] at h4; exact h4 rfl
            obtain ⟨a1, a2, a3, a4, a5, a6, a7, a8, a9⟩ := runeAt_some hi hw
            rw [a1] at h
            simp only at h
            have hv : RuneV (((Utf8.decode s i).1 : Nat) : Int) := ⟨by omega, by omega, by omega⟩
            have hfirst : (encodeRuneZ (((Utf8.decode s i).1 : Nat) : Int))[0]? = some (ch s i) := by
              rw [a7]; unfold bytesAt
              rw [List.getElem?_map, List.getElem?_range (by omega)]; rfl
            have hge : 32 ≤ (((Utf8.decode s i).1 : Nat) : Int) ∧ (((Utf8.decode s i).1 : Nat) : Int) ≠ 34 ∧ (((Utf8.decode s i).1 : Nat) : Int) ≠ 92 := by
              by_cases hlt : (((Utf8.decode s i).1 : Nat) : Int) ≤ 127
              · rw [encodeRuneZ_one (by omega) hlt] at hfirst
                simp at hfirst
                omega
              · omega
            have hlen := (escS_enc_le hv).2 hge.1 hge.2.1 hge.2.2
            obtain ⟨rs, a, b, c⟩ := textN_back f _ _ l j (rs0 ++ [(((Utf8.decode s i).1 : Nat) : Int)]) h (by rw [enc_append, ha]; simp [enc]) (fun r hm => by
              rcases List.mem_append.1 hm with hm | hm
              · exact hr r hm
              · obtain rfl : r = _ := by simpa using hm
                exact hv)
            refine ⟨rs, a, b, ?_⟩
            rw [escS_append, List.length_append, hlen, a7, bytesAt_length] at c
            omega
/-- What is read of a text is UTF-8, and is written no longer. -/
theorem text_back {s : ByteArray} {i j : Nat} {l : List Int} (h : text s i = .ok l j) : utfFrom (str l) 0 = true ∧ restAt (str l) 0 = l ∧ i + (quoteS (str l)).length ≤ j := by
  obtain ⟨rs, a, b, c⟩ := textN_back _ _ _ _ _ [] h rfl (by simp)
  have hb : restAt (str l) 0 = l := by rw [b]; exact restAt_str (enc_byte rs)
  refine ⟨by rw [b]; exact valid_str a, hb, ?_⟩
  unfold quoteS
  rw [hb]
  simp [escS] at c ⊢
  omega
end
end Go.Proofs.YtlbilofnbhhmjaaGreatDoor
