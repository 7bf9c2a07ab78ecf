/- Whole numbers, in plain Lean: what a number's text comes to, as the reference counts it and as the library does. No program in it. -/
import Derived.Test.YtlbilofnbhhmjaaGreatDoorPNum
import Derived.Test.YtlbilofnbhhmjaaGreatDoorShape
import Derived.Lib.ParseIntB
import Derived.Lib.IndexAny
namespace Go.Proofs.YtlbilofnbhhmjaaGreatDoor
set_option linter.unusedVariables false
set_option linter.unusedSimpArgs false
/-- Is there a dot, or an e? -/
def dotC (c : Int) : Prop := c = 46 ∨ c = 101 ∨ c = 69
def dotted (s : ByteArray) : Prop := ∃ i, i < s.size ∧ dotC (ch s i)
/-- The value of the digits from a place up to another. -/
def decN (s : ByteArray) (i : Nat) : Nat → Nat
  | 0 => 0
  | n + 1 => decN s i n * 10 + (ch s (i + n) - 48).toNat
def minusB (s : ByteArray) : Bool := decide (ch s 0 = 45)
def startN (s : ByteArray) : Nat := if ch s 0 = 45 then 1 else 0
/-- The digits' value up to a place. -/
def upto (s : ByteArray) (k : Nat) : Nat := decN s (startN s) (k - startN s)
def mostN (s : ByteArray) : Nat := if ch s 0 = 45 then 9223372036854775808 else 9223372036854775807
theorem digits_all (s : ByteArray) : ∀ (n i : Nat), s.size - i ≤ n → ∀ k, i ≤ k → k < Go.Proofs.YtlbilofnbhhmjaaGreatDoor.digits s i → digitB (ch s k) = true
  | 0, i, h, k, hk, hd => by
    have h0 : ch s i = 0 := ch_out (by omega)
    rw [digits_stop (by rw [h0]; rfl)] at hd
    omega
  | n + 1, i, h, k, hk, hd => by
    by_cases hb : digitB (ch s i) = true
    · by_cases e : k = i
      · rw [e]; exact hb
      · have hi : i < s.size := ch_pos (fun e => by rw [e] at hb; cases hb)
        rw [digits_go hb] at hd
        exact digits_all s n (i + 1) (by omega) k (by omega) hd
    · rw [digits_stop (by simpa using hb)] at hd
      omega
theorem numExp_plain {s : ByteArray} {i j : Nat} (hd : ¬ dotted s) (h : numExp s i = .ok () j) : i = j := by
  unfold numExp at h
  split at h
  · rename_i h1
    exact absurd ⟨i, ch_pos (by omega), by unfold dotC; omega⟩ hd
  · cases h; rfl
theorem numFrac_plain {s : ByteArray} {i j : Nat} (hd : ¬ dotted s) (h : numFrac s i = .ok () j) : i = j := by
  unfold numFrac at h
  split at h
  · rename_i h1
    exact absurd ⟨i, ch_pos (by omega), by unfold dotC; omega⟩ hd
  · exact numExp_plain hd h
/-- A number without a dot or an e: a minus or none, and digits. -/
theorem num_plain {s : ByteArray} (h : numB s = true) (hd : ¬ dotted s) : startN s < s.size ∧ ∀ k, startN s ≤ k → k < s.size → digitB (ch s k) = true := by
  have h0 : num s 0 = .ok () s.size := by
    unfold numB at h
    cases e : num s 0 with
    | ok a j =>
      rw [e] at h
      unfold numV at h
      have : j = s.size := by have h1 : (j : Int) = (s.size : Int) := by simpa using h
                              omega
      rw [this]
    | no j e2 =>
      rw [e] at h
      unfold numV at h
      have h1 : -1 - (j : Int) = (s.size : Int) := by simpa using h
      omega
  unfold num at h0
  rw [show (if ch s 0 = 45 then 0 + 1 else 0) = startN s by unfold startN; rfl] at h0
  unfold numInt at h0
  split at h0
  · rename_i h48
    have := numFrac_plain hd h0
    refine ⟨by omega, fun k h1 h2 => ?_⟩
    rw [show k = startN s by omega, h48]
    rfl
  · split at h0
    · rename_i a j e
      have hj := numFrac_plain hd h0
      obtain ⟨h1, h2⟩ := run1_at e
      refine ⟨by omega, fun k h3 h4 => digits_all s _ _ (Nat.le_refl _) k h3 (by omega)⟩
    · cases h0
theorem dotted_of {s : ByteArray} {k : Nat} (h : numB s = true) (h1 : startN s ≤ k) (h2 : k < s.size) (h3 : digitB (ch s k) = false) : dotted s := by
  apply Classical.byContradiction
  intro hn
  have := (num_plain h hn).2 k h1 h2
  rw [this] at h3
  cases h3
theorem not_dotted {s : ByteArray} (h : ∀ k, startN s ≤ k → k < s.size → digitB (ch s k) = true) : ¬ dotted s := by
  rintro ⟨i, hi, hc⟩
  by_cases h1 : startN s ≤ i
  · have := h i h1 hi
    unfold digitB at this
    simp at this
    unfold dotC at hc
    omega
  · have h2 : ch s 0 = 45 := by
      unfold startN at h1
      split at h1
      · assumption
      · omega
    have h3 : startN s = 1 := by unfold startN; rw [if_pos h2]
    have : i = 0 := by omega
    subst this
    unfold dotC at hc
    omega
theorem upto_start (s : ByteArray) : upto s (startN s) = 0 := by unfold upto; rw [Nat.sub_self]; rfl
theorem upto_step {s : ByteArray} {k : Nat} (h : startN s ≤ k) : upto s (k + 1) = upto s k * 10 + (ch s k - 48).toNat := by
  unfold upto
  rw [show k + 1 - startN s = (k - startN s) + 1 by omega]
  show decN s (startN s) (k - startN s) * 10 + (ch s (startN s + (k - startN s)) - 48).toNat = _
  rw [show startN s + (k - startN s) = k by omega]
theorem upto_mono {s : ByteArray} {k : Nat} (h : startN s ≤ k) : ∀ n, upto s k ≤ upto s (k + n)
  | 0 => Nat.le_refl _
  | n + 1 => by
    have := upto_mono h n
    rw [← Nat.add_assoc, upto_step (by omega)]
    omega
open Go.Lib in
/-- The library's digits, counted from the left. -/
theorem parseUintM_is (s : ByteArray) (n : Nat) : ∀ (k : Nat), s.size - k ≤ n → startN s ≤ k → k ≤ s.size → (∀ j, k ≤ j → j < s.size → digitB (ch s j) = true) → upto s k ≤ 18446744073709551615 →
    parseUintM 18446744073709551615 (upto s k) (s.data.toList.drop k) = if upto s s.size ≤ 18446744073709551615 then .ok (upto s s.size) else .range := by
  induction n with
  | zero =>
    intro k h1 h2 h3 h4 h5
    have : k = s.size := by omega
    subst this
    rw [List.drop_of_length_le (by simp), if_pos h5]
    rfl
  | succ n ih =>
    intro k h1 h2 h3 h4 h5
    by_cases hk : k = s.size
    · subst hk
      rw [List.drop_of_length_le (by simp), if_pos h5]
      rfl
    · have hlt : k < s.size := by omega
      have hd := h4 k (Nat.le_refl _) hlt
      have hst := upto_step h2
      have hm := upto_mono (s := s) (k := k + 1) (by omega) (s.size - (k + 1))
      rw [show k + 1 + (s.size - (k + 1)) = s.size by omega] at hm
      have hl : k < s.data.toList.length := by simpa using hlt
      rw [List.drop_eq_getElem_cons hl]
      have hc : ch s k = (s.data.toList[k].toNat : Int) := by rw [ch_in hlt]; simp; rfl
      unfold digitB at hd
      simp at hd
      unfold parseUintM
      rw [hc] at hd hst
      rw [if_pos (by omega)]
      have e : upto s k * 10 + (s.data.toList[k].toNat - 48) = upto s (k + 1) := by rw [hst]; omega
      split
      · rename_i h6
        rw [if_neg (by omega)]
      · rw [e]
        split
        · rw [if_neg (by omega)]
        · exact ih (k + 1) (by omega) (by omega) (by omega) (fun j a b => h4 j (by omega) b) (by omega)
open Go.Lib in
theorem parseIntB_is {s : ByteArray} (h0 : startN s < s.size) (h : ∀ k, startN s ≤ k → k < s.size → digitB (ch s k) = true) :
    parseIntB 64 s.data.toList = if upto s s.size ≤ mostN s then .ok (if ch s 0 = 45 then -(upto s s.size : Int) else (upto s s.size : Int)) else .range := by
  have hl : 0 < s.data.toList.length := by rw [show s.data.toList.length = s.size by simp]; omega
  have hu := parseUintM_is s _ (startN s) (Nat.le_refl _) (Nat.le_refl _) (by omega) h (by rw [upto_start]; omega)
  rw [upto_start] at hu
  have hc : ch s 0 = (s.data.toList[0].toNat : Int) := by rw [ch_in (by omega)]; simp; rfl
  obtain ⟨c, r, hs⟩ : ∃ c r, s.data.toList = c :: r := by
    cases e : s.data.toList with
    | nil => rw [e] at hl; simp at hl
    | cons c r => exact ⟨c, r, rfl⟩
  have hc0 : ch s 0 = (c.toNat : Int) := by
    rw [hc]; simp [hs]
  have hsz : s.size = r.length + 1 := by
    have : s.data.toList.length = s.size := by simp
    rw [← this, hs]; rfl
  rw [hs]
  by_cases hm : ch s 0 = 45
  · have h45 : c.toNat = 45 := by omega
    have hst : startN s = 1 := by unfold startN; rw [if_pos hm]
    rw [hst, hs, List.drop_succ_cons, List.drop_zero] at hu
    have hr : r ≠ [] := by intro e; rw [e] at hsz; simp at hsz; omega
    unfold parseIntB mostN
    simp only [h45]
    rw [if_pos (by decide)]
    unfold parseUintB
    rw [if_neg hr, show 2 ^ 64 - 1 = 18446744073709551615 from rfl, hu, if_pos hm, if_pos hm]
    by_cases a : upto s s.size ≤ 18446744073709551615
    · rw [if_pos a]
      simp only
      by_cases b : upto s s.size ≤ 9223372036854775808
      · rw [if_neg (by simp), if_neg (by simp; omega), if_pos b]; simp
      · rw [if_neg (by simp), if_pos (by simp; omega), if_neg b]
    · rw [if_neg a, if_neg (by omega)]
  · have h45 : ¬ c.toNat = 45 := by omega
    have hst : startN s = 0 := by unfold startN; rw [if_neg hm]
    have h43 : ¬ c.toNat = 43 := by
      have := h 0 (by omega) (by omega)
      unfold digitB at this
      simp at this
      omega
    rw [hst, hs, List.drop_zero] at hu
    unfold parseIntB mostN
    simp only
    rw [if_neg (by omega)]
    unfold parseUintB
    rw [if_neg (by simp), show 2 ^ 64 - 1 = 18446744073709551615 from rfl, hu, if_neg hm, if_neg hm]
    by_cases a : upto s s.size ≤ 18446744073709551615
    · rw [if_pos a]
      simp only
      by_cases b : upto s s.size ≤ 9223372036854775807
      · rw [if_neg (by omega), if_neg (by omega), if_pos b, if_neg h45]
      · rw [if_pos ⟨h45, by omega⟩, if_neg b]
    · rw [if_neg a, if_neg (by omega)]
/-- What a whole number's text comes to: the number, and what is wrong. -/
noncomputable def intT (s : ByteArray) : Int × Int :=
  open Classical in if numB s = false then (0, 130) else if dotted s then (0, 134) else if upto s s.size ≤ mostN s then (if ch s 0 = 45 then -(upto s s.size : Int) else (upto s s.size : Int), 0) else (0, 12)
theorem intT_no {s : ByteArray} (h : numB s = false) : intT s = (0, 130) := by unfold intT; rw [if_pos h]
theorem intT_dot {s : ByteArray} (h : numB s = true) (hd : dotted s) : intT s = (0, 134) := by unfold intT; rw [if_neg (by rw [h]; simp), if_pos hd]
theorem intT_ok {s : ByteArray} (h : numB s = true) (hd : ¬ dotted s) (hu : upto s s.size ≤ mostN s) : intT s = (if ch s 0 = 45 then -(upto s s.size : Int) else (upto s s.size : Int), 0) := by
  unfold intT; rw [if_neg (by rw [h]; simp), if_neg hd, if_pos hu]
theorem intT_far {s : ByteArray} (h : numB s = true) (hd : ¬ dotted s) (hu : ¬ upto s s.size ≤ mostN s) : intT s = (0, 12) := by
  unfold intT; rw [if_neg (by rw [h]; simp), if_neg hd, if_neg hu]
def asc (s : ByteArray) (i j : Nat) : Prop := ∀ k, i ≤ k → k < j → ch s k < 128
theorem asc_app {s : ByteArray} {i j k : Nat} (h1 : asc s i j) (h2 : asc s j k) : asc s i k := fun m hm hk => by
  rcases Nat.lt_or_ge m j with h | h
  · exact h1 m hm h
  · exact h2 m h hk
theorem asc_one {s : ByteArray} {i : Nat} {c : Int} (h : ch s i = c) (hc : c < 128) : asc s i (i + 1) := fun m hm hk => by
  rw [show m = i by omega, h]; exact hc
theorem asc_run {s : ByteArray} {i j : Nat} (h : run1 s i = .ok () j) : asc s i j := fun k hk hj => by
  obtain ⟨h1, h2⟩ := run1_at h
  have := digits_all s _ _ (Nat.le_refl _) k hk (by omega)
  unfold digitB at this
  simp at this
  omega
theorem asc_exp {s : ByteArray} {i j : Nat} (h : numExp s i = .ok () j) : asc s i j := by
  unfold numExp at h
  split at h
  · rename_i h1
    have a := asc_one (s := s) (i := i) rfl (by omega)
    split at h
    · rename_i h2
      exact asc_app a (asc_app (asc_one (s := s) (i := i + 1) rfl (by omega)) (asc_run h))
    · exact asc_app a (asc_run h)
  · cases h
    intro k h1 h2; omega
theorem asc_frac {s : ByteArray} {i j : Nat} (h : numFrac s i = .ok () j) : asc s i j := by
  unfold numFrac at h
  split at h
  · rename_i h1
    have a := asc_one (s := s) (i := i) h1 (by omega)
    split at h
    · rename_i u k e
      exact asc_app a (asc_app (asc_run e) (asc_exp h))
    · cases h
  · exact asc_exp h
theorem asc_num {s : ByteArray} {j : Nat} (h : num s 0 = .ok () j) : asc s 0 j := by
  have key : ∀ i, numInt s i = .ok () j → asc s i j := fun i h => by
    unfold numInt at h
    split at h
    · rename_i h1
      exact asc_app (asc_one h1 (by omega)) (asc_frac h)
    · split at h
      · rename_i u k e
        exact asc_app (asc_run e) (asc_frac h)
      · cases h
  unfold num at h
  split at h
  · rename_i h1
    exact asc_app (asc_one h1 (by omega)) (key _ h)
  · exact key _ h
theorem num_whole {s : ByteArray} (h : numB s = true) : num s 0 = .ok () s.size := by
  unfold numB at h
  cases e : num s 0 with
  | ok a j =>
    rw [e] at h
    unfold numV at h
    have : j = s.size := by have h1 : (j : Int) = (s.size : Int) := by simpa using h
                            omega
    rw [this]
  | no j e2 =>
    rw [e] at h
    unfold numV at h
    have h1 : -1 - (j : Int) = (s.size : Int) := by simpa using h
    omega
theorem num_ascii {s : ByteArray} (h : numB s = true) : ∀ (j : Nat) b, s.data.toList[j]? = some b → b.toNat < 128 := fun j b hb => by
  obtain ⟨hj, e⟩ := List.getElem?_eq_some_iff.1 hb
  have hl : j < s.size := by simpa using hj
  have := asc_num (num_whole h) j (by omega) hl
  rw [ch_in hl] at this
  have e2 : s[j] = b := by rw [← e]; simp; rfl
  rw [e2] at this
  omega
theorem dotted_any {s : ByteArray} : (Lib.containsAny s.data.toList [46, 101, 69] = true) ↔ dotted s := by
  have hin : ∀ c : UInt8, ([46, 101, 69] : List UInt8).contains c = true ↔ dotC (c.toNat : Int) := by
    intro c
    unfold dotC
    constructor
    · intro h
      simp at h
      rcases h with rfl | rfl | rfl <;> decide
    · rintro (h | h | h)
      · obtain rfl : c = 46 := UInt8.toNat_inj.1 (by show c.toNat = 46; omega); rfl
      · obtain rfl : c = 101 := UInt8.toNat_inj.1 (by show c.toNat = 101; omega); rfl
      · obtain rfl : c = 69 := UInt8.toNat_inj.1 (by show c.toNat = 69; omega); rfl
  have key : ∀ l : List UInt8, 0 ≤ Lib.indexAny l [46, 101, 69] ↔ ∃ i : Nat, ∃ c, l[i]? = some c ∧ dotC (c.toNat : Int) := by
    intro l
    induction l with
    | nil => simp [Lib.indexAny]
    | cons b l ih =>
      have hge := Lib.indexAny_ge [46, 101, 69] l
      rw [Lib.indexAny]
      by_cases hb : ([46, 101, 69] : List UInt8).contains b = true
      · rw [if_pos hb]
        exact ⟨fun _ => ⟨0, b, rfl, (hin b).1 hb⟩, fun _ => by omega⟩
      · rw [if_neg hb]
        have hnb : ¬ dotC (b.toNat : Int) := fun h => hb ((hin b).2 h)
        constructor
        · intro h
          split at h
          · omega
          · rename_i h1
            have : 0 ≤ Lib.indexAny l [46, 101, 69] := by simp at h1; omega
            obtain ⟨i, c, h2, h3⟩ := ih.1 this
            exact ⟨i + 1, c, by simpa using h2, h3⟩
        · rintro ⟨i, c, h2, h3⟩
          cases i with
          | zero => simp at h2; subst h2; exact absurd h3 hnb
          | succ i =>
            have := ih.2 ⟨i, c, by simpa using h2, h3⟩
            rw [if_neg (by simp; omega)]
            omega
  unfold Lib.containsAny dotted
  rw [decide_eq_true_iff, key]
  constructor
  · rintro ⟨i, c, h1, h2⟩
    obtain ⟨hi, e⟩ := List.getElem?_eq_some_iff.1 h1
    have hl : i < s.size := by simpa using hi
    refine ⟨i, hl, ?_⟩
    rw [ch_in hl]
    have e2 : s[i] = c := by rw [← e]; simp; rfl
    rw [e2]; exact h2
  · rintro ⟨i, hi, hc⟩
    have hl : i < s.data.toList.length := by simpa using hi
    rw [ch_in hi] at hc
    have e2 : s[i] = s.data.toList[i] := by simp; rfl
    rw [e2] at hc
    exact ⟨i, _, List.getElem?_eq_getElem hl, hc⟩
end Go.Proofs.YtlbilofnbhhmjaaGreatDoor
