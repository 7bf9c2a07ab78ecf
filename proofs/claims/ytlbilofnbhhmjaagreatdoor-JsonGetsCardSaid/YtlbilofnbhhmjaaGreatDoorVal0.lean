/- Values, in plain Lean: where a number, a word, a list, a value ends. -/
import Derived.Test.YtlbilofnbhhmjaaGreatDoorObject
namespace Go.Proofs.YtlbilofnbhhmjaaGreatDoor
open Go.RowKit
set_option linter.unusedVariables false
set_option linter.unusedSimpArgs false
/-- Where a stage of a number leads to. -/
def NumTo (s : ByteArray) (i : Nat) (r : R Unit) : Prop :=
  match r with
  | .ok _ j => i ≤ j ∧ j ≤ s.size
  | .no j e => i ≤ j ∧ j ≤ s.size ∧ e = 130
theorem NumTo.mono {s : ByteArray} {i k : Nat} {r : R Unit} (h : NumTo s k r) (hi : i ≤ k) : NumTo s i r := by
  cases r with
  | ok u j => exact ⟨by have := h.1; omega, h.2⟩
  | no j e => exact ⟨by have := h.1; omega, h.2⟩
theorem run1_to {s : ByteArray} {i : Nat} (hi : i ≤ s.size) : NumTo s i (run1 s i) := by
  cases h : run1 s i with
  | ok u j => have := run1_ok h; exact ⟨by omega, this.2 hi⟩
  | no j e => obtain ⟨rfl, rfl⟩ := run1_no h; exact ⟨Nat.le_refl _, hi, rfl⟩
theorem numExp_to {s : ByteArray} {i : Nat} (hi : i ≤ s.size) : NumTo s i (numExp s i) := by
  unfold numExp
  split
  · rename_i h
    have h1 := ch_pos (s := s) (i := i) (by rcases h with h | h <;> omega)
    split
    · rename_i h2
      have := ch_pos (s := s) (i := i + 1) (by rcases h2 with h | h <;> omega)
      exact (run1_to (by omega)).mono (by omega)
    · exact (run1_to (by omega)).mono (by omega)
  · exact ⟨Nat.le_refl _, hi⟩
theorem numFrac_to {s : ByteArray} {i : Nat} (hi : i ≤ s.size) : NumTo s i (numFrac s i) := by
  unfold numFrac
  split
  · rename_i h
    have h1 := ch_pos (s := s) (i := i) (by omega)
    have hr := run1_to (s := s) (i := i + 1) (by omega)
    cases hx : run1 s (i + 1) with
    | ok u j => rw [hx] at hr; exact (numExp_to hr.2).mono (by have := hr.1; omega)
    | no j e => rw [hx] at hr; exact hr.mono (by omega)
  · exact numExp_to hi
theorem numInt_to {s : ByteArray} {i : Nat} (hi : i ≤ s.size) : NumTo s i (numInt s i) ∧ ∀ u j, numInt s i = .ok u j → i < j := by
  unfold numInt
  split
  · rename_i h
    have h1 := ch_pos (s := s) (i := i) (by omega)
    have hr := numFrac_to (s := s) (i := i + 1) (by omega)
    exact ⟨hr.mono (by omega), fun u j h => by rw [h] at hr; have := hr.1; omega⟩
  · have hr := run1_to (s := s) (i := i) hi
    cases hx : run1 s i with
    | ok u j =>
      rw [hx] at hr
      have h3 := (run1_ok hx).1
      have h4 := numFrac_to (s := s) (i := j) hr.2
      exact ⟨h4.mono (by omega), fun u k h => by simp only at h; rw [h] at h4; have := h4.1; omega⟩
    | no j e => rw [hx] at hr; exact ⟨hr, fun u j h => by cases h⟩
theorem num_to {s : ByteArray} {i : Nat} (hi : i ≤ s.size) : NumTo s i (num s i) ∧ ∀ u j, num s i = .ok u j → i < j := by
  unfold num
  split
  · rename_i h
    have h1 := ch_pos (s := s) (i := i) (by omega)
    obtain ⟨a, b⟩ := numInt_to (s := s) (i := i + 1) (by omega)
    exact ⟨a.mono (by omega), fun u j h => by have := b u j h; omega⟩
  · exact numInt_to hi
theorem wordAt_ok {s wd : ByteArray} (hz : ∀ k, k < wd.size → ch wd k ≠ 0) : ∀ {f i j : Nat} {u : Unit}, f ≤ wd.size → i ≤ s.size → wordAt s wd f i = .ok u j → j = i + f ∧ j ≤ s.size
  | 0, i, j, u, _, hi, h => by simp [wordAt] at h; omega
  | f + 1, i, j, u, hf, hi, h => by
    unfold wordAt at h
    split at h
    · rename_i hc
      have h1 := ch_pos (s := s) (i := i) (by rw [hc]; exact hz _ (by omega))
      obtain ⟨a, b⟩ := wordAt_ok hz (by omega) (by omega) h
      exact ⟨by omega, b⟩
    · cases h
theorem word_ok {s wd : ByteArray} {i j : Nat} {u : Unit} (hz : ∀ k, k < wd.size → ch wd k ≠ 0) (hi : i ≤ s.size) (h : word s wd i = .ok u j) : j = i + wd.size ∧ j ≤ s.size := wordAt_ok hz (Nat.le_refl _) hi h
theorem hzTrue : ∀ k, k < (⟨#[116, 114, 117, 101]⟩ : ByteArray).size → ch ⟨#[116, 114, 117, 101]⟩ k ≠ 0 := by decide
theorem hzFalse : ∀ k, k < (⟨#[102, 97, 108, 115, 101]⟩ : ByteArray).size → ch ⟨#[102, 97, 108, 115, 101]⟩ k ≠ 0 := by decide
theorem hzNull : ∀ k, k < (⟨#[110, 117, 108, 108]⟩ : ByteArray).size → ch ⟨#[110, 117, 108, 108]⟩ k ≠ 0 := by decide
theorem items_fwd {s : ByteArray} {val : Nat → R J} (hv : ∀ i v j, i ≤ s.size → val i = .ok v j → i < j ∧ j ≤ s.size) (obj : Bool) :
    ∀ {f q : Nat} {ks : List ByteArray} {ls : List J} {v : J} {j : Nat}, q ≤ s.size → itemsN s val obj f q ks ls = .ok v j → q < j ∧ j ≤ s.size
  | 0, q, ks, ls, v, j, hq, h => by simp [itemsN] at h
  | f + 1, q, ks, ls, v, j, hq, h => by
    have tail : ∀ {a : Nat} {k2 : List ByteArray} {l2 : List J} {v2 : J} {c kd : Int} {fin : J}, c = 93 ∨ c = 125 → a ≤ s.size → q < a →
        (if ch s (skip s a) = c then R.ok fin (skip s a + 1) else if ch s (skip s a) = 44 then itemsN s val obj f (skip s (skip s a + 1)) k2 l2 else .no (skip s a) 130) = .ok v j → q < j ∧ j ≤ s.size := by
      intro a k2 l2 v2 c kd fin hc ha hqa h
      have h1 := skip_ge s a
      split at h
      · rename_i h2
        have := ch_pos (s := s) (i := skip s a) (by rcases hc with e | e <;> omega)
        injection h with _ e
        omega
      · split at h
        · rename_i h2
          have h3 := ch_pos (s := s) (i := skip s a) (by omega)
          have := skip_ge s (skip s a + 1)
          obtain ⟨p1, p2⟩ := items_fwd hv obj (skip_le (by omega)) h
          exact ⟨by omega, p2⟩
        · cases h
    cases obj with
    | true =>
      rw [itemsN.eq_def s val true (f + 1)] at h
      simp only [if_true] at h
      cases hk : jkey s ks q with
      | no a e => rw [hk] at h; cases h
      | ok k a =>
        rw [hk] at h
        obtain ⟨g1, g2, _⟩ := jkey_ok hq hk
        simp only at h
        cases hx : val a with
        | no a e => rw [hx] at h; cases h
        | ok v a2 =>
          rw [hx] at h
          obtain ⟨p1, p2⟩ := hv a _ _ g2 hx
          exact tail (c := 125) (v2 := v) (kd := 0) (.inr rfl) p2 (by omega) h
    | false =>
      rw [itemsN.eq_def s val false (f + 1)] at h
      simp only [Bool.false_eq_true, if_false] at h
      split at h
      · cases h
      · cases hx : val q with
        | no a e => rw [hx] at h; cases h
        | ok v a2 =>
          rw [hx] at h
          obtain ⟨p1, p2⟩ := hv q _ _ hq hx
          exact tail (c := 93) (v2 := v) (kd := 0) (.inl rfl) p2 (by omega) h
theorem members_fwd {s : ByteArray} {val : Nat → R J} (hv : ∀ i v j, i ≤ s.size → val i = .ok v j → i < j ∧ j ≤ s.size) {obj : Bool} {i j : Nat} {v : J} (hi : i < s.size) (h : members s val obj i = .ok v j) : i < j ∧ j ≤ s.size := by
  unfold members at h
  have h1 := skip_ge s (i + 1)
  have h2 := skip_le (s := s) (i := i + 1) (by omega)
  have tail : ∀ {c : Int} {fin : J}, c = 93 ∨ c = 125 → (if ch s (skip s (i + 1)) = c then R.ok fin (skip s (i + 1) + 1) else itemsN s val obj (s.size + 1) (skip s (i + 1)) [] []) = .ok v j → i < j ∧ j ≤ s.size := by
    intro c fin hc h
    split at h
    · rename_i h2
      have := ch_pos (s := s) (i := skip s (i + 1)) (by rcases hc with e | e <;> omega)
      injection h with _ e
      omega
    · obtain ⟨a, b⟩ := items_fwd hv obj h2 h
      exact ⟨by omega, b⟩
  cases obj with
  | true => exact tail (.inr rfl) h
  | false => exact tail (.inl rfl) h
theorem value_begins (s : ByteArray) (d i : Nat) (h : beginsB (ch s i) = false) : value s d i = .no i 130 := by
  cases d with
  | zero => unfold value; rw [if_neg (by rw [h]; simp)]
  | succ d => unfold value; rw [if_pos h]
/-- What a value reads, way by way. -/
structure ValueIs (s : ByteArray) (d i : Nat) (RES : R J) : Prop where
  obj : ch s i = 123 → members s (value s d) true i = RES
  list : ch s i = 91 → members s (value s d) false i = RES
  textOk : ch s i = 34 → ∀ l j, text s i = .ok l j → RES = .ok (.mk 3 false (str l) [] []) j
  textNo : ch s i = 34 → ∀ j e, text s i = .no j e → RES = .no j e
  trueOk : ch s i = 116 → ∀ u j, word s ⟨#[116, 114, 117, 101]⟩ i = .ok u j → RES = .ok (.mk 1 true ⟨#[]⟩ [] []) j
  trueNo : ch s i = 116 → ∀ j e, word s ⟨#[116, 114, 117, 101]⟩ i = .no j e → RES = .no j e
  falseOk : ch s i = 102 → ∀ u j, word s ⟨#[102, 97, 108, 115, 101]⟩ i = .ok u j → RES = .ok (.mk 1 false ⟨#[]⟩ [] []) j
  falseNo : ch s i = 102 → ∀ j e, word s ⟨#[102, 97, 108, 115, 101]⟩ i = .no j e → RES = .no j e
  nullOk : ch s i = 110 → ∀ u j, word s ⟨#[110, 117, 108, 108]⟩ i = .ok u j → RES = .ok (.mk 0 false ⟨#[]⟩ [] []) j
  nullNo : ch s i = 110 → ∀ j e, word s ⟨#[110, 117, 108, 108]⟩ i = .no j e → RES = .no j e
  numOk : ch s i ≠ 123 → ch s i ≠ 91 → ch s i ≠ 34 → ch s i ≠ 116 → ch s i ≠ 102 → ch s i ≠ 110 → ∀ u j, num s i = .ok u j → RES = .ok (.mk 2 false (s.extract i j) [] []) j
  numNo : ch s i ≠ 123 → ch s i ≠ 91 → ch s i ≠ 34 → ch s i ≠ 116 → ch s i ≠ 102 → ch s i ≠ 110 → ∀ j e, num s i = .no j e → RES = .no j e
theorem valueIs {s : ByteArray} {d i : Nat} (hb : beginsB (ch s i) = true) : ValueIs s d i (value s (d + 1) i) := by
  have h0 : ¬ beginsB (ch s i) = false := by rw [hb]; simp
  constructor
  · intro h; unfold value; rw [if_neg h0, if_pos h]
  · intro h; unfold value; rw [if_neg h0, if_neg (by omega), if_pos h]
  · intro h l j hx; unfold value; rw [if_neg h0, if_neg (by omega), if_neg (by omega), if_pos h, hx]
  · intro h l j hx; unfold value; rw [if_neg h0, if_neg (by omega), if_neg (by omega), if_pos h, hx]
  · intro h l j hx; unfold value; rw [if_neg h0, if_neg (by omega), if_neg (by omega), if_neg (by omega), if_pos h, hx]
  · intro h l j hx; unfold value; rw [if_neg h0, if_neg (by omega), if_neg (by omega), if_neg (by omega), if_pos h, hx]
  · intro h l j hx; unfold value; rw [if_neg h0, if_neg (by omega), if_neg (by omega), if_neg (by omega), if_neg (by omega), if_pos h, hx]
  · intro h l j hx; unfold value; rw [if_neg h0, if_neg (by omega), if_neg (by omega), if_neg (by omega), if_neg (by omega), if_pos h, hx]
  · intro h l j hx; unfold value; rw [if_neg h0, if_neg (by omega), if_neg (by omega), if_neg (by omega), if_neg (by omega), if_neg (by omega), if_pos h, hx]
  · intro h l j hx; unfold value; rw [if_neg h0, if_neg (by omega), if_neg (by omega), if_neg (by omega), if_neg (by omega), if_neg (by omega), if_pos h, hx]
  · intro h1 h2 h3 h4 h5 h6 l j hx; unfold value; rw [if_neg h0, if_neg h1, if_neg h2, if_neg h3, if_neg h4, if_neg h5, if_neg h6, hx]
  · intro h1 h2 h3 h4 h5 h6 l j hx; unfold value; rw [if_neg h0, if_neg h1, if_neg h2, if_neg h3, if_neg h4, if_neg h5, if_neg h6, hx]
theorem value_fwd (s : ByteArray) : ∀ d i v j, i ≤ s.size → value s d i = .ok v j → i < j ∧ j ≤ s.size
  | 0, i, v, j, hi, h => by unfold value at h; split at h <;> cases h
  | d + 1, i, v, j, hi, h => by
    cases hb : beginsB (ch s i) with
    | false => rw [value_begins s _ i hb] at h; cases h
    | true =>
      have hlt := ch_pos (s := s) (i := i) (fun e => by rw [e] at hb; cases hb)
      have hI := valueIs (d := d) hb
      rw [h] at hI
      by_cases h1 : ch s i = 123
      · exact members_fwd (value_fwd s d) hlt (hI.obj h1)
      by_cases h2 : ch s i = 91
      · exact members_fwd (value_fwd s d) hlt (hI.list h2)
      by_cases h3 : ch s i = 34
      · cases hx : text s i with
        | ok l a => have := hI.textOk h3 _ _ hx; injection this with _ e; obtain ⟨p, q, _⟩ := text_ok hlt hx; omega
        | no a e => have := hI.textNo h3 _ _ hx; cases this
      by_cases h4 : ch s i = 116
      · cases hx : word s ⟨#[116, 114, 117, 101]⟩ i with
        | ok l a => have := hI.trueOk h4 _ _ hx; injection this with _ e; obtain ⟨p, q⟩ := word_ok hzTrue hi hx; have : (⟨#[116, 114, 117, 101]⟩ : ByteArray).size = 4 := rfl; omega
        | no a e => have := hI.trueNo h4 _ _ hx; cases this
      by_cases h5 : ch s i = 102
      · cases hx : word s ⟨#[102, 97, 108, 115, 101]⟩ i with
        | ok l a => have := hI.falseOk h5 _ _ hx; injection this with _ e; obtain ⟨p, q⟩ := word_ok hzFalse hi hx; have : (⟨#[102, 97, 108, 115, 101]⟩ : ByteArray).size = 5 := rfl; omega
        | no a e => have := hI.falseNo h5 _ _ hx; cases this
      by_cases h6 : ch s i = 110
      · cases hx : word s ⟨#[110, 117, 108, 108]⟩ i with
        | ok l a => have := hI.nullOk h6 _ _ hx; injection this with _ e; obtain ⟨p, q⟩ := word_ok hzNull hi hx; have : (⟨#[110, 117, 108, 108]⟩ : ByteArray).size = 4 := rfl; omega
        | no a e => have := hI.nullNo h6 _ _ hx; cases this
      · cases hx : num s i with
        | ok l a => have := hI.numOk h1 h2 h3 h4 h5 h6 _ _ hx; injection this with _ e; obtain ⟨p, q⟩ := num_to hi; rw [hx] at p; have := q _ _ hx; have := p.2; omega
        | no a e => have := hI.numNo h1 h2 h3 h4 h5 h6 _ _ hx; cases this
end Go.Proofs.YtlbilofnbhhmjaaGreatDoor
