/- Numbers that are cut out of a text, or stand in one, are read as alone. No program in it. -/
import Derived.Test.YtlbilofnbhhmjaaGreatDoorSpec
namespace Go.Proofs.YtlbilofnbhhmjaaGreatDoor
set_option linter.unusedVariables false
set_option linter.unusedSimpArgs false
/-- The text t stands in s from i on. -/
def Fits (s : ByteArray) (i : Nat) (t : ByteArray) : Prop := ∀ k, k < t.size → ch s (i + k) = ch t k
/-- No number goes on with this byte. -/
def stopC (c : Int) : Prop := digitB c = false ∧ c ≠ 46 ∧ c ≠ 101 ∧ c ≠ 69
theorem digit0 : digitB 0 = false := rfl
theorem digits_fit {s t : ByteArray} {i : Nat} (h : Fits s i t) (hs : digitB (ch s (i + t.size)) = false) : ∀ (d k : Nat), t.size - k ≤ d → k ≤ t.size → digits s (i + k) = i + digits t k
  | d, k, hd, hk => by
    by_cases he : k = t.size
    · subst he
      rw [digits_stop hs, digits_stop (by rw [ch_out (Nat.le_refl _)]; rfl)]
    · have hlt : k < t.size := by omega
      have hc := h k hlt
      match d, hd with
      | 0, hd => omega
      | d + 1, hd =>
        by_cases hg : digitB (ch t k) = true
        · rw [digits_go hg, digits_go (by rw [hc]; exact hg), show i + k + 1 = i + (k + 1) by omega]
          exact digits_fit h hs d (k + 1) (by omega) (by omega)
        · have hg : digitB (ch t k) = false := by simpa using hg
          rw [digits_stop hg, digits_stop (by rw [hc]; exact hg)]
theorem run1_at {s : ByteArray} {i j : Nat} (h : run1 s i = .ok () j) : digits s i = j ∧ i < j := by
  unfold run1 at h
  split at h
  · cases h
  · rename_i hne
    cases h
    have := digits_ge s i
    exact ⟨rfl, by omega⟩
theorem run1_mk {s : ByteArray} {i j : Nat} (h : digits s i = j) (hlt : i < j) : run1 s i = .ok () j := by
  unfold run1; rw [h, if_neg (by omega)]
theorem run1_fit {s t : ByteArray} {i k j : Nat} (h : Fits s i t) (hs : digitB (ch s (i + t.size)) = false) (hk : k ≤ t.size) (hr : run1 t k = .ok () j) : run1 s (i + k) = .ok () (i + j) ∧ j ≤ t.size := by
  obtain ⟨h1, h2⟩ := run1_at hr
  have := digits_le hk
  exact ⟨run1_mk (by rw [digits_fit h hs _ k (Nat.le_refl _) hk, h1]) (by omega), by omega⟩
theorem numExp_fit {s t : ByteArray} {i k : Nat} (h : Fits s i t) (hs : stopC (ch s (i + t.size))) (hk : k ≤ t.size) (hr : numExp t k = .ok () t.size) : numExp s (i + k) = .ok () (i + t.size) := by
  unfold numExp at hr ⊢
  by_cases he : ch t k = 101 ∨ ch t k = 69
  · have hlt : k < t.size := ch_pos (by rcases he with e | e <;> rw [e] <;> decide)
    rw [if_pos he] at hr
    rw [if_pos (by rw [h k hlt]; exact he)]
    by_cases hlt2 : k + 1 < t.size
    · have hc := h (k + 1) hlt2
      rw [show i + k + 1 = i + (k + 1) by omega, hc]
      by_cases hp : ch t (k + 1) = 43 ∨ ch t (k + 1) = 45
      · rw [if_pos hp] at hr ⊢
        rw [show i + k + 2 = i + (k + 2) by omega]
        exact (run1_fit h hs.1 (by omega) hr).1
      · rw [if_neg hp] at hr ⊢
        exact (run1_fit h hs.1 (by omega) hr).1
    · exfalso
      rw [if_neg (by rw [ch_out (by omega)]; omega)] at hr
      have := run1_at hr
      omega
  · rw [if_neg he] at hr
    cases hr
    rw [if_neg (by intro e; rcases e with e | e; exact hs.2.2.1 e; exact hs.2.2.2 e)]
theorem numFrac_fit {s t : ByteArray} {i k : Nat} (h : Fits s i t) (hs : stopC (ch s (i + t.size))) (hk : k ≤ t.size) (hr : numFrac t k = .ok () t.size) : numFrac s (i + k) = .ok () (i + t.size) := by
  unfold numFrac at hr ⊢
  by_cases he : ch t k = 46
  · have hlt : k < t.size := ch_pos (by rw [he]; decide)
    rw [if_pos he] at hr
    rw [if_pos (by rw [h k hlt]; exact he)]
    cases hq : run1 t (k + 1) with
    | no a b => rw [hq] at hr; cases hr
    | ok u j =>
      rw [hq] at hr
      obtain ⟨h1, h2⟩ := run1_fit h hs.1 (by omega) hq
      rw [show i + k + 1 = i + (k + 1) by omega, h1]
      exact numExp_fit h hs h2 hr
  · rw [if_neg he] at hr
    have hne : ¬ ch s (i + k) = 46 := by
      by_cases hlt : k < t.size
      · rw [h k hlt]; exact he
      · obtain rfl : k = t.size := by omega
        exact hs.2.1
    rw [if_neg hne]
    exact numExp_fit h hs hk hr
theorem numInt_fit {s t : ByteArray} {i k : Nat} (h : Fits s i t) (hs : stopC (ch s (i + t.size))) (hk : k ≤ t.size) (hr : numInt t k = .ok () t.size) : numInt s (i + k) = .ok () (i + t.size) := by
  unfold numInt at hr ⊢
  by_cases he : ch t k = 48
  · have hlt : k < t.size := ch_pos (by rw [he]; decide)
    rw [if_pos he] at hr
    rw [if_pos (by rw [h k hlt]; exact he), show i + k + 1 = i + (k + 1) by omega]
    exact numFrac_fit h hs (by omega) hr
  · rw [if_neg he] at hr
    cases hq : run1 t k with
    | no a b => rw [hq] at hr; cases hr
    | ok u j =>
      rw [hq] at hr
      obtain ⟨h1, h2⟩ := run1_fit h hs.1 hk hq
      have hlt : k < t.size := by have := run1_at hq; omega
      rw [if_neg (by rw [h k hlt]; exact he), h1]
      exact numFrac_fit h hs h2 hr
/-- A number that stands in a text is read whole. -/
theorem num_fit {s t : ByteArray} {i : Nat} (h : Fits s i t) (hs : stopC (ch s (i + t.size))) (hr : num t 0 = .ok () t.size) : num s i = .ok () (i + t.size) := by
  unfold num at hr ⊢
  by_cases he : ch t 0 = 45
  · have hlt : 0 < t.size := ch_pos (by rw [he]; decide)
    rw [if_pos he] at hr
    rw [if_pos (by rw [← Nat.add_zero i, h 0 hlt]; exact he)]
    exact numInt_fit h hs (by omega) hr
  · rw [if_neg he] at hr
    by_cases hlt : 0 < t.size
    · rw [if_neg (by rw [← Nat.add_zero i, h 0 hlt]; exact he)]
      exact numInt_fit h hs (by omega) hr
    · exfalso
      unfold numInt at hr
      rw [if_neg (by rw [ch_out (by omega)]; decide), show run1 t 0 = .no 0 130 from by unfold run1; rw [digits_stop (by rw [ch_out (by omega)]; rfl), if_pos rfl]] at hr
      cases hr
/-! ### Cut out -/
theorem ch_extract (s : ByteArray) {i j k : Nat} (hj : j ≤ s.size) (hk : i + k < j) : ch (s.extract i j) k = ch s (i + k) := by
  rw [ch_in (by rw [ByteArray.size_extract]; omega), ch_in (by omega)]
  simp [ByteArray.getElem_extract]
theorem size_cut {s : ByteArray} {i j : Nat} (hj : j ≤ s.size) : (s.extract i j).size = j - i := by rw [ByteArray.size_extract]; omega
section
variable {s : ByteArray} {i j : Nat}
theorem digits_cut (hj : j ≤ s.size) : ∀ (d k m : Nat), m - k ≤ d → digits s (i + k) = i + m → i + m ≤ j → digits (s.extract i j) k = m
  | d, k, m, hd, h, hm => by
    have hge := digits_ge s (i + k)
    have hsz := size_cut (s := s) (i := i) hj
    by_cases hg : digitB (ch s (i + k)) = true
    · rw [digits_go hg] at h
      have h2 := digits_ge s (i + k + 1)
      match d, hd with
      | 0, hd => omega
      | d + 1, hd =>
        rw [digits_go (by rw [ch_extract s hj (by omega)]; exact hg)]
        exact digits_cut hj d (k + 1) m (by omega) (by rw [show i + (k + 1) = i + k + 1 by omega]; exact h) hm
    · have hg : digitB (ch s (i + k)) = false := by simpa using hg
      rw [digits_stop hg] at h
      obtain rfl : k = m := by omega
      apply digits_stop
      by_cases hlt : i + k < j
      · rw [ch_extract s hj hlt]; exact hg
      · rw [ch_out (by omega)]; rfl
theorem run1_cut (hj : j ≤ s.size) {p q : Nat} (hi : i ≤ p) (hr : run1 s p = .ok () q) (hq : q ≤ j) : run1 (s.extract i j) (p - i) = .ok () (q - i) := by
  obtain ⟨h1, h2⟩ := run1_at hr
  refine run1_mk (digits_cut hj (q - i) (p - i) (q - i) (by omega) ?_ (by omega)) (by omega)
  rw [show i + (p - i) = p by omega, h1]; omega
theorem numExp_ge {p q : Nat} (h : numExp s p = .ok () q) : p ≤ q := by
  unfold numExp at h
  split at h
  · have := run1_at h
    split at this <;> omega
  · cases h; omega
theorem numFrac_ge {p q : Nat} (h : numFrac s p = .ok () q) : p ≤ q := by
  unfold numFrac at h
  split at h
  · split at h
    · rename_i u k hk
      have := run1_at hk
      have := numExp_ge h
      omega
    · cases h
  · exact numExp_ge h
theorem numExp_cut (hj : j ≤ s.size) {p : Nat} (hi : i ≤ p) (hr : numExp s p = .ok () j) : numExp (s.extract i j) (p - i) = .ok () (j - i) := by
  have hsz := size_cut (s := s) (i := i) hj
  unfold numExp at hr ⊢
  by_cases he : ch s p = 101 ∨ ch s p = 69
  · rw [if_pos he] at hr
    have hlt : p + 1 < j := by have := run1_at hr; split at this <;> omega
    have e1 : ch (s.extract i j) (p - i) = ch s p := by rw [ch_extract s hj (by omega)]; congr 1; omega
    have e2 : ch (s.extract i j) (p - i + 1) = ch s (p + 1) := by rw [ch_extract s hj (by omega)]; congr 1; omega
    rw [if_pos (by rw [e1]; exact he), e2]
    by_cases hp : ch s (p + 1) = 43 ∨ ch s (p + 1) = 45
    · rw [if_pos hp] at hr ⊢
      rw [show p - i + 2 = p + 2 - i by omega]
      exact run1_cut hj (by omega) hr (Nat.le_refl _)
    · rw [if_neg hp] at hr ⊢
      rw [show p - i + 1 = p + 1 - i by omega]
      exact run1_cut hj (by omega) hr (Nat.le_refl _)
  · rw [if_neg he] at hr
    cases hr
    rw [if_neg (by rw [ch_out (by omega)]; omega)]
theorem numFrac_cut (hj : j ≤ s.size) {p : Nat} (hi : i ≤ p) (hr : numFrac s p = .ok () j) : numFrac (s.extract i j) (p - i) = .ok () (j - i) := by
  have hsz := size_cut (s := s) (i := i) hj
  have hge := numFrac_ge hr
  unfold numFrac at hr ⊢
  by_cases he : ch s p = 46
  · rw [if_pos he] at hr
    cases hq : run1 s (p + 1) with
    | no a b => rw [hq] at hr; cases hr
    | ok u q =>
      rw [hq] at hr
      have h1 := run1_at hq
      have h2 := numExp_ge hr
      have e1 : ch (s.extract i j) (p - i) = ch s p := by rw [ch_extract s hj (by omega)]; congr 1; omega
      rw [if_pos (by rw [e1]; exact he), show p - i + 1 = p + 1 - i by omega, run1_cut hj (by omega) hq h2]
      exact numExp_cut hj (by omega) hr
  · rw [if_neg he] at hr
    have hne : ¬ ch (s.extract i j) (p - i) = 46 := by
      by_cases hlt : p < j
      · rw [ch_extract s hj (by omega), show i + (p - i) = p by omega]; exact he
      · rw [ch_out (by omega)]; decide
    rw [if_neg hne]
    exact numExp_cut hj hi hr
theorem numInt_cut (hj : j ≤ s.size) {p : Nat} (hi : i ≤ p) (hr : numInt s p = .ok () j) : numInt (s.extract i j) (p - i) = .ok () (j - i) ∧ p < j := by
  have hsz := size_cut (s := s) (i := i) hj
  unfold numInt at hr ⊢
  by_cases he : ch s p = 48
  · rw [if_pos he] at hr
    have h2 := numFrac_ge hr
    have e1 : ch (s.extract i j) (p - i) = ch s p := by rw [ch_extract s hj (by omega)]; congr 1; omega
    rw [if_pos (by rw [e1]; exact he), show p - i + 1 = p + 1 - i by omega]
    exact ⟨numFrac_cut hj (by omega) hr, by omega⟩
  · rw [if_neg he] at hr
    cases hq : run1 s p with
    | no a b => rw [hq] at hr; cases hr
    | ok u q =>
      rw [hq] at hr
      have h1 := run1_at hq
      have h2 := numFrac_ge hr
      have e1 : ch (s.extract i j) (p - i) = ch s p := by rw [ch_extract s hj (by omega)]; congr 1; omega
      rw [if_neg (by rw [e1]; exact he), run1_cut hj (by omega) hq h2]
      exact ⟨numFrac_cut hj (by omega) hr, by omega⟩
/-- A number that was read is a number, cut out. -/
theorem num_cut (hj : j ≤ s.size) (hr : num s i = .ok () j) : num (s.extract i j) 0 = .ok () (s.extract i j).size ∧ i < j := by
  have hsz := size_cut (s := s) (i := i) hj
  rw [hsz]
  unfold num at hr ⊢
  by_cases he : ch s i = 45
  · rw [if_pos he] at hr
    obtain ⟨h1, h2⟩ := numInt_cut (i := i) hj (by omega) hr
    have e1 : ch (s.extract i j) 0 = ch s i := by rw [ch_extract s hj (by omega)]; rfl
    rw [if_pos (by rw [e1]; exact he)]
    rw [show i + 1 - i = 0 + 1 by omega] at h1
    exact ⟨h1, by omega⟩
  · rw [if_neg he] at hr
    obtain ⟨h1, h2⟩ := numInt_cut (i := i) hj (by omega) hr
    have e1 : ch (s.extract i j) 0 = ch s i := by rw [ch_extract s hj (by omega)]; rfl
    rw [if_neg (by rw [e1]; exact he)]
    rw [show i - i = 0 by omega] at h1
    exact ⟨h1, h2⟩
end
end Go.Proofs.YtlbilofnbhhmjaaGreatDoor
