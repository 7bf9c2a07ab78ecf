/- JsonLoose: the plain law and the walk (the walk's rows were printed by a program of mine). -/
import Derived.Test.YtlbilofnbhhmjaaDoorSpelt
import Derived.Test.YtlbilofnbhhmjaaDoorBack
import Derived.Test.YtlbilofnbhhmjaaDoorPVal
import Derived.BigQuiet
namespace Go.Proofs.YtlbilofnbhhmjaaDoor
set_option linter.unusedVariables false
set_option linter.unusedSimpArgs false
/-- The signs that get blanks. -/
def braB (c : Int) : Bool := c == 123 || c == 125 || c == 91 || c == 93 || c == 44 || c == 58
/-- The text with blanks: outside a text (0), within one (1), within one after a stroke (2). -/
def loose (bs : Nat → List Int) : List Int → Nat → Nat → List Int
  | [], _, _ => []
  | c :: r, st, n =>
    if st = 2 then c :: loose bs r 1 n
    else if st = 1 then c :: loose bs r (if c = 92 then 2 else if c = 34 then 0 else 1) n
    else if braB c then bs n ++ (c :: (bs (n + 1) ++ loose bs r 0 (n + 1)))
    else c :: loose bs r (if c = 34 then 1 else 0) n
theorem loose_two (bs : Nat → List Int) (c : Int) (r : List Int) (n : Nat) : loose bs (c :: r) 2 n = c :: loose bs r 1 n := by rw [loose, if_pos rfl]
theorem loose_in (bs : Nat → List Int) (c : Int) (r : List Int) (n : Nat) (h1 : c ≠ 92) (h2 : c ≠ 34) : loose bs (c :: r) 1 n = c :: loose bs r 1 n := by rw [loose, if_neg (by omega), if_pos rfl, if_neg h1, if_neg h2]
theorem loose_esc (bs : Nat → List Int) (c : Int) (r : List Int) (n : Nat) : loose bs (92 :: c :: r) 1 n = 92 :: c :: loose bs r 1 n := by rw [loose, if_neg (by omega), if_pos rfl, if_pos rfl, loose_two]
theorem loose_end (bs : Nat → List Int) (r : List Int) (n : Nat) : loose bs (34 :: r) 1 n = 34 :: loose bs r 0 n := by rw [loose, if_neg (by omega), if_pos rfl, if_neg (by omega), if_pos rfl]
theorem loose_open (bs : Nat → List Int) (r : List Int) (n : Nat) : loose bs (34 :: r) 0 n = 34 :: loose bs r 1 n := by rw [loose, if_neg (by omega), if_neg (by omega), if_neg (by decide), if_pos rfl]
theorem loose_out (bs : Nat → List Int) (c : Int) (r : List Int) (n : Nat) (h1 : braB c = false) (h2 : c ≠ 34) : loose bs (c :: r) 0 n = c :: loose bs r 0 n := by rw [loose, if_neg (by omega), if_neg (by omega), if_neg (by rw [h1]; decide), if_neg h2]
theorem loose_bra (bs : Nat → List Int) (c : Int) (r : List Int) (n : Nat) (h1 : braB c = true) : loose bs (c :: r) 0 n = bs n ++ (c :: (bs (n + 1) ++ loose bs r 0 (n + 1))) := by rw [loose, if_neg (by omega), if_neg (by omega), if_pos h1]
theorem loose_flat (bs : Nat → List Int) (n : Nat) (r : List Int) : ∀ l : List Int, (∀ c ∈ l, braB c = false ∧ c ≠ 34) → loose bs (l ++ r) 0 n = l ++ loose bs r 0 n
  | [], _ => rfl
  | c :: l, h => by
    rw [List.cons_append, loose_out bs c _ n (h c (by simp)).1 (h c (by simp)).2, loose_flat bs n r l fun x hx => h x (by simp [hx])]; rfl
theorem hexD_plain {n : Int} (h0 : 0 ≤ n) (h1 : n ≤ 15) : hexD n ≠ 92 ∧ hexD n ≠ 34 := by
  unfold hexD; split <;> omega
theorem loose_escB (bs : Nat → List Int) (n : Nat) (r : List Int) {c : Int} (h0 : 0 ≤ c) : loose bs (escB c ++ r) 1 n = escB c ++ loose bs r 1 n := by
  unfold escB
  by_cases h1 : c = 34
  · rw [if_pos h1]; exact loose_esc ..
  by_cases h2 : c = 92
  · rw [if_neg h1, if_pos h2]; exact loose_esc ..
  rw [if_neg h1, if_neg h2]
  by_cases h3 : c = 8
  · rw [if_pos h3]; exact loose_esc ..
  by_cases h4 : c = 12
  · rw [if_neg h3, if_pos h4]; exact loose_esc ..
  rw [if_neg h3, if_neg h4]
  by_cases h5 : c = 10
  · rw [if_pos h5]; exact loose_esc ..
  by_cases h6 : c = 13
  · rw [if_neg h5, if_pos h6]; exact loose_esc ..
  rw [if_neg h5, if_neg h6]
  by_cases h7 : c = 9
  · rw [if_pos h7]; exact loose_esc ..
  rw [if_neg h7]
  by_cases h8 : c < 32
  · rw [if_pos h8]
    obtain ⟨a1, a2⟩ := hexD_plain (n := c / 16) (by omega) (by omega)
    obtain ⟨b1, b2⟩ := hexD_plain (n := c % 16) (by omega) (by omega)
    show loose bs (92 :: 117 :: 48 :: 48 :: hexD (c / 16) :: hexD (c % 16) :: r) 1 n = _
    rw [loose_esc, loose_in _ _ _ _ (by decide) (by decide), loose_in _ _ _ _ (by decide) (by decide), loose_in _ _ _ _ a1 a2, loose_in _ _ _ _ b1 b2]; rfl
  · rw [if_neg h8]; exact loose_in _ _ _ _ h2 h1
theorem loose_escS (bs : Nat → List Int) (n : Nat) (r : List Int) : ∀ l : List Int, (∀ c ∈ l, (0 : Int) ≤ c) → loose bs (escS l ++ r) 1 n = escS l ++ loose bs r 1 n
  | [], _ => rfl
  | c :: l, h => by
    have e : escS (c :: l) = escB c ++ escS l := rfl
    rw [e, List.append_assoc, loose_escB bs n _ (h c (by simp)), loose_escS bs n r l fun x hx => h x (by simp [hx]), List.append_assoc]
theorem loose_quote (bs : Nat → List Int) (n : Nat) (r : List Int) (t : ByteArray) : loose bs (quoteS t ++ r) 0 n = quoteS t ++ loose bs r 0 n := by
  unfold quoteS
  rw [List.cons_append, loose_open, List.append_assoc, loose_escS bs n _ _ fun c hc => (bytes_rest t 0 c hc).1]
  show 34 :: (escS (restAt t 0) ++ loose bs (34 :: r) 1 n) = _
  rw [loose_end]; simp
/-! ### A number's bytes -/
def numC (c : Int) : Prop := braB c = false ∧ c ≠ 34
theorem numC_of {c : Int} (h : (48 ≤ c ∧ c ≤ 57) ∨ c = 43 ∨ c = 45 ∨ c = 46 ∨ c = 69 ∨ c = 101) : numC c := by
  refine ⟨?_, by omega⟩
  unfold braB
  have h1 : c ≠ 123 := by omega
  have h2 : c ≠ 125 := by omega
  have h3 : c ≠ 91 := by omega
  have h4 : c ≠ 93 := by omega
  have h5 : c ≠ 44 := by omega
  have h6 : c ≠ 58 := by omega
  simp [h1, h2, h3, h4, h5, h6]
def NumR (s : ByteArray) (i j : Nat) : Prop := ∀ k, i ≤ k → k < j → numC (ch s k)
theorem NumR.step {s : ByteArray} {i j : Nat} (h0 : numC (ch s i)) (h : NumR s (i + 1) j) : NumR s i j := fun k h1 h2 => by
  by_cases e : k = i
  · exact e ▸ h0
  · exact h k (by omega) h2
theorem NumR.trans {s : ByteArray} {i j k : Nat} (h : NumR s i j) (g : NumR s j k) : NumR s i k := fun m h1 h2 => by
  by_cases e : m < j
  · exact h m h1 e
  · exact g m (by omega) h2
theorem digitC {c : Int} (h : digitB c = true) : numC c := by
  unfold digitB at h
  simp at h
  exact numC_of (.inl h)
theorem digits_num {s : ByteArray} : ∀ (d i : Nat), s.size - i ≤ d → NumR s i (digits s i)
  | 0, i, h => by
    have h0 : ch s i = 0 := ch_out (by omega)
    have hb : digitB (ch s i) = false := by rw [h0]; rfl
    rw [digits_stop hb]
    exact fun k h1 h2 => by omega
  | d + 1, i, h => by
    by_cases hb : digitB (ch s i) = true
    · have hi : i < s.size := ch_pos (fun e => by rw [e] at hb; cases hb)
      rw [digits_go hb]
      exact NumR.step (digitC hb) (digits_num d (i + 1) (by omega))
    · have hb' : digitB (ch s i) = false := by simpa using hb
      rw [digits_stop hb']
      exact fun k h1 h2 => by omega
theorem run1_num {s : ByteArray} {i j : Nat} (h : run1 s i = .ok () j) : NumR s i j := by
  unfold run1 at h
  split at h
  · cases h
  · simp only [R.ok.injEq, true_and] at h
    exact h ▸ digits_num _ i (Nat.le_refl _)
theorem numExp_num {s : ByteArray} {i j : Nat} (h : numExp s i = .ok () j) : NumR s i j := by
  unfold numExp at h
  split at h
  · rename_i h1
    have hc : numC (ch s i) := numC_of (by omega)
    refine NumR.step hc ?_
    split at h
    · rename_i h2
      exact NumR.step (numC_of (by omega)) (run1_num h)
    · exact run1_num h
  · simp only [R.ok.injEq, true_and] at h
    exact fun k h1 h2 => by omega
theorem numFrac_num {s : ByteArray} {i j : Nat} (h : numFrac s i = .ok () j) : NumR s i j := by
  unfold numFrac at h
  split at h
  · rename_i h1
    refine NumR.step (numC_of (by omega)) ?_
    cases hr : run1 s (i + 1) with
    | ok _ k => rw [hr] at h; exact (run1_num hr).trans (numExp_num h)
    | no k e => rw [hr] at h; cases h
  · exact numExp_num h
theorem numInt_num {s : ByteArray} {i j : Nat} (h : numInt s i = .ok () j) : NumR s i j := by
  unfold numInt at h
  split at h
  · rename_i h1
    exact NumR.step (numC_of (by omega)) (numFrac_num h)
  · cases hr : run1 s i with
    | ok _ k => rw [hr] at h; exact (run1_num hr).trans (numFrac_num h)
    | no k e => rw [hr] at h; cases h
theorem num_num {s : ByteArray} {j : Nat} (h : num s 0 = .ok () j) : NumR s 0 j := by
  unfold num at h
  split at h
  · rename_i h1
    exact NumR.step (numC_of (by omega)) (numInt_num h)
  · exact numInt_num h
theorem numB_plain {t : ByteArray} (h : numB t = true) : ∀ c ∈ restAt t 0, braB c = false ∧ c ≠ 34 := fun c hc => by
  unfold restAt bytesAt at hc
  obtain ⟨k, hk, rfl⟩ := List.mem_map.1 hc
  have hk2 := List.mem_range.1 hk
  exact num_num (numB_ok h) _ (by omega) (by omega)
/-! ### The value's text -/
theorem Bl.append {a b : List Int} (h : Bl a) (g : Bl b) : Bl (a ++ b) := fun x hx => by
  rcases List.mem_append.1 hx with h1 | h1
  · exact h x h1
  · exact g x h1
/-- Where a value's text is loosened, a text of it comes out, in blanks. -/
def Lo (bs : Nat → List Int) (P : List Int → Prop) (w : List Int) : Prop := ∀ (r : List Int) (n : Nat), ∃ (a l b : List Int) (m : Nat), Bl a ∧ Bl b ∧ P l ∧ loose bs (w ++ r) 0 n = a ++ (l ++ (b ++ loose bs r 0 m))
theorem lo_flat {bs : Nat → List Int} {P : List Int → Prop} {w : List Int} (h : P w) (hw : ∀ c ∈ w, braB c = false ∧ c ≠ 34) : Lo bs P w := fun r n => ⟨[], w, [], n, bl_nil, bl_nil, h, by rw [loose_flat bs n r w hw]; simp⟩
theorem lo_list {bs : Nat → List Int} (hbs : ∀ n, Bl (bs n)) {rec : J → List Int → Prop} {w : J → List Int} {g : J → J} : ∀ (vs : List J) (v : J) (i : Nat), (∀ x ∈ v :: vs, Lo bs (rec (g x)) (w x)) → Lo bs (ListT rec ((v :: vs).map g)) (w v ++ (joinFrom (i + 1) (vs.map w) ++ [93]))
  | [], v, i, h, r, n => by
    obtain ⟨a, l, b, m, h1, h2, h3, h4⟩ := h v (by simp) (93 :: r) n
    refine ⟨a, l ++ ((b ++ bs m) ++ [93]), bs (m + 1), m + 1, h1, hbs _, ⟨l, b ++ bs m, h3, h2.append (hbs m), rfl⟩, ?_⟩
    have e : w v ++ (joinFrom (i + 1) (List.map w []) ++ [93]) ++ r = w v ++ 93 :: r := by simp [joinFrom]
    rw [e, h4, loose_bra _ _ _ _ (by decide)]; simp
  | u :: vs, v, i, h, r, n => by
    obtain ⟨a, l, b, m, h1, h2, h3, h4⟩ := h v (by simp) (44 :: (w u ++ (joinFrom (i + 2) (vs.map w) ++ [93]) ++ r)) n
    obtain ⟨a2, l2, b2, m2, g1, g2, g3, g4⟩ := lo_list hbs vs u (i + 1) (fun x hx => h x (by simp at hx ⊢; exact .inr hx)) r (m + 1)
    refine ⟨a, l ++ ((b ++ bs m) ++ 44 :: ((bs (m + 1) ++ a2) ++ l2)), b2, m2, h1, g2, ⟨l, b ++ bs m, bs (m + 1) ++ a2, l2, h3, h2.append (hbs m), (hbs _).append g1, g3, rfl⟩, ?_⟩
    have e : w v ++ (joinFrom (i + 1) (List.map w (u :: vs)) ++ [93]) ++ r = w v ++ 44 :: (w u ++ (joinFrom (i + 2) (vs.map w) ++ [93]) ++ r) := by rw [List.map_cons, join_succ]; simp
    rw [e, h4, loose_bra _ _ _ _ (by decide), g4]; simp
theorem lo_ob {bs : Nat → List Int} (hbs : ∀ n, Bl (bs n)) {rec : J → List Int → Prop} {w : J → List Int} {g : J → J} {ks : List ByteArray} {ls : List J} : ∀ (is : List Nat) (i : Nat) (q : Nat), (∀ x ∈ i :: is, Lo bs (rec (g (ls.getD x J.zero))) (w (ls.getD x J.zero))) →
    Lo bs (ObT rec ((i :: is).map fun x => ks.getD x ⟨#[]⟩) ((i :: is).map fun x => g (ls.getD x J.zero))) (membS w ks ls i ++ (joinFrom (q + 1) (is.map (membS w ks ls)) ++ [125]))
  | [], i, q, h, r, n => by
    obtain ⟨a, l, b, m, h1, h2, h3, h4⟩ := h i (by simp) (125 :: r) (n + 1)
    refine ⟨[], quoteS (ks.getD i ⟨#[]⟩) ++ (bs n ++ 58 :: ((bs (n + 1) ++ a) ++ (l ++ ((b ++ bs m) ++ [125])))), bs (m + 1), m + 1, bl_nil, hbs _, ⟨bs n, bs (n + 1) ++ a, l, b ++ bs m, hbs _, (hbs _).append h1, h3, h2.append (hbs m), rfl⟩, ?_⟩
    have e : membS w ks ls i ++ (joinFrom (q + 1) (List.map (membS w ks ls) []) ++ [125]) ++ r = quoteS (ks.getD i ⟨#[]⟩) ++ (58 :: (w (ls.getD i J.zero) ++ 125 :: r)) := by simp [joinFrom, membS]
    rw [e, loose_quote, loose_bra _ _ _ _ (by decide), h4, loose_bra _ _ _ _ (by decide)]; simp
  | u :: is, i, q, h, r, n => by
    obtain ⟨a, l, b, m, h1, h2, h3, h4⟩ := h i (by simp) (44 :: (membS w ks ls u ++ (joinFrom (q + 2) (is.map (membS w ks ls)) ++ [125]) ++ r)) (n + 1)
    obtain ⟨a2, l2, b2, m2, g1, g2, g3, g4⟩ := lo_ob hbs is u (q + 1) (fun x hx => h x (by simp at hx ⊢; exact .inr hx)) r (m + 1)
    refine ⟨[], quoteS (ks.getD i ⟨#[]⟩) ++ (bs n ++ 58 :: ((bs (n + 1) ++ a) ++ (l ++ ((b ++ bs m) ++ 44 :: ((bs (m + 1) ++ a2) ++ l2))))), b2, m2, bl_nil, g2,
      ⟨bs n, bs (n + 1) ++ a, l, b ++ bs m, bs (m + 1) ++ a2, l2, hbs _, (hbs _).append h1, h3, h2.append (hbs m), (hbs _).append g1, g3, rfl⟩, ?_⟩
    have e : membS w ks ls i ++ (joinFrom (q + 1) (List.map (membS w ks ls) (u :: is)) ++ [125]) ++ r = quoteS (ks.getD i ⟨#[]⟩) ++ (58 :: (w (ls.getD i J.zero) ++ 44 :: (membS w ks ls u ++ (joinFrom (q + 2) (is.map (membS w ks ls)) ++ [125]) ++ r))) := by
      rw [List.map_cons, join_succ]; simp [membS]
    rw [e, loose_quote, loose_bra _ _ _ _ (by decide), h4, loose_bra _ _ _ _ (by decide), g4]; simp
theorem flat_of {w : List Int} (h : (w.all fun c => !braB c && c != 34) = true) : ∀ c ∈ w, braB c = false ∧ c ≠ 34 := fun c hc => by
  have := List.all_eq_true.1 h c hc
  simpa using this
theorem lo_write {bs : Nat → List Int} (hbs : ∀ n, Bl (bs n)) : ∀ {f : Nat} {j : J}, Right f j → Lo bs (Txt f (sortJ f j)) (writeJ f j)
  | 0, j, h => h.elim
  | f + 1, j, h => by
    have hK := right_kind h
    have htw := txt_write h
    obtain ⟨hkd, hbl, htx⟩ := sort_kd (f + 1) j
    unfold Right at h
    obtain ⟨h1, h2, h3, h4, h5, h6⟩ := h
    have ew : writeJ (f + 1) j = if j.kd = 0 then [110, 117, 108, 108] else if j.kd = 1 then (if j.bl then [116, 114, 117, 101] else [102, 97, 108, 115, 101]) else if j.kd = 2 then restAt j.tx 0 else if j.kd = 3 then quoteS j.tx
        else if j.kd = 4 then 91 :: (joinFrom 0 (j.ls.map (writeJ f)) ++ [93]) else 123 :: (joinFrom 0 ((ordOf j.ks).map (membS (writeJ f) j.ks j.ls)) ++ [125]) := by rw [writeJ]
    rcases hK.all with e | e | e | e | e | e
    · refine lo_flat htw ?_
      rw [ew, if_pos e]; exact flat_of (by decide)
    · refine lo_flat htw ?_
      rw [ew, if_neg (by omega), if_pos e]
      cases j.bl
      · exact flat_of (by decide)
      · exact flat_of (by decide)
    · refine lo_flat htw ?_
      rw [ew, if_neg (by omega), if_neg (by omega), if_pos e]
      exact numB_plain (h3 e)
    · have eq : writeJ (f + 1) j = quoteS j.tx := by rw [ew, if_neg (by omega), if_neg (by omega), if_neg (by omega), if_pos e]
      intro r n
      exact ⟨[], writeJ (f + 1) j, [], n, bl_nil, bl_nil, htw, by rw [eq, loose_quote]; simp⟩
    · have eq : writeJ (f + 1) j = 91 :: (joinFrom 0 (j.ls.map (writeJ f)) ++ [93]) := by rw [ew, if_neg (by omega), if_neg (by omega), if_neg (by omega), if_neg (by omega), if_pos e]
      obtain ⟨e1, e2⟩ := sort_flat (f := f) (show j.kd ≠ 5 by omega)
      intro r n
      rw [eq, List.cons_append, loose_bra _ _ _ _ (by decide)]
      have key : ∃ (a m b : List Int) (k : Nat), Bl a ∧ Bl b ∧ ((sortJ (f + 1) j).ls = [] ∧ m = [93] ∨ ListT (Txt f) (sortJ (f + 1) j).ls m) ∧ loose bs (joinFrom 0 (j.ls.map (writeJ f)) ++ [93] ++ r) 0 (n + 1) = a ++ (m ++ (b ++ loose bs r 0 k)) := by
        rw [e2]
        match hl : j.ls with
        | [] => exact ⟨bs (n + 1), [93], bs (n + 2), n + 2, hbs _, hbs _, .inl ⟨rfl, rfl⟩, by
            show loose bs (93 :: r) 0 (n + 1) = _
            rw [loose_bra _ _ _ _ (by decide)]; simp⟩
        | v :: vs =>
          obtain ⟨a, m, b, k, g1, g2, g3, g4⟩ := lo_list hbs vs v 0 (fun x hx => lo_write hbs (f := f) (h6 x (by rw [hl]; exact hx))) r (n + 1)
          refine ⟨a, m, b, k, g1, g2, .inr g3, ?_⟩
          rw [← g4, List.map_cons (f := writeJ f), join_zero, List.append_assoc (writeJ f v)]
      obtain ⟨a, m, b, k, g1, g2, g3, g4⟩ := key
      refine ⟨bs n, 91 :: ((bs (n + 1) ++ a) ++ m), b, k, hbs _, g2, ?_, by rw [g4]; simp⟩
      unfold Txt
      rw [hkd]
      exact .inr (.inr (.inr (.inr (.inl ⟨e, bs (n + 1) ++ a, m, (hbs _).append g1, rfl, g3⟩))))
    · have eq : writeJ (f + 1) j = 123 :: (joinFrom 0 ((ordOf j.ks).map (membS (writeJ f) j.ks j.ls)) ++ [125]) := by rw [ew, if_neg (by omega), if_neg (by omega), if_neg (by omega), if_neg (by omega), if_neg (by omega)]
      obtain ⟨e1, e2⟩ := sort_obj (f := f) e
      have hm : ∀ i ∈ ordOf j.ks, i < j.ls.length := fun i hi => by have := ord_mem.1 hi; have := (hK.k5 e).2; omega
      intro r n
      rw [eq, List.cons_append, loose_bra _ _ _ _ (by decide)]
      have key : ∃ (a m b : List Int) (k : Nat), Bl a ∧ Bl b ∧ ((sortJ (f + 1) j).ls = [] ∧ m = [125] ∨ ObT (Txt f) (sortJ (f + 1) j).ks (sortJ (f + 1) j).ls m) ∧ loose bs (joinFrom 0 ((ordOf j.ks).map (membS (writeJ f) j.ks j.ls)) ++ [125] ++ r) 0 (n + 1) = a ++ (m ++ (b ++ loose bs r 0 k)) := by
        rw [e1, e2]
        match hl : ordOf j.ks with
        | [] => exact ⟨bs (n + 1), [125], bs (n + 2), n + 2, hbs _, hbs _, .inl ⟨rfl, rfl⟩, by
            show loose bs (125 :: r) 0 (n + 1) = _
            rw [loose_bra _ _ _ _ (by decide)]; simp⟩
        | i :: is =>
          obtain ⟨a, m, b, k, g1, g2, g3, g4⟩ := lo_ob hbs (ks := j.ks) (ls := j.ls) is i 0 (fun x hx => lo_write hbs (f := f) (h6 _ (getD_mem (hm x (by rw [hl]; exact hx))))) r (n + 1)
          refine ⟨a, m, b, k, g1, g2, .inr g3, ?_⟩
          rw [← g4, List.map_cons (f := membS (writeJ f) j.ks j.ls), join_zero, List.append_assoc (membS (writeJ f) j.ks j.ls i)]
      obtain ⟨a, m, b, k, g1, g2, g3, g4⟩ := key
      refine ⟨bs n, 123 :: ((bs (n + 1) ++ a) ++ m), b, k, hbs _, g2, ?_, by rw [g4]; simp⟩
      unfold Txt
      rw [hkd]
      exact .inr (.inr (.inr (.inr (.inr ⟨e, bs (n + 1) ++ a, m, (hbs _).append g1, rfl, g3⟩))))
open Go.RowKit
/-- The blanks that a number names. -/
def blankV (x : Int) : ByteArray := if x.tmod 5 = 1 then ⟨#[32]⟩ else if x.tmod 5 = 2 then ⟨#[9]⟩ else if x.tmod 5 = 3 then ⟨#[13, 10]⟩ else if x.tmod 5 = 4 then ⟨#[32, 32]⟩ else ⟨#[]⟩
theorem blankV_bl (x : Int) : Bl (restAt (blankV x) 0) ∧ (blankV x).size ≤ 2 := by
  unfold blankV
  repeat' split
  all_goals exact ⟨by unfold Bl; decide, by decide⟩
set_option maxRecDepth 100000 in
theorem blank_any (x : Int) (w : World) (h1 : -9223372036854775808 ≤ x) (h2 : x ≤ 9223372036854775807) : Calls Tryd.prog 19 #[.int .i64 x] w fun e w' => e = .returned (.string (blankV x)) ∧ w = w' := by
  have b1 : x.tmod 5 < 5 := Int.tmod_lt_of_pos _ (by decide)
  have b2 : -5 < x.tmod 5 := Int.lt_tmod_of_pos _ (by decide)
  unfold blankV
  obtain ⟨m, hm⟩ : ∃ m, x.tmod 5 = m := ⟨_, rfl⟩
  rw [hm] at b1 b2 ⊢
  by_cases c1 : m = 1
  · subst c1
    rw [if_pos rfl]
    go_enter Tryd.func19, Tryd.ntmps19
    go_wp2_with fail
    go_ret
    exact ⟨rfl, rfl⟩
  have d1 : (m == 1) = false := by simpa using c1
  rw [if_neg c1]
  by_cases c2 : m = 2
  · subst c2
    rw [if_pos rfl]
    go_enter Tryd.func19, Tryd.ntmps19
    go_wp2_with fail
    go_ret
    exact ⟨rfl, rfl⟩
  have d2 : (m == 2) = false := by simpa using c2
  rw [if_neg c2]
  by_cases c3 : m = 3
  · subst c3
    rw [if_pos rfl]
    go_enter Tryd.func19, Tryd.ntmps19
    go_wp2_with fail
    go_ret
    exact ⟨rfl, rfl⟩
  have d3 : (m == 3) = false := by simpa using c3
  rw [if_neg c3]
  by_cases c4 : m = 4
  · subst c4
    rw [if_pos rfl]
    go_enter Tryd.func19, Tryd.ntmps19
    go_wp2_with fail
    go_ret
    exact ⟨rfl, rfl⟩
  have d4 : (m == 4) = false := by simpa using c4
  rw [if_neg c4]
  clear c1 c2 c3 c4
  go_enter Tryd.func19, Tryd.ntmps19
  go_wp2_with fail
  go_ret
  exact ⟨rfl, rfl⟩
set_option maxRecDepth 100000 in
theorem wpList_conv_one {ops : Array Oper} {rest : List Oper} {o : Oper} {a : Act} {w : World} {Q : Exit → Act → World → Prop} (hgd : o.guard = none) (x : Operand) (ho : o.op = .convert 22 9 x) (b : Nat) (v : Int) (hx : a.eval x = .slice (some ⟨b, 0, none⟩) 1 1) (hr : Row w b 5 [.int .u8 v])
    (h : wpList Tryd.prog ops Q rest (a.put o.dst (.string (strOfNums [v]))) w) : wpList Tryd.prog ops Q (o :: rest) a w :=
  wpList_plain hgd fun K hK => by
    have hrun := run_convert_bytes_arg (P := Tryd.prog) w 22 5 Tryd.underlying22 Tryd.underlying5 b 0 1 1 [v] rfl (fun i hi => by
      obtain rfl : i = 0 := by omega
      exact hr.at_ (j := 0) rfl) 9 Tryd.underlying9
    unfold Oper.wp execOp
    simp only [ho, hx, Sem.run_bind, hrun, Result.andThen_ok, Sem.run_pure]
    exact hK _ _ h
/-- How far the loop is. -/
def LoAt (bs : Nat → List Int) (L : List Int) (i st n : Nat) (out : ByteArray) : Prop := restAt out 0 ++ loose bs (L.drop i) st n = loose bs L 0 0
theorem rest_one {c : Int} (h0 : 0 ≤ c) (h1 : c < 256) {T : ByteArray} (hT : strOfNums [c] = T) : restAt T 0 = [c] ∧ T.size = 1 := by
  subst hT
  exact ⟨restAt_str (l := [c]) (fun x hx => by simp at hx; omega), Go.strOfNums_size _⟩
theorem drop_at {L : List Int} {i : Nat} {c : Int} (hi : i < L.length) (hc : L.getD i 0 = c) : L.drop i = c :: L.drop (i + 1) := by
  rw [List.drop_eq_getElem_cons hi, ← hc, List.getD_eq_getElem?_getD, List.getElem?_eq_getElem hi]; rfl
section
variable {bs : Nat → List Int} {L : List Int} {i n : Nat} {c : Int} {out T : ByteArray}
theorem ls_in (h : LoAt bs L i 1 n out) (hi : i < L.length) (hc : L.getD i 0 = c) (hT : restAt T 0 = [c]) (h1 : c ≠ 92) (h2 : c ≠ 34) : LoAt bs L (i + 1) 1 n (out ++ T) := by
  unfold LoAt at h ⊢
  rw [drop_at hi hc, loose_in _ _ _ _ h1 h2] at h
  rw [restAt_append, hT, ← h]; simp
theorem ls_end (h : LoAt bs L i 1 n out) (hi : i < L.length) (hc : L.getD i 0 = 34) (hT : restAt T 0 = [34]) : LoAt bs L (i + 1) 0 n (out ++ T) := by
  unfold LoAt at h ⊢
  rw [drop_at hi hc, loose_end] at h
  rw [restAt_append, hT, ← h]; simp
theorem ls_esc {U : ByteArray} (h : LoAt bs L i 1 n out) (hi : i + 1 < L.length) (hc : L.getD i 0 = 92) (hd : L.getD (i + 1) 0 = c) (hT : restAt T 0 = [92]) (hU : restAt U 0 = [c]) : LoAt bs L (i + 2) 1 n (out ++ (T ++ U)) := by
  unfold LoAt at h ⊢
  rw [drop_at (by omega) hc, drop_at hi hd, loose_esc] at h
  rw [restAt_append, restAt_append, hT, hU, ← h]; simp
theorem ls_last (h : LoAt bs L i 1 n out) (hi : i + 1 = L.length) (hc : L.getD i 0 = 92) (hT : restAt T 0 = [92]) : LoAt bs L (i + 1) 1 n (out ++ T) := by
  unfold LoAt at h ⊢
  have e : L.drop (i + 1) = [] := List.drop_eq_nil_of_le (by omega)
  rw [drop_at (by omega) hc, e] at h
  have e2 : loose bs [92] 1 n = [92] := rfl
  rw [e2] at h
  rw [restAt_append, hT, ← h, e]; simp [loose]
theorem ls_open (h : LoAt bs L i 0 n out) (hi : i < L.length) (hc : L.getD i 0 = 34) (hT : restAt T 0 = [34]) : LoAt bs L (i + 1) 1 n (out ++ T) := by
  unfold LoAt at h ⊢
  rw [drop_at hi hc, loose_open] at h
  rw [restAt_append, hT, ← h]; simp
theorem ls_out (h : LoAt bs L i 0 n out) (hi : i < L.length) (hc : L.getD i 0 = c) (hT : restAt T 0 = [c]) (h1 : braB c = false) (h2 : c ≠ 34) : LoAt bs L (i + 1) 0 n (out ++ T) := by
  unfold LoAt at h ⊢
  rw [drop_at hi hc, loose_out _ _ _ _ h1 h2] at h
  rw [restAt_append, hT, ← h]; simp
theorem ls_bra {X Y : ByteArray} (h : LoAt bs L i 0 n out) (hi : i < L.length) (hc : L.getD i 0 = c) (hT : restAt T 0 = [c]) (h1 : braB c = true) (hX : restAt X 0 = bs n) (hY : restAt Y 0 = bs (n + 1)) : LoAt bs L (i + 1) 0 (n + 1) (out ++ (X ++ T ++ Y)) := by
  unfold LoAt at h ⊢
  rw [drop_at hi hc, loose_bra _ _ _ _ h1] at h
  rw [restAt_append, restAt_append, restAt_append, hT, hX, hY, ← h]; simp
end
/-- The blanks in turn. -/
def blanksV (hs : List Int) (n : Nat) : List Int := restAt (blankV (hs.getD (n % hs.length) 0)) 0
theorem LoAt.done {hs L : List Int} {st n : Nat} {out F : ByteArray} {j : J} (h : LoAt (blanksV hs) L L.length st n out) (hp : Prints j) (hL : writeJ 16 j = L) (hF : (⟨#[32]⟩ : ByteArray) ++ out ++ ⟨#[10]⟩ = F) (hs8 : F.size ≤ 8192) :
    parse (strOfNums (restAt F 0)) = (sortJ 16 j, 0, 0) := by
  unfold LoAt at h
  rw [List.drop_length] at h
  have h2 : restAt out 0 = loose (blanksV hs) L 0 0 := by rw [← h]; simp [loose]
  obtain ⟨a, l, b, m, h3, h4, h5, h6⟩ := lo_write (bs := blanksV hs) (fun n => (blankV_bl _).1) hp.right [] 0
  rw [List.append_nil, hL] at h6
  have e : restAt F 0 = (32 :: a) ++ (l ++ (b ++ [10])) := by
    rw [← hF, restAt_append, restAt_append, h2, h6, show restAt (⟨#[32]⟩ : ByteArray) 0 = [32] by decide, show restAt (⟨#[10]⟩ : ByteArray) 0 = [10] by decide]
    simp [loose]
  have hb := bytes_rest F 0
  have hl : (restAt F 0).length ≤ 8192 := by rw [restAt_len]; exact hs8
  rw [e] at hb hl ⊢
  refine parse_txt (f := 16) (Nat.le_refl _) (right_sort hp.right) h5 (fun c hc => ?_) (h4.append (fun c hc => ?_)) hb hl
  · rcases List.mem_cons.1 hc with rfl | hc
    · rfl
    · exact h3 c hc
  · obtain rfl : c = 10 := by simpa using hc
    rfl
theorem IntsAt.below {w w' : World} {A : Option Addr} {hs : List Int} (h : IntsAt w A hs) (hg : Below w.heap.size w w') : IntsAt w' A hs := fun j x hx => by
  obtain ⟨b, o, e, hc⟩ := h j x hx
  exact ⟨b, o, e, below_cell hg hc⟩
set_option maxHeartbeats 12800000 in
set_option maxRecDepth 100000 in
theorem loose_any (j : J) (cs : List Value) (A : Option Addr) (c : Nat) (hs : List Int) (w : World) (hj : JR w j cs) (hsz : JAll (JSz 140737488355328) j) (hA : IntsAt w A hs) (hhr : ∀ x ∈ hs, -9223372036854775808 ≤ x ∧ x ≤ 9223372036854775807) (hT : Lib.Utf8Tabs 0 1 w) (hw : 1 < w.heap.size) :
    Calls Tryd.prog 4 #[.agg cs.toArray, .slice A hs.length c] w fun e w' => e = .returned (.bool true) ∧ Below w.heap.size w w' := by
  obtain ⟨p0, p1, p2, p3, p4, rfl⟩ := five_of hj.five
  have Hj := Lib.hid hj
  have Hsz := Lib.hid hsz
  have HA := Lib.hid hA
  have Hhr := Lib.hid hhr
  have HT := Lib.hid hT
  have Hw := Lib.hid hw
  clear hj hsz hA hhr hT hw
  go_enter Tryd.func4, Tryd.ntmps4
  go_upto_region 1 with (refine wpList_box_abs rfl 29 (.tmp 0) rfl [p0, p1, p2, p3, p4] rfl ?_; intro w1 hr1 hg1 hs1; simp only [Act.put, List.setIfInBounds_toArray, List.set_cons_zero, List.set_cons_succ])
  obtain ⟨Ba, hBa⟩ : ∃ x, w.heap.size = x := ⟨_, rfl⟩
  rw [hBa] at hr1 ⊢
  have HX1 := Lib.hid hr1
  have HB1 := Lib.hid (below_of_grown hg1)
  have HW := Lib.hid hBa
  clear hr1 hg1 hs1 hBa
  by_cases hv : leftV j 1 65536 < 0
  · have hd : decide (leftV j 1 65536 < 0) = true := by simpa using hv
    have Hd := Lib.hid hd
    clear hd hv
    go_wp2_with (first
      | (go_at_call 9; refine (works_any _ (tabs_below HT.out HB2.out) (Nat.lt_of_lt_of_le Hw.out HB2.out.size)).mono ?_; rintro e w12 ⟨rfl, hb12⟩; have HB12 := Lib.hid hb12; clear hb12)
      | (go_at_call 16; refine (vast_any j [p0, p1, p2, p3, p4] w1 (Hj.out.below HB1.out) Hsz.out).mono ?_; rintro e w2 ⟨rfl, hb2⟩; rw [Hd.out]; have HB2 := Lib.hid (below_trans2 HB1.out hb2); clear hb2)
      | (refine wpList_load_Row rfl 29 _ rfl Ba rfl [p0, p1, p2, p3, p4] 29 HX1.out _ Tryd.underlying29 rfl size29 ?_; simp only [Act.put, List.setIfInBounds_toArray, List.set_cons_zero, List.set_cons_succ]))
    go_ret
    exact ⟨rfl, HW.out ▸ below_trans2 HB2.out HB12.out⟩
  have hd : decide (leftV j 1 65536 < 0) = false := by simpa using hv
  have Hd := Lib.hid hd
  have HSm := Lib.hid (small_of (j := j) (by omega))
  clear hd hv
  by_cases h0 : hs.length = 0
  · obtain rfl : hs = [] := List.eq_nil_of_length_eq_zero h0
    clear h0
    go_wp2_with (first
      | (go_at_call 9; refine (works_any _ (tabs_below HT.out HB2.out) (Nat.lt_of_lt_of_le Hw.out HB2.out.size)).mono ?_; rintro e w12 ⟨rfl, hb12⟩; have HB12 := Lib.hid hb12; clear hb12)
      | (go_at_call 16; refine (vast_any j [p0, p1, p2, p3, p4] w1 (Hj.out.below HB1.out) Hsz.out).mono ?_; rintro e w2 ⟨rfl, hb2⟩; rw [Hd.out]; have HB2 := Lib.hid (below_trans2 HB1.out hb2); clear hb2)
      | (refine wpList_load_Row rfl 29 _ rfl Ba rfl [p0, p1, p2, p3, p4] 29 HX1.out _ Tryd.underlying29 rfl size29 ?_; simp only [Act.put, List.setIfInBounds_toArray, List.set_cons_zero, List.set_cons_succ]))
    go_ret
    exact ⟨rfl, HW.out ▸ below_trans2 HB2.out HB12.out⟩
  have h0' : ((hs.length : Int) == 0) = false := by simpa using h0
  obtain ⟨E, hE⟩ : ∃ e, printE j = e := ⟨_, rfl⟩
  have HE := Lib.hid hE
  clear hE
  go_upto_region 4 with (first
    | (go_at_call 17; refine (print_any j [q0, q1, q2, q3, q4] w3 HJ3.out.rd (sz_up HSm.out.sz).1 (tabs_below HT.out HB3.out) HSm.out.room).mono ?_; rintro e w4 ⟨⟨v4, rfl, ho4, hn4⟩, hb4⟩; rw [HE.out] at hn4 ⊢
       have HB4 := Lib.hid (below_trans2 HB3.out hb4); have HX4 := Lib.hid (HX3.out.grown (grown_of_below hb4 none) (by simp)); have HO4 := Lib.hid ho4; have HN4 := Lib.hid hn4; clear ho4 hn4 hb4)
    | (go_at_call 18; refine (copy_any w j [p0, p1, p2, p3, p4] w2 Hj.out (sz_up HSm.out.sz).2 HB2.out).mono ?_; rintro e w3 ⟨hg3, cs3, F3, rfl, hj3⟩; obtain ⟨q0, q1, q2, q3, q4, rfl⟩ := five_of hj3.five.1
       have HB3 := Lib.hid (below_step HB2.out hg3); have HX3 := Lib.hid (HX2.out.grown hg3 (by simp)); have HJ3 := Lib.hid hj3; clear hg3 hj3)
    | (have _ := w2; refine wpList_load_Row rfl 29 _ rfl Ba rfl [p0, p1, p2, p3, p4] 29 HX2.out _ Tryd.underlying29 rfl size29 ?_; simp only [Act.put, List.setIfInBounds_toArray, List.set_cons_zero, List.set_cons_succ])
    | (go_at_call 16; refine (vast_any j [p0, p1, p2, p3, p4] w1 (Hj.out.below HB1.out) Hsz.out).mono ?_; rintro e w2 ⟨rfl, hb2⟩; rw [Hd.out]; have HB2 := Lib.hid (below_trans2 HB1.out hb2); have HX2 := Lib.hid (HX1.out.grown (grown_of_below hb2 none) (by simp)); clear hb2)
    | (refine wpList_load_Row rfl 29 _ rfl Ba rfl [p0, p1, p2, p3, p4] 29 HX1.out _ Tryd.underlying29 rfl size29 ?_; simp only [Act.put, List.setIfInBounds_toArray, List.set_cons_zero, List.set_cons_succ]))
  by_cases hE0 : E = 0
  case neg =>
    have e1 : (E != 0) = true := by simpa using hE0
    go_wp2_with (go_at_call 9; refine (works_any _ (tabs_below HT.out HB4.out) (Nat.lt_of_lt_of_le Hw.out HB4.out.size)).mono ?_; rintro e w12 ⟨rfl, hb12⟩; have HB12 := Lib.hid hb12; clear hb12)
    go_ret
    exact ⟨rfl, HW.out ▸ below_trans2 HB4.out HB12.out⟩
  subst hE0
  have HPr := Lib.hid (prints_zero HE.out)
  obtain ⟨hKp, hKw, hKz⟩ := HPr.out.sort
  obtain ⟨L, hL⟩ : ∃ l, writeJ 16 j = l := ⟨_, rfl⟩
  have hln := HPr.out.len
  have hby := bytes_write 16 j
  obtain ⟨K, hK⟩ : ∃ k, sortJ 16 j = k := ⟨_, rfl⟩
  rw [hL] at hln hby
  obtain ⟨A4, c4, rfl, hA4, hc4, hs4, _⟩ := own_slice HO4.out
  rw [HPr.out.t, hL] at hs4 hA4 ⊢
  have HL := Lib.hid hL
  have HK := Lib.hid hK
  have HS4 := Lib.hid hs4
  have HBy := Lib.hid hby
  have HAi := Lib.hid (HA.out.below HB4.out)
  have HW4 := Lib.hid (Nat.lt_of_lt_of_le Hw.out HB4.out.size)
  have HT4 := Lib.hid (tabs_below HT.out HB4.out)
  clear hL hK hKp hKw hKz hs4 hA4 HN4 HO4 hc4 hby
  have h0n : ¬ (hs.length : Int) = 0 := by omega
  go_wp2_with fail
  go_loopw [7, 8, 9, 10] (fun u7 u8 u9 u10 wr => ∃ (out : ByteArray) (ins : Bool) (n i : Nat), i ≤ L.length ∧ u7 = .string out ∧ u8 = .bool ins ∧ u9 = .int .i64 (n : Int) ∧ u10 = .int .i64 (i : Int) ∧ n ≤ i ∧ out.size ≤ 8010 ∧ Hid (LoAt (blanksV hs) L i ins.toNat n out) ∧ Hid (w4.grownBy wr none)) (fun _ _ _ v _ => L.length - (intOf v).toNat)
  case atStart => exact ⟨⟨#[]⟩, false, 0, 0, by omega, rfl, rfl, rfl, rfl, by omega, by decide, Lib.hid (by unfold LoAt; rfl), Lib.hid (grown_refl _ _)⟩
  case round =>
    obtain ⟨out, ins, n, i, hi, rfl, rfl, rfl, rfl, hni, hob, HS, HG⟩ := hrel
    by_cases hlt : i < L.length
    case neg =>
      obtain rfl : i = L.length := by omega
      have e1 : ¬ (L.length : Int) < (L.length : Int) := by omega
      obtain ⟨X1, hX1⟩ : ∃ t, (⟨#[32]⟩ : ByteArray) ++ out = t := ⟨_, rfl⟩
      obtain ⟨F, hF⟩ : ∃ t, X1 ++ (⟨#[10]⟩ : ByteArray) = t := ⟨_, rfl⟩
      have z1 : X1.size = 1 + out.size := by rw [← hX1, ByteArray.size_append]; rfl
      have z2 : F.size = out.size + 2 := by rw [← hF, ByteArray.size_append, z1]; show 1 + _ + 1 = _; omega
      have f1 : ∀ W : World, (Op.stringOp .add (⟨#[32]⟩ : ByteArray) out).run Tryd.prog W = .ok (.string X1) W := fun W => by rw [← hX1]; exact run_string_add_sum W _ _ (by show 1 + _ ≤ _; omega)
      have f2 : ∀ W : World, (Op.stringOp .add X1 (⟨#[10]⟩ : ByteArray)).run Tryd.prog W = .ok (.string F) W := fun W => by rw [← hF]; exact run_string_add_sum W _ _ (by show _ + 1 ≤ _; omega)
      by_cases h9 : 8000 ≤ F.size
      · have e4 : (8000 : Int) ≤ (F.size : Int) := by omega
        clear hX1 hF
        go_wp2_with (go_at_call 9; refine (works_any wr (tabs_below HT4.out (below_of_grown HG.out)) (Nat.lt_of_lt_of_le HW4.out (below_of_grown HG.out).size)).mono ?_; rintro e w12 ⟨rfl, hb12⟩; have HB12 := Lib.hid hb12; clear hb12)
        go_ret
        exact ⟨rfl, HW.out ▸ below_trans2 (below_trans2 HB4.out (below_of_grown HG.out)) HB12.out⟩
      have e4 : ¬ (8000 : Int) ≤ (F.size : Int) := by omega
      have hpr := HS.out.done HPr.out HL.out (by rw [hX1, hF]) (by omega)
      rw [HK.out] at hpr
      have Hpr := Lib.hid hpr
      have HF8 := Lib.hid (show F.size ≤ 8192 by omega)
      clear hX1 hF hpr z1
      go_upto_region 34 with (first
        | (have _ := w7; refine wpList_store_Row rfl 29 _ _ rfl B5 [r0, r1, r2, r3, r4] (by rw [← HBn.out]; rfl) rfl 29 zero5 (HR.out) size29 rfl HJ.out.cells ?_; intro w8 hrc hgc hsc; have HKp2 := Lib.hid (read_kept HGp.out HQ.out.1 hgc HBn.out HQ.out.2 hsc); have HR8 := Lib.hid hrc; clear HR hrc hgc hsc; simp only [Act.put, List.setIfInBounds_toArray, List.set_cons_zero, List.set_cons_succ])
        | (have _ := w6; refine wpList_alloc_abs rfl 29 rfl zero5 _ (zero29 _) rfl ?_; intro w7 hrb hgb hsb; rw [HBn.out] at hrb; have HR := Lib.hid hrb; have HQ := Lib.hid (And.intro hgb hsb); clear hrb hgb hsb; rw [HBn.out]; simp only [Act.put, List.setIfInBounds_toArray, List.set_cons_zero, List.set_cons_succ])
        | (have _ := HS5; go_at_call 11; refine (parse_any (some ⟨wr.heap.size, 0, none⟩) c5 (restAt F 0) w5 (by intro h; cases h) HS5.out (by rw [restAt_len]; have := HF8.out; omega) (tabs_below HT4.out HB5.out) (Nat.lt_of_lt_of_le HW4.out HB5.out.size)).mono ?_
           rw [Hpr.out]
           rintro e w6 ⟨hg, cs5, F5, rfl, hj⟩
           obtain ⟨r0, r1, r2, r3, r4, rfl⟩ := five_of hj.five.1
           obtain ⟨B5, hB⟩ : ∃ x, w6.heap.size = x := ⟨_, rfl⟩
           have HBn := Lib.hid hB
           have HJ := Lib.hid hj
           have HGp := Lib.hid hg
           clear hg hj hB)
        | (refine wpList_conv_str rfl (.tmp 116) rfl F rfl ?_; intro c5 w5 hs5 hg5
           have HS5 := Lib.hid hs5; have HB5 := Lib.hid (below_of_grown (grown_own HG.out hg5 (by simp))); clear hs5 hg5; simp only [Act.put, List.setIfInBounds_toArray, List.set_cons_zero, List.set_cons_succ]))
      have HJ8 := Lib.hid (HJ.out.kept HKp2.out.2.1 (by simp))
      have HB8 := Lib.hid (below_trans2 HB4.out (below_step HB5.out HKp2.out.1))
      have HX8 := Lib.hid ((HX4.out.grown (grown_of_below HB5.out none) (by simp)).grown HKp2.out.1 (by simp))
      have Hs20 : Hid (Calls Tryd.prog 20 #[.agg #[p0, p1, p2, p3, p4], .agg #[r0, r1, r2, r3, r4]] w8 fun e w' => e = .returned (.bool true) ∧ Below w8.heap.size w8 w') := Lib.hid (alike_sort w8 16 j HPr.out.right [p0, p1, p2, p3, p4] [r0, r1, r2, r3, r4] w8 (Hj.out.below (HW.out ▸ HB8.out)) (by rw [HK.out]; exact HJ8.out.rd) (below_of_grown (grown_refl w8 none)))
      clear HKp2 HGp HJ HQ HBn HX4 HS5 HB5
      have a0 := HX8.out.at_ (j := 0) rfl
      have a1 := HX8.out.at_ (j := 1) rfl
      have a2 := HX8.out.at_ (j := 2) rfl
      have a3 := HX8.out.at_ (j := 3) rfl
      have a4 := HX8.out.at_ (j := 4) rfl
      have b0 := HR8.out.at_ (j := 0) rfl
      have b1 := HR8.out.at_ (j := 1) rfl
      have b2 := HR8.out.at_ (j := 2) rfl
      have b3 := HR8.out.at_ (j := 3) rfl
      have b4 := HR8.out.at_ (j := 4) rfl
      go_wp2_with (first
        | (have _ := HB10; go_at_call 9; refine (works_any w10 (tabs_below HT.out (HW.out ▸ HB10.out)) (Nat.lt_of_lt_of_le Hw.out (HW.out ▸ HB10.out.size))).mono ?_; rintro e w12 ⟨rfl, hb12⟩; have HB12 := Lib.hid hb12; clear hb12)
        | (have _ := HB9; go_at_call 21; refine Hs21.out.mono ?_; rintro e w10 ⟨rfl, hb10⟩; have HB10 := Lib.hid (below_trans2 HB9.out hb10); clear hb10)
        | (go_at_call 20; refine Hs20.out.mono ?_; rintro e w9 ⟨rfl, hb9⟩; have HB9 := Lib.hid (below_trans2 HB8.out hb9); have HR9 := Lib.hid (HR8.out.grown (grown_of_below hb9 none) (by simp)); have HJ9 := Lib.hid (HJ8.out.kept (grown_of_below hb9 none) (by simp))
           have Hs21 : Hid (Calls Tryd.prog 21 #[.agg #[r0, r1, r2, r3, r4]] w9 fun e w' => e = .returned (.bool true) ∧ Below w9.heap.size w9 w') := Lib.hid (rise_sort w9 16 j HPr.out.right [r0, r1, r2, r3, r4] w9 (by rw [HK.out]; exact HJ9.out.rd) (below_of_grown (grown_refl w9 none)))
           clear hb9 a0 a1 a2 a3 a4 b0 b1 b2 b3 b4
           have d0 := HR9.out.at_ (j := 0) rfl; have d1 := HR9.out.at_ (j := 1) rfl; have d2 := HR9.out.at_ (j := 2) rfl; have d3 := HR9.out.at_ (j := 3) rfl; have d4 := HR9.out.at_ (j := 4) rfl))
      go_ret
      exact ⟨rfl, HW.out ▸ below_trans2 HB10.out HB12.out⟩
    have e1 : (i : Int) < (L.length : Int) := by omega
    by_cases h8 : out.size < 8000
    case neg =>
      have e2 : ¬ (out.size : Int) < 8000 := by omega
      obtain ⟨X1, hX1⟩ : ∃ t, (⟨#[32]⟩ : ByteArray) ++ out = t := ⟨_, rfl⟩
      obtain ⟨F, hF⟩ : ∃ t, X1 ++ (⟨#[10]⟩ : ByteArray) = t := ⟨_, rfl⟩
      have z1 : X1.size = 1 + out.size := by rw [← hX1, ByteArray.size_append]; rfl
      have z2 : F.size = out.size + 2 := by rw [← hF, ByteArray.size_append, z1]; show 1 + _ + 1 = _; omega
      have f1 : ∀ W : World, (Op.stringOp .add (⟨#[32]⟩ : ByteArray) out).run Tryd.prog W = .ok (.string X1) W := fun W => by rw [← hX1]; exact run_string_add_sum W _ _ (by show 1 + _ ≤ _; omega)
      have f2 : ∀ W : World, (Op.stringOp .add X1 (⟨#[10]⟩ : ByteArray)).run Tryd.prog W = .ok (.string F) W := fun W => by rw [← hF]; exact run_string_add_sum W _ _ (by show _ + 1 ≤ _; omega)
      have e7 : 8000 ≤ F.size := by omega
      have e4 : (8000 : Int) ≤ (F.size : Int) := by omega
      clear hX1 hF
      go_upto_region 31 with fail
      clear f1 f2 e1 e2 h8
      go_wp2_with (go_at_call 9; refine (works_any wr (tabs_below HT4.out (below_of_grown HG.out)) (Nat.lt_of_lt_of_le HW4.out (below_of_grown HG.out).size)).mono ?_; rintro e w12 ⟨rfl, hb12⟩; have HB12 := Lib.hid hb12; clear hb12)
      go_ret
      exact ⟨rfl, HW.out ▸ below_trans2 (below_trans2 HB4.out (below_of_grown HG.out)) HB12.out⟩
    have e2 : (out.size : Int) < 8000 := by omega
    obtain ⟨⟨b4, o4, s4⟩, rfl, hsp, hcell⟩ := (src_below HS4.out (below_of_grown HG.out)) (by omega)
    simp only at hsp hcell
    obtain ⟨v, hv⟩ : ∃ v, L.getD i 0 = v := ⟨_, rfl⟩
    have hc4 := hcell i hlt
    rw [hv] at hc4
    have hvb := HBy.out v (by rw [← hv, List.getD_eq_getElem?_getD, List.getElem?_eq_getElem hlt]; simp)
    obtain ⟨hv0, hv1⟩ := hvb
    obtain ⟨T, hTn⟩ : ∃ t, strOfNums [v] = t := ⟨_, rfl⟩
    obtain ⟨hT1, hT2⟩ := rest_one hv0 hv1 hTn
    subst hsp
    have HTn := Lib.hid hTn
    have HT1 := Lib.hid hT1
    have HV := Lib.hid hv
    have HCl := Lib.hid hcell
    clear hTn hT1 hv hcell
    cases ins with
    | true =>
      by_cases k1 : v = 92
      · subst k1
        by_cases k2 : i + 1 < L.length
        · obtain ⟨q, hq⟩ : ∃ q, i + 1 = q := ⟨_, rfl⟩
          have hqi : (i : Int) + 1 = (q : Int) := by omega
          rw [hq] at k2
          have e3 : (q : Int) < (L.length : Int) := by omega
          obtain ⟨d, hd⟩ : ∃ d, L.getD q 0 = d := ⟨_, rfl⟩
          have hc5 := HCl.out q k2
          rw [hd] at hc5
          obtain ⟨hd0, hd1⟩ := HBy.out d (by rw [← hd, List.getD_eq_getElem?_getD, List.getElem?_eq_getElem k2]; simp)
          obtain ⟨U, hUn⟩ : ∃ t, strOfNums [d] = t := ⟨_, rfl⟩
          obtain ⟨hU1, hU2⟩ := rest_one hd0 hd1 hUn
          have HUn := Lib.hid hUn
          obtain ⟨S, hS⟩ : ∃ t, T ++ U = t := ⟨_, rfl⟩
          have hS2 : S.size = 2 := by rw [← hS, ByteArray.size_append]; omega
          have f0 : ∀ W : World, (Op.stringOp .add T U).run Tryd.prog W = .ok (.string S) W := fun W => by rw [← hS]; exact run_string_add_sum W _ _ (by omega)
          have f1 : ∀ W : World, (Op.stringOp .add out S).run Tryd.prog W = .ok (.string (out ++ S)) W := fun W => run_string_add_sum W _ _ (by omega)
          have HS2 : Hid (LoAt (blanksV hs) L (i + 2) (Bool.toNat true) n (out ++ S)) := Lib.hid (hS ▸ ls_esc HS.out (by omega) HV.out (hq ▸ hd) HT1.out hU1)
          have hz2 : (out ++ S).size ≤ 8010 := by rw [ByteArray.size_append]; omega
          have HC5 := Lib.hid hc5
          clear hd hUn hU1 hS hc5
          go_wp2_with (first
            | (have _ := w5; refine wpList_build1 rfl 22 5 (.tmp 67) rfl Tryd.underlying22 (.int .u8 d) rfl _ info5 (by kernel_rfl) (.int .u8 0) (by kernel_rfl) rfl rfl ?_; intro w6 hr6 hg6 hs6; clear hs6; simp only [Act.put, List.setIfInBounds_toArray, List.set_cons_zero, List.set_cons_succ]; refine wpList_conv_one rfl (.tmp 68) rfl _ d rfl hr6 ?_; simp only [Act.put, List.setIfInBounds_toArray, List.set_cons_zero, List.set_cons_succ]; rw [HUn.out]; have HG6 := Lib.hid (grown_own HG5.out hg6 (by simp)); clear hr6 hg6)
            | (refine wpList_build1 rfl 22 5 (.tmp 48) rfl Tryd.underlying22 (.int .u8 92) rfl _ info5 (by kernel_rfl) (.int .u8 0) (by kernel_rfl) rfl rfl ?_; intro w5 hr5 hg5 hs5; clear hs5; simp only [Act.put, List.setIfInBounds_toArray, List.set_cons_zero, List.set_cons_succ]; refine wpList_conv_one rfl (.tmp 49) rfl _ 92 rfl hr5 ?_; simp only [Act.put, List.setIfInBounds_toArray, List.set_cons_zero, List.set_cons_succ]; rw [HTn.out]; have HG5 := Lib.hid (grown_own HG.out hg5 (by simp)); have hc6 := below_cell (below_of_grown hg5) (HC5.out); clear hr5 hg5))
          go_roundw
          case rel => exact ⟨out ++ S, true, n, i + 2, by omega, rfl, rfl, rfl, by go_num, by omega, hz2, HS2, HG6⟩
          case measure => simp [intOf]; omega
        · have e3 : ¬ (i : Int) + 1 < (L.length : Int) := by omega
          have f1 : ∀ W : World, (Op.stringOp .add out T).run Tryd.prog W = .ok (.string (out ++ T)) W := fun W => run_string_add_sum W _ _ (by omega)
          have HS2 : Hid (LoAt (blanksV hs) L (i + 1) (Bool.toNat true) n (out ++ T)) := Lib.hid (ls_last HS.out (by omega) HV.out HT1.out)
          have hz2 : (out ++ T).size ≤ 8010 := by rw [ByteArray.size_append]; omega
          go_wp2_with (refine wpList_build1 rfl 22 5 (.tmp 48) rfl Tryd.underlying22 (.int .u8 92) rfl _ info5 (by kernel_rfl) (.int .u8 0) (by kernel_rfl) rfl rfl ?_; intro w5 hr5 hg5 hs5; clear hs5; simp only [Act.put, List.setIfInBounds_toArray, List.set_cons_zero, List.set_cons_succ]; refine wpList_conv_one rfl (.tmp 49) rfl _ 92 rfl hr5 ?_; simp only [Act.put, List.setIfInBounds_toArray, List.set_cons_zero, List.set_cons_succ]; rw [HTn.out]; have HG5 := Lib.hid (grown_own HG.out hg5 (by simp)); clear hr5 hg5)
          go_roundw
          case rel => exact ⟨out ++ T, true, n, i + 1, by omega, rfl, rfl, rfl, by go_num, by omega, hz2, HS2, HG5⟩
          case measure => simp [intOf]; omega
      have k1' : (v == 92) = false := by simpa using k1
      by_cases k3 : v = 34
      · subst k3
        have f1 : ∀ W : World, (Op.stringOp .add out T).run Tryd.prog W = .ok (.string (out ++ T)) W := fun W => run_string_add_sum W _ _ (by omega)
        have HS2 : Hid (LoAt (blanksV hs) L (i + 1) (Bool.toNat false) n (out ++ T)) := Lib.hid (ls_end HS.out hlt HV.out HT1.out)
        have hz2 : (out ++ T).size ≤ 8010 := by rw [ByteArray.size_append]; omega
        go_wp2_with (refine wpList_build1 rfl 22 5 (.tmp 48) rfl Tryd.underlying22 (.int .u8 34) rfl _ info5 (by kernel_rfl) (.int .u8 0) (by kernel_rfl) rfl rfl ?_; intro w5 hr5 hg5 hs5; clear hs5; simp only [Act.put, List.setIfInBounds_toArray, List.set_cons_zero, List.set_cons_succ]; refine wpList_conv_one rfl (.tmp 49) rfl _ 34 rfl hr5 ?_; simp only [Act.put, List.setIfInBounds_toArray, List.set_cons_zero, List.set_cons_succ]; rw [HTn.out]; have HG5 := Lib.hid (grown_own HG.out hg5 (by simp)); clear hr5 hg5)
        go_roundw
        case rel => exact ⟨out ++ T, false, n, i + 1, by omega, rfl, rfl, rfl, by go_num, by omega, hz2, HS2, HG5⟩
        case measure => simp [intOf]; omega
      have k3' : (v != 34) = true := by simpa using k3
      have f1 : ∀ W : World, (Op.stringOp .add out T).run Tryd.prog W = .ok (.string (out ++ T)) W := fun W => run_string_add_sum W _ _ (by omega)
      have HS2 : Hid (LoAt (blanksV hs) L (i + 1) (Bool.toNat true) n (out ++ T)) := Lib.hid (ls_in HS.out hlt HV.out HT1.out k1 k3)
      have hz2 : (out ++ T).size ≤ 8010 := by rw [ByteArray.size_append]; omega
      go_wp2_with (refine wpList_build1 rfl 22 5 (.tmp 48) rfl Tryd.underlying22 (.int .u8 v) rfl _ info5 (by kernel_rfl) (.int .u8 0) (by kernel_rfl) rfl rfl ?_; intro w5 hr5 hg5 hs5; clear hs5; simp only [Act.put, List.setIfInBounds_toArray, List.set_cons_zero, List.set_cons_succ]; refine wpList_conv_one rfl (.tmp 49) rfl _ v rfl hr5 ?_; simp only [Act.put, List.setIfInBounds_toArray, List.set_cons_zero, List.set_cons_succ]; rw [HTn.out]; have HG5 := Lib.hid (grown_own HG.out hg5 (by simp)); clear hr5 hg5)
      go_roundw
      case rel => exact ⟨out ++ T, true, n, i + 1, by omega, rfl, rfl, rfl, by go_num, by omega, hz2, HS2, HG5⟩
      case measure => simp [intOf]; omega
    | false =>
      by_cases k3 : v = 34
      · subst k3
        have f1 : ∀ W : World, (Op.stringOp .add out T).run Tryd.prog W = .ok (.string (out ++ T)) W := fun W => run_string_add_sum W _ _ (by omega)
        have HS2 : Hid (LoAt (blanksV hs) L (i + 1) (Bool.toNat true) n (out ++ T)) := Lib.hid (ls_open HS.out hlt HV.out HT1.out)
        have hz2 : (out ++ T).size ≤ 8010 := by rw [ByteArray.size_append]; omega
        go_wp2_with (refine wpList_build1 rfl 22 5 (.tmp 48) rfl Tryd.underlying22 (.int .u8 34) rfl _ info5 (by kernel_rfl) (.int .u8 0) (by kernel_rfl) rfl rfl ?_; intro w5 hr5 hg5 hs5; clear hs5; simp only [Act.put, List.setIfInBounds_toArray, List.set_cons_zero, List.set_cons_succ]; refine wpList_conv_one rfl (.tmp 49) rfl _ 34 rfl hr5 ?_; simp only [Act.put, List.setIfInBounds_toArray, List.set_cons_zero, List.set_cons_succ]; rw [HTn.out]; have HG5 := Lib.hid (grown_own HG.out hg5 (by simp)); clear hr5 hg5)
        go_roundw
        case rel => exact ⟨out ++ T, true, n, i + 1, by omega, rfl, rfl, rfl, by go_num, by omega, hz2, HS2, HG5⟩
        case measure => simp [intOf]; omega
      have k3' : (v == 34) = false := by simpa using k3
      cases hbr : braB v with
      | false =>
        have hb6 : (v == 123) = false ∧ (v == 125) = false ∧ (v == 91) = false ∧ (v == 93) = false ∧ (v == 44) = false ∧ (v == 58) = false := by
          unfold braB at hbr
          simp only [Bool.or_eq_false_iff] at hbr
          obtain ⟨⟨⟨⟨⟨a1, a2⟩, a3⟩, a4⟩, a5⟩, a6⟩ := hbr
          exact ⟨a1, a2, a3, a4, a5, a6⟩
        obtain ⟨g1, g2, g3, g4, g5, g6⟩ := hb6
        have f1 : ∀ W : World, (Op.stringOp .add out T).run Tryd.prog W = .ok (.string (out ++ T)) W := fun W => run_string_add_sum W _ _ (by omega)
        have HS2 : Hid (LoAt (blanksV hs) L (i + 1) (Bool.toNat false) n (out ++ T)) := Lib.hid (ls_out HS.out hlt HV.out HT1.out hbr k3)
        have hz2 : (out ++ T).size ≤ 8010 := by rw [ByteArray.size_append]; omega
        go_wp2_with (refine wpList_build1 rfl 22 5 (.tmp 48) rfl Tryd.underlying22 (.int .u8 v) rfl _ info5 (by kernel_rfl) (.int .u8 0) (by kernel_rfl) rfl rfl ?_; intro w5 hr5 hg5 hs5; clear hs5; simp only [Act.put, List.setIfInBounds_toArray, List.set_cons_zero, List.set_cons_succ]; refine wpList_conv_one rfl (.tmp 49) rfl _ v rfl hr5 ?_; simp only [Act.put, List.setIfInBounds_toArray, List.set_cons_zero, List.set_cons_succ]; rw [HTn.out]; have HG5 := Lib.hid (grown_own HG.out hg5 (by simp)); clear hr5 hg5)
        go_roundw
        case rel => exact ⟨out ++ T, false, n, i + 1, by omega, rfl, rfl, rfl, by go_num, by omega, hz2, HS2, HG5⟩
        case measure => simp [intOf]; omega
      | true =>
        have HBr := Lib.hid hbr
        have hm6 : v = 123 ∨ v = 125 ∨ v = 91 ∨ v = 93 ∨ v = 44 ∨ v = 58 := by
          unfold braB at hbr
          simp only [Bool.or_eq_true, beq_iff_eq] at hbr
          omega
        obtain ⟨m, hm⟩ : ∃ m, n % hs.length = m := ⟨_, rfl⟩
        have hml : m < hs.length := by rw [← hm]; exact Nat.mod_lt _ (by omega)
        have hmi : (n : Int) % (hs.length : Int) = (m : Int) := by omega
        obtain ⟨m2, hm2⟩ : ∃ m, (n + 1) % hs.length = m := ⟨_, rfl⟩
        have hml2 : m2 < hs.length := by rw [← hm2]; exact Nat.mod_lt _ (by omega)
        obtain ⟨n2, hn2⟩ : ∃ k, n + 1 = k := ⟨_, rfl⟩
        rw [hn2] at hm2
        have hmi2 : (n2 : Int) % (hs.length : Int) = (m2 : Int) := by omega
        have hn2i : (n : Int) + 1 = (n2 : Int) := by omega
        have hwr : IntKind.i64.wrap (n2 : Int) = (n2 : Int) := IntWalk.i64_in _ (by omega)
        have ht1 : (n : Int).tmod (hs.length : Int) = (m : Int) := by rw [Int.tmod_eq_emod_of_nonneg (by omega)]; exact hmi
        have ht2 : (n2 : Int).tmod (hs.length : Int) = (m2 : Int) := by rw [Int.tmod_eq_emod_of_nonneg (by omega)]; exact hmi2
        have hl1 : (m : Int) < (hs.length : Int) := by omega
        have hl2 : (m2 : Int) < (hs.length : Int) := by omega
        obtain ⟨x, hx⟩ : ∃ x, hs[m]? = some x := ⟨_, List.getElem?_eq_getElem hml⟩
        obtain ⟨y, hy⟩ : ∃ x, hs[m2]? = some x := ⟨_, List.getElem?_eq_getElem hml2⟩
        obtain ⟨hx1, hx2⟩ := Hhr.out x (List.mem_of_getElem? hx)
        obtain ⟨hy1, hy2⟩ := Hhr.out y (List.mem_of_getElem? hy)
        obtain ⟨X, hX⟩ : ∃ t, blankV x = t := ⟨_, rfl⟩
        obtain ⟨Y, hY⟩ : ∃ t, blankV y = t := ⟨_, rfl⟩
        have hXz : X.size ≤ 2 := by rw [← hX]; exact (blankV_bl x).2
        have hYz : Y.size ≤ 2 := by rw [← hY]; exact (blankV_bl y).2
        have hXr : restAt X 0 = blanksV hs n := by unfold blanksV; rw [hm, List.getD_eq_getElem?_getD, hx, ← hX]; rfl
        have hYr : restAt Y 0 = blanksV hs (n + 1) := by unfold blanksV; rw [hn2, hm2, List.getD_eq_getElem?_getD, hy, ← hY]; rfl
        obtain ⟨S1, hS1⟩ : ∃ t, X ++ T = t := ⟨_, rfl⟩
        obtain ⟨S2, hS2⟩ : ∃ t, S1 ++ Y = t := ⟨_, rfl⟩
        have z1 : S1.size ≤ 3 := by rw [← hS1, ByteArray.size_append]; omega
        have z2 : S2.size ≤ 5 := by rw [← hS2, ByteArray.size_append]; omega
        have f1 : ∀ W : World, (Op.stringOp .add X T).run Tryd.prog W = .ok (.string S1) W := fun W => by rw [← hS1]; exact run_string_add_sum W _ _ (by omega)
        have f2 : ∀ W : World, (Op.stringOp .add S1 Y).run Tryd.prog W = .ok (.string S2) W := fun W => by rw [← hS2]; exact run_string_add_sum W _ _ (by omega)
        have f3 : ∀ W : World, (Op.stringOp .add out S2).run Tryd.prog W = .ok (.string (out ++ S2)) W := fun W => run_string_add_sum W _ _ (by omega)
        have HS2 : Hid (LoAt (blanksV hs) L (i + 1) (Bool.toNat false) (n + 1) (out ++ S2)) := Lib.hid (by rw [← hS2, ← hS1]; exact ls_bra HS.out hlt HV.out HT1.out hbr hXr hYr)
        have hz2 : (out ++ S2).size ≤ 8010 := by rw [ByteArray.size_append]; omega
        have HbX : Hid (∀ W : World, Calls Tryd.prog 19 #[.int .i64 x] W fun e w' => e = .returned (.string X) ∧ w' = W) := Lib.hid (fun W => by rw [← hX]; exact (blank_any x W hx1 hx2).mono fun e w' ⟨h1, h2⟩ => ⟨h1, h2.symm⟩)
        have HbY : Hid (∀ W : World, Calls Tryd.prog 19 #[.int .i64 y] W fun e w' => e = .returned (.string Y) ∧ w' = W) := Lib.hid (fun W => by rw [← hY]; exact (blank_any y W hy1 hy2).mono fun e w' ⟨h1, h2⟩ => ⟨h1, h2.symm⟩)
        have Hx := Lib.hid hx
        have Hy := Lib.hid hy
        clear hm hm2 hX hY hXr hYr hS1 hS2 hx hy hbr hx1 hx2 hy1 hy2
        obtain ⟨bi, oi, rfl, hci⟩ := HAi.out m x Hx.out
        have hcj : w4.cell? ⟨bi, oi + m2, none⟩ = some (.int .i64 y) := by
          obtain ⟨b9, o9, e9, h9⟩ := HAi.out m2 y Hy.out
          simp only [Option.some.injEq, Addr.mk.injEq, and_true] at e9
          obtain ⟨rfl, rfl⟩ := e9
          exact h9
        have Hci := Lib.hid hci
        have Hcj := Lib.hid hcj
        clear hci hcj
        rcases hm6 with rfl | rfl | rfl | rfl | rfl | rfl
        · go_wp2_with (refine wpList_build1 rfl 22 5 (.tmp 48) rfl Tryd.underlying22 (.int .u8 123) rfl _ info5 (by kernel_rfl) (.int .u8 0) (by kernel_rfl) rfl rfl ?_; intro w5 hr5 hg5 hs5; clear hs5; simp only [Act.put, List.setIfInBounds_toArray, List.set_cons_zero, List.set_cons_succ]; refine wpList_conv_one rfl (.tmp 49) rfl _ 123 rfl hr5 ?_; simp only [Act.put, List.setIfInBounds_toArray, List.set_cons_zero, List.set_cons_succ]; rw [HTn.out]; have HG5 := Lib.hid (grown_own HG.out hg5 (by simp)); clear hr5 hg5; have hci := below_cell (below_of_grown HG5.out) Hci.out; have hcj := below_cell (below_of_grown HG5.out) Hcj.out)
          go_quiet ((go_at_call 19; first | with_reducible exact Calls.quiet_of_same (HbX.out _) | with_reducible exact Calls.quiet_of_same (HbY.out _)))
          go_wp2_with fail
          go_roundw
          case rel => exact ⟨out ++ S2, false, n2, i + 1, by omega, rfl, rfl, rfl, by go_num, by omega, hz2, hn2 ▸ HS2, Lib.hid (grown_drewN HG5.out nq)⟩
          case measure => simp [intOf]; omega
        · go_wp2_with (refine wpList_build1 rfl 22 5 (.tmp 48) rfl Tryd.underlying22 (.int .u8 125) rfl _ info5 (by kernel_rfl) (.int .u8 0) (by kernel_rfl) rfl rfl ?_; intro w5 hr5 hg5 hs5; clear hs5; simp only [Act.put, List.setIfInBounds_toArray, List.set_cons_zero, List.set_cons_succ]; refine wpList_conv_one rfl (.tmp 49) rfl _ 125 rfl hr5 ?_; simp only [Act.put, List.setIfInBounds_toArray, List.set_cons_zero, List.set_cons_succ]; rw [HTn.out]; have HG5 := Lib.hid (grown_own HG.out hg5 (by simp)); clear hr5 hg5; have hci := below_cell (below_of_grown HG5.out) Hci.out; have hcj := below_cell (below_of_grown HG5.out) Hcj.out)
          go_quiet ((go_at_call 19; first | with_reducible exact Calls.quiet_of_same (HbX.out _) | with_reducible exact Calls.quiet_of_same (HbY.out _)))
          go_wp2_with fail
          go_roundw
          case rel => exact ⟨out ++ S2, false, n2, i + 1, by omega, rfl, rfl, rfl, by go_num, by omega, hz2, hn2 ▸ HS2, Lib.hid (grown_drewN HG5.out nq)⟩
          case measure => simp [intOf]; omega
        · go_wp2_with (refine wpList_build1 rfl 22 5 (.tmp 48) rfl Tryd.underlying22 (.int .u8 91) rfl _ info5 (by kernel_rfl) (.int .u8 0) (by kernel_rfl) rfl rfl ?_; intro w5 hr5 hg5 hs5; clear hs5; simp only [Act.put, List.setIfInBounds_toArray, List.set_cons_zero, List.set_cons_succ]; refine wpList_conv_one rfl (.tmp 49) rfl _ 91 rfl hr5 ?_; simp only [Act.put, List.setIfInBounds_toArray, List.set_cons_zero, List.set_cons_succ]; rw [HTn.out]; have HG5 := Lib.hid (grown_own HG.out hg5 (by simp)); clear hr5 hg5; have hci := below_cell (below_of_grown HG5.out) Hci.out; have hcj := below_cell (below_of_grown HG5.out) Hcj.out)
          go_quiet ((go_at_call 19; first | with_reducible exact Calls.quiet_of_same (HbX.out _) | with_reducible exact Calls.quiet_of_same (HbY.out _)))
          go_wp2_with fail
          go_roundw
          case rel => exact ⟨out ++ S2, false, n2, i + 1, by omega, rfl, rfl, rfl, by go_num, by omega, hz2, hn2 ▸ HS2, Lib.hid (grown_drewN HG5.out nq)⟩
          case measure => simp [intOf]; omega
        · go_wp2_with (refine wpList_build1 rfl 22 5 (.tmp 48) rfl Tryd.underlying22 (.int .u8 93) rfl _ info5 (by kernel_rfl) (.int .u8 0) (by kernel_rfl) rfl rfl ?_; intro w5 hr5 hg5 hs5; clear hs5; simp only [Act.put, List.setIfInBounds_toArray, List.set_cons_zero, List.set_cons_succ]; refine wpList_conv_one rfl (.tmp 49) rfl _ 93 rfl hr5 ?_; simp only [Act.put, List.setIfInBounds_toArray, List.set_cons_zero, List.set_cons_succ]; rw [HTn.out]; have HG5 := Lib.hid (grown_own HG.out hg5 (by simp)); clear hr5 hg5; have hci := below_cell (below_of_grown HG5.out) Hci.out; have hcj := below_cell (below_of_grown HG5.out) Hcj.out)
          go_quiet ((go_at_call 19; first | with_reducible exact Calls.quiet_of_same (HbX.out _) | with_reducible exact Calls.quiet_of_same (HbY.out _)))
          go_wp2_with fail
          go_roundw
          case rel => exact ⟨out ++ S2, false, n2, i + 1, by omega, rfl, rfl, rfl, by go_num, by omega, hz2, hn2 ▸ HS2, Lib.hid (grown_drewN HG5.out nq)⟩
          case measure => simp [intOf]; omega
        · go_wp2_with (refine wpList_build1 rfl 22 5 (.tmp 48) rfl Tryd.underlying22 (.int .u8 44) rfl _ info5 (by kernel_rfl) (.int .u8 0) (by kernel_rfl) rfl rfl ?_; intro w5 hr5 hg5 hs5; clear hs5; simp only [Act.put, List.setIfInBounds_toArray, List.set_cons_zero, List.set_cons_succ]; refine wpList_conv_one rfl (.tmp 49) rfl _ 44 rfl hr5 ?_; simp only [Act.put, List.setIfInBounds_toArray, List.set_cons_zero, List.set_cons_succ]; rw [HTn.out]; have HG5 := Lib.hid (grown_own HG.out hg5 (by simp)); clear hr5 hg5; have hci := below_cell (below_of_grown HG5.out) Hci.out; have hcj := below_cell (below_of_grown HG5.out) Hcj.out)
          go_quiet ((go_at_call 19; first | with_reducible exact Calls.quiet_of_same (HbX.out _) | with_reducible exact Calls.quiet_of_same (HbY.out _)))
          go_wp2_with fail
          go_roundw
          case rel => exact ⟨out ++ S2, false, n2, i + 1, by omega, rfl, rfl, rfl, by go_num, by omega, hz2, hn2 ▸ HS2, Lib.hid (grown_drewN HG5.out nq)⟩
          case measure => simp [intOf]; omega
        · go_wp2_with (refine wpList_build1 rfl 22 5 (.tmp 48) rfl Tryd.underlying22 (.int .u8 58) rfl _ info5 (by kernel_rfl) (.int .u8 0) (by kernel_rfl) rfl rfl ?_; intro w5 hr5 hg5 hs5; clear hs5; simp only [Act.put, List.setIfInBounds_toArray, List.set_cons_zero, List.set_cons_succ]; refine wpList_conv_one rfl (.tmp 49) rfl _ 58 rfl hr5 ?_; simp only [Act.put, List.setIfInBounds_toArray, List.set_cons_zero, List.set_cons_succ]; rw [HTn.out]; have HG5 := Lib.hid (grown_own HG.out hg5 (by simp)); clear hr5 hg5; have hci := below_cell (below_of_grown HG5.out) Hci.out; have hcj := below_cell (below_of_grown HG5.out) Hcj.out)
          go_quiet ((go_at_call 19; first | with_reducible exact Calls.quiet_of_same (HbX.out _) | with_reducible exact Calls.quiet_of_same (HbY.out _)))
          go_wp2_with fail
          go_roundw
          case rel => exact ⟨out ++ S2, false, n2, i + 1, by omega, rfl, rfl, rfl, by go_num, by omega, hz2, hn2 ▸ HS2, Lib.hid (grown_drewN HG5.out nq)⟩
          case measure => simp [intOf]; omega
end Go.Proofs.YtlbilofnbhhmjaaDoor
