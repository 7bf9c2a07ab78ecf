/- A value's texts, with blanks wherever they may stand: each is read as the value. No program in it. -/
import Derived.Test.YtlbilofnbhhmjaaDoorPSpl
import Derived.Test.YtlbilofnbhhmjaaDoorPNum
import Derived.Test.YtlbilofnbhhmjaaDoorVal0
import Derived.Test.YtlbilofnbhhmjaaDoorSort
namespace Go.Proofs.YtlbilofnbhhmjaaDoor
open Go.Lib
set_option linter.unusedVariables false
set_option linter.unusedSimpArgs false
/-- Blanks alone. -/
def Bl (l : List Int) : Prop := ∀ c ∈ l, blankB c = true
def ListT (rec : J → List Int → Prop) : List J → List Int → Prop
  | [], _ => False
  | [v], l => ∃ m a, rec v m ∧ Bl a ∧ l = m ++ (a ++ [93])
  | v :: w :: vs, l => ∃ m a b l', rec v m ∧ Bl a ∧ Bl b ∧ ListT rec (w :: vs) l' ∧ l = m ++ (a ++ 44 :: (b ++ l'))
def ObT (rec : J → List Int → Prop) : List ByteArray → List J → List Int → Prop
  | [k], [v], l => ∃ x y m a, Bl x ∧ Bl y ∧ rec v m ∧ Bl a ∧ l = quoteS k ++ (x ++ 58 :: (y ++ (m ++ (a ++ [125]))))
  | k :: k2 :: ks, v :: v2 :: vs, l => ∃ x y m a b l', Bl x ∧ Bl y ∧ rec v m ∧ Bl a ∧ Bl b ∧ ObT rec (k2 :: ks) (v2 :: vs) l' ∧ l = quoteS k ++ (x ++ 58 :: (y ++ (m ++ (a ++ 44 :: (b ++ l')))))
  | _, _, _ => False
/-- A text of a value, so deep. -/
def Txt : Nat → J → List Int → Prop
  | 0, _, _ => False
  | f + 1, j, l =>
    (j.kd = 0 ∧ l = [110, 117, 108, 108]) ∨ (j.kd = 1 ∧ l = if j.bl then [116, 114, 117, 101] else [102, 97, 108, 115, 101]) ∨ (j.kd = 2 ∧ l = restAt j.tx 0) ∨ (j.kd = 3 ∧ l = quoteS j.tx) ∨
    (j.kd = 4 ∧ ∃ a m, Bl a ∧ l = 91 :: (a ++ m) ∧ (j.ls = [] ∧ m = [93] ∨ ListT (Txt f) j.ls m)) ∨ (j.kd = 5 ∧ ∃ a m, Bl a ∧ l = 123 :: (a ++ m) ∧ (j.ls = [] ∧ m = [125] ∨ ObT (Txt f) j.ks j.ls m))
/-- What a right value's kind says of its parts. -/
theorem J.eta (j : J) : j = .mk j.kd j.bl j.tx j.ks j.ls := by cases j; rfl
theorem tx_empty {t : ByteArray} (h : t.toList = []) : t = ⟨#[]⟩ := toList_inj (h.trans (show (⟨#[]⟩ : ByteArray).toList = [] from ByteArray.toList_eq _).symm)
structure KindIs (j : J) : Prop where
  k0 : j.kd = 0 → j = .mk 0 false ⟨#[]⟩ [] []
  k1 : j.kd = 1 → j = .mk 1 j.bl ⟨#[]⟩ [] []
  k2 : j.kd = 2 → j = .mk 2 false j.tx [] []
  k3 : j.kd = 3 → j = .mk 3 false j.tx [] []
  k4 : j.kd = 4 → j = .mk 4 false ⟨#[]⟩ [] j.ls
  k5 : j.kd = 5 → j = .mk 5 false ⟨#[]⟩ j.ks j.ls ∧ j.ks.length = j.ls.length
  all : j.kd = 0 ∨ j.kd = 1 ∨ j.kd = 2 ∨ j.kd = 3 ∨ j.kd = 4 ∨ j.kd = 5
theorem kindIs {j : J} (h : shapeV j.kd j.bl j.tx j.ks.length j.ls.length = true) : KindIs j := by
  obtain ⟨kd, b, t, ks, ls⟩ := j
  simp only [J.kd, J.bl, J.tx, J.ks, J.ls] at h
  have nil : ∀ {α : Type} (l : List α), (l.length == 0) = true → l = [] := fun l h => List.eq_nil_of_length_eq_zero (by simpa using h)
  unfold shapeV at h
  refine ⟨fun e => ?_, fun e => ?_, fun e => ?_, fun e => ?_, fun e => ?_, fun e => ?_, ?_⟩
  · simp only [J.kd] at e; subst e
    simp at h
    obtain ⟨⟨⟨rfl, h2⟩, h3⟩, h4⟩ := h
    rw [tx_empty h2, h3, h4]
  · simp only [J.kd] at e; subst e
    simp at h
    obtain ⟨⟨h2, h3⟩, h4⟩ := h
    rw [tx_empty h2, h3, h4]; rfl
  · simp only [J.kd] at e; subst e
    simp at h
    obtain ⟨⟨rfl, h3⟩, h4⟩ := h
    rw [h3, h4]; rfl
  · simp only [J.kd] at e; subst e
    simp at h
    obtain ⟨⟨rfl, h3⟩, h4⟩ := h
    rw [h3, h4]; rfl
  · simp only [J.kd] at e; subst e
    simp at h
    obtain ⟨⟨h3, rfl⟩, h2⟩ := h
    rw [h3, tx_empty h2]; rfl
  · simp only [J.kd] at e; subst e
    simp at h
    obtain ⟨⟨h3, rfl⟩, h2⟩ := h
    rw [tx_empty h2]; exact ⟨rfl, h3⟩
  · simp only [J.kd]
    by_cases e0 : kd = 0; · exact .inl e0
    by_cases e1 : kd = 1; · exact .inr (.inl e1)
    by_cases e2 : kd = 2; · exact .inr (.inr (.inl e2))
    by_cases e3 : kd = 3; · exact .inr (.inr (.inr (.inl e3)))
    by_cases e4 : kd = 4; · exact .inr (.inr (.inr (.inr (.inl e4))))
    by_cases e5 : kd = 5; · exact .inr (.inr (.inr (.inr (.inr e5))))
    rw [if_neg e0, if_neg e1, if_neg (by omega), if_neg e4, if_neg e5] at h
    cases h
theorem right_kind {f : Nat} {j : J} (h : Right f j) : KindIs j := by
  cases f with
  | zero => exact h.elim
  | succ f => unfold Right at h; exact kindIs h.1
/-! ### Blanks are gone over -/
theorem skip_bl {s : ByteArray} : ∀ (l : List Int) (i : Nat), At s i l → Bl l → blankB (ch s (i + l.length)) = false → skip s i = i + l.length
  | [], i, _, _, h => skip_stop h
  | c :: l, i, h, hb, h2 => by
    obtain ⟨⟨_, h1⟩, h3⟩ := At.cons.1 h
    rw [skip_blank (by rw [h1]; exact hb c (by simp)), skip_bl l (i + 1) h3 (fun x hx => hb x (by simp [hx])) (by rw [show i + 1 + l.length = i + (c :: l).length by simp; omega]; exact h2), List.length_cons]
    omega
theorem skip_to {s : ByteArray} {i : Nat} {a : List Int} {c : Int} {r : List Int} (h : At s i (a ++ c :: r)) (ha : Bl a) (hc : blankB c = false) : skip s i = i + a.length ∧ ch s (i + a.length) = c ∧ At s (i + a.length + 1) r := by
  obtain ⟨h1, h2⟩ := At.append.1 h
  obtain ⟨⟨_, h3⟩, h4⟩ := At.cons.1 h2
  exact ⟨skip_bl a i h1 ha (by rw [h3]; exact hc), h3, h4⟩
theorem stop_blank {c : Int} (h : blankB c = true) : stopC c := by
  unfold blankB at h
  simp at h
  rcases h with ((rfl | rfl) | rfl) | rfl <;> exact ⟨rfl, by decide, by decide, by decide⟩
/-- What stands behind a value: blanks, then a sign that goes on with no number. -/
theorem stop_of {s : ByteArray} {i : Nat} {a : List Int} {c : Int} {r : List Int} (h : At s i (a ++ c :: r)) (ha : Bl a) (hc : stopC c) : stopC (ch s i) := by
  cases a with
  | nil => obtain ⟨⟨_, h3⟩, _⟩ := At.cons.1 h; rw [h3]; exact hc
  | cons x a =>
    obtain ⟨⟨_, h3⟩, _⟩ := At.cons.1 h
    rw [h3]; exact stop_blank (ha x (by simp))
theorem begins_blank {c : Int} (h : beginsB c = true) : blankB c = false := by
  cases hb : blankB c with
  | false => rfl
  | true =>
    unfold blankB at hb
    simp at hb
    rcases hb with ((rfl | rfl) | rfl) | rfl <;> cases h
theorem quote_begins (t : ByteArray) : ∃ m, quoteS t = 34 :: m := ⟨_, rfl⟩
theorem num_begins {t : ByteArray} (h : num t 0 = .ok () t.size) : 0 < t.size ∧ beginsB (ch t 0) = true ∧ ch t 0 ≠ 123 ∧ ch t 0 ≠ 91 ∧ ch t 0 ≠ 34 ∧ ch t 0 ≠ 116 ∧ ch t 0 ≠ 102 ∧ ch t 0 ≠ 110 := by
  have hd : ch t 0 = 45 ∨ digitB (ch t 0) = true := by
    by_cases h45 : ch t 0 = 45
    · exact .inl h45
    · right
      unfold num numInt at h
      rw [if_neg h45] at h
      by_cases h48 : ch t 0 = 48
      · rw [h48]; rfl
      · rw [if_neg h48] at h
        cases hg : digitB (ch t 0) with
        | true => rfl
        | false =>
          rw [show run1 t 0 = .no 0 130 from by unfold run1; rw [digits_stop hg, if_pos rfl]] at h
          cases h
  have hpos : 0 < t.size := ch_pos (fun e => by rw [e] at hd; rcases hd with hd | hd <;> cases hd)
  rcases hd with e | e
  · rw [e]; exact ⟨hpos, rfl, by decide, by decide, by decide, by decide, by decide, by decide⟩
  · refine ⟨hpos, by unfold beginsB; rw [e]; simp, ?_⟩
    unfold digitB at e
    simp at e
    omega
theorem numB_ok {t : ByteArray} (h : numB t = true) : num t 0 = .ok () t.size := by
  unfold numB numV at h
  cases hn : num t 0 with
  | ok u j =>
    rw [hn] at h
    simp at h
    obtain rfl : j = t.size := by omega
    rfl
  | no j e => rw [hn] at h; simp at h; omega
/-- A right value's text begins as a value does. -/
theorem txt_begins {f : Nat} {j : J} {l : List Int} (hr : Right f j) (h : Txt f j l) : ∃ c m, l = c :: m ∧ beginsB c = true := by
  cases f with
  | zero => exact h.elim
  | succ f =>
    unfold Txt at h
    rcases h with ⟨_, rfl⟩ | ⟨_, rfl⟩ | ⟨hk, rfl⟩ | ⟨_, rfl⟩ | ⟨_, a, m, _, rfl, _⟩ | ⟨_, a, m, _, rfl, _⟩
    · exact ⟨_, _, rfl, rfl⟩
    · split
      · exact ⟨_, _, rfl, rfl⟩
      · exact ⟨_, _, rfl, rfl⟩
    · unfold Right at hr
      obtain ⟨h1, h2, _⟩ := num_begins (numB_ok (hr.2.2.1 hk))
      refine ⟨ch j.tx 0, bytesAt j.tx 1 (j.tx.size - 1), ?_, h2⟩
      unfold restAt
      rw [show j.tx.size - 0 = 1 + (j.tx.size - 1) by omega, bytesAt_add, bytesAt_one]; rfl
    · exact ⟨_, _, rfl, rfl⟩
    · exact ⟨_, _, rfl, rfl⟩
    · exact ⟨_, _, rfl, rfl⟩
theorem At.head {s : ByteArray} {i : Nat} {c : Int} {m : List Int} (h : At s i (c :: m)) : ch s i = c := (At.cons.1 h).1.2
theorem bl_begins {s : ByteArray} {i : Nat} {b l : List Int} (h : At s i (b ++ l)) (hb : Bl b) {c : Int} {m : List Int} (hl : l = c :: m) (hc : beginsB c = true) : skip s i = i + b.length ∧ At s (i + b.length) l := by
  have h2 := (At.append.1 h).2
  subst hl
  exact ⟨(skip_to h hb (begins_blank hc)).1, h2⟩
theorem listT_begins {f : Nat} : ∀ {vs : List J} {l : List Int}, (∀ v ∈ vs, Right f v) → ListT (Txt f) vs l → ∃ c m, l = c :: m ∧ beginsB c = true
  | [], l, _, h => h.elim
  | [v], l, hr, h => by
    obtain ⟨m, a, h1, _, rfl⟩ := h
    obtain ⟨c, m', rfl, hc⟩ := txt_begins (hr v (by simp)) h1
    exact ⟨c, _, rfl, hc⟩
  | v :: w :: vs, l, hr, h => by
    obtain ⟨m, a, b, l', h1, _, _, _, rfl⟩ := h
    obtain ⟨c, m', rfl, hc⟩ := txt_begins (hr v (by simp)) h1
    exact ⟨c, _, rfl, hc⟩
theorem obT_begins {rec : J → List Int → Prop} {ks : List ByteArray} {vs : List J} {l : List Int} (h : ObT rec ks vs l) : ∃ m, l = 34 :: m := by
  match ks, vs, h with
  | [k], [v], h => obtain ⟨x, y, m, a, _, _, _, _, rfl⟩ := h; exact ⟨_, rfl⟩
  | k :: k2 :: ks, v :: v2 :: vs, h => obtain ⟨x, y, m, a, b, l', _, _, _, _, _, _, rfl⟩ := h; exact ⟨_, rfl⟩
theorem listT_len {f : Nat} : ∀ {vs : List J} {l : List Int}, (∀ v ∈ vs, Right f v) → ListT (Txt f) vs l → vs.length < l.length
  | [], l, _, h => h.elim
  | [v], l, hr, h => by
    obtain ⟨m, a, h1, _, rfl⟩ := h
    obtain ⟨c, t, rfl, _⟩ := txt_begins (hr v (by simp)) h1
    simp; omega
  | v :: w :: vs, l, hr, h => by
    obtain ⟨m, a, b, l', h1, _, _, h2, rfl⟩ := h
    have := listT_len (fun x hx => hr x (by simp at hx ⊢; exact .inr hx)) h2
    simp only [List.length_append, List.length_cons] at this ⊢; omega
theorem obT_len {rec : J → List Int → Prop} : ∀ {ks : List ByteArray} {vs : List J} {l : List Int}, ObT rec ks vs l → vs.length < l.length ∧ ks.length = vs.length
  | [k], [v], l, h => by obtain ⟨x, y, m, a, _, _, _, _, rfl⟩ := h; refine ⟨?_, rfl⟩; simp [quoteS]; omega
  | k :: k2 :: ks, v :: v2 :: vs, l, h => by
    obtain ⟨x, y, m, a, b, l', _, _, _, _, _, h2, rfl⟩ := h
    obtain ⟨h3, h4⟩ := obT_len h2
    refine ⟨?_, by simp at *; omega⟩
    simp [quoteS] at *; omega
  | [], _, l, h => by cases h
  | [k], [], l, h => by cases h
  | [k], v :: v2 :: vs, l, h => by cases h
  | k :: k2 :: ks, [], l, h => by cases h
  | k :: k2 :: ks, [v], l, h => by cases h
/-! ### Lists and objects -/
/-- What is known of the reading of the values inside. -/
def Reads (s : ByteArray) (val : Nat → R J) (f : Nat) : Prop := ∀ (v : J) (m : List Int) (i : Nat), Right f v → Txt f v m → At s i m → stopC (ch s (i + m.length)) → val i = .ok v (i + m.length)
theorem stop93 : stopC 93 := ⟨rfl, by decide, by decide, by decide⟩
theorem stop44 : stopC 44 := ⟨rfl, by decide, by decide, by decide⟩
theorem stop125 : stopC 125 := ⟨rfl, by decide, by decide, by decide⟩
theorem items_list {s : ByteArray} {val : Nat → R J} {f : Nat} (hv : Reads s val f) : ∀ (vs : List J) (l : List Int) (F i : Nat) (ls : List J), (∀ v ∈ vs, Right f v) → ListT (Txt f) vs l → At s i l → vs.length ≤ F → ls.length + vs.length ≤ 256 →
    itemsN s val false F i [] ls = .ok (.mk 4 false ⟨#[]⟩ [] (ls ++ vs)) (i + l.length)
  | [], l, F, i, ls, _, h, _, _, _ => h.elim
  | [v], l, F, i, ls, hr, h, ha, hF, hn => by
    obtain ⟨m, a, h1, hb, rfl⟩ := h
    obtain ⟨ha1, ha2⟩ := At.append.1 ha
    have hval := hv v m i (hr v (by simp)) h1 ha1 (stop_of ha2 hb stop93)
    obtain ⟨e1, e2, _⟩ := skip_to ha2 hb rfl
    match F, hF with
    | F + 1, _ =>
      rw [(listIs s val F i ls).end_ (by intro h; have := h.1; simp at hn; omega) v _ hval (by rw [e1]; exact e2), e1]
      congr 1
      simp; omega
  | v :: w :: vs, l, F, i, ls, hr, h, ha, hF, hn => by
    obtain ⟨m, a, b, l', h1, hb, hb2, h2, rfl⟩ := h
    obtain ⟨ha1, ha2⟩ := At.append.1 ha
    have hval := hv v m i (hr v (by simp)) h1 ha1 (stop_of ha2 hb stop44)
    obtain ⟨e1, e2, e3⟩ := skip_to ha2 hb rfl
    obtain ⟨c, m', hl', hc⟩ := listT_begins (fun x hx => hr x (by simp at hx ⊢; exact .inr hx)) h2
    obtain ⟨e4, e5⟩ := bl_begins e3 hb2 hl' hc
    match F, hF with
    | F + 1, hF =>
      rw [← (listIs s val F i ls).more (by intro h; have := h.1; simp at hn; omega) v _ hval (by rw [e1]; exact e2), e1, e4,
        items_list hv (w :: vs) l' F _ (ls ++ [v]) (fun x hx => hr x (by simp at hx ⊢; exact .inr hx)) h2 e5 (by simp at hF ⊢; omega) (by simp at hn ⊢; omega)]
      rw [List.append_assoc, List.singleton_append]
      congr 1
      simp; omega
theorem items_ob {s : ByteArray} {val : Nat → R J} {f : Nat} (hv : Reads s val f) : ∀ (ks2 : List ByteArray) (vs : List J) (l : List Int) (F i : Nat) (ks : List ByteArray) (ls : List J), (∀ v ∈ vs, Right f v) → (∀ k ∈ ks2, utfFrom k 0 = true) → (ks ++ ks2).Nodup → ObT (Txt f) ks2 vs l → At s i l → vs.length ≤ F → ks.length + ks2.length ≤ 256 →
    itemsN s val true F i ks ls = .ok (.mk 5 false ⟨#[]⟩ (ks ++ ks2) (ls ++ vs)) (i + l.length) := by
  have key : ∀ (k : ByteArray) (ks ks2 : List ByteArray) (i : Nat) (x y z : List Int), utfFrom k 0 = true → (ks ++ k :: ks2).Nodup → ks.length < 256 → At s i (quoteS k ++ (x ++ 58 :: (y ++ z))) → Bl x → Bl y → (∃ c m, z = c :: m ∧ beginsB c = true) →
      jkey s ks i = .ok k (i + (quoteS k).length + x.length + 1 + y.length) ∧ At s (i + (quoteS k).length + x.length + 1 + y.length) z := by
    intro k ks ks2 i x y z hu hn hl ha hx hy ⟨c, m, hz, hc⟩
    obtain ⟨h1, h2⟩ := At.append.1 ha
    obtain ⟨e1, e2, e3⟩ := skip_to h2 hx rfl
    obtain ⟨e4, e5⟩ := bl_begins e3 hy hz hc
    have ht := text_quote hu h1
    have hi : ch s i = 34 := by
      obtain ⟨m, hm⟩ := quote_begins k
      rw [hm] at h1; exact h1.head
    refine ⟨?_, e5⟩
    have hks := keyIs (ks := ks) hi (by omega)
    rw [hks.done _ _ ht (by
      rw [str_restAt]
      rw [List.any_eq_false]
      intro q hq
      rw [List.nodup_append] at hn
      have := hn.2.2 q hq k (by simp)
      simpa using this) (by rw [e1]; exact e2), str_restAt, e1, e4]
  intro ks2 vs
  induction ks2 generalizing vs with
  | nil => intro l F i ks ls _ _ _ h; cases vs <;> exact h.elim
  | cons k ks2 ih =>
    intro l F i ks ls hr hu hn h ha hF hl
    cases ks2 with
    | nil =>
      match vs, h with
      | [v], h =>
        obtain ⟨x, y, m, a, hx, hy, h1, hb, rfl⟩ := h
        obtain ⟨c, m', hm, hc⟩ := txt_begins (hr v (by simp)) h1
        obtain ⟨hk, ha3⟩ := key k ks [] i x y _ (hu k (by simp)) hn (by simp at hl; omega) ha hx hy ⟨c, m' ++ (a ++ [125]), by rw [hm]; rfl, hc⟩
        obtain ⟨ha1, ha2⟩ := At.append.1 ha3
        have hval := hv v m _ (hr v (by simp)) h1 ha1 (stop_of ha2 hb stop125)
        obtain ⟨e1, e2, _⟩ := skip_to ha2 hb rfl
        match F, hF with
        | F + 1, _ =>
          rw [(obIs s val F i ks ls).end_ k _ hk v _ hval (by rw [e1]; exact e2), e1]
          congr 1
          simp; omega
    | cons k2 ks2 =>
      match vs, h with
      | v :: v2 :: vs, h =>
        obtain ⟨x, y, m, a, b, l', hx, hy, h1, hb, hb2, h2, rfl⟩ := h
        obtain ⟨c, m', hm, hc⟩ := txt_begins (hr v (by simp)) h1
        obtain ⟨hk, ha3⟩ := key k ks (k2 :: ks2) i x y _ (hu k (by simp)) hn (by simp at hl; omega) ha hx hy ⟨c, m' ++ (a ++ 44 :: (b ++ l')), by rw [hm]; rfl, hc⟩
        obtain ⟨ha1, ha2⟩ := At.append.1 ha3
        have hval := hv v m _ (hr v (by simp)) h1 ha1 (stop_of ha2 hb stop44)
        obtain ⟨e1, e2, e3⟩ := skip_to ha2 hb rfl
        obtain ⟨m2, hl'⟩ := obT_begins h2
        obtain ⟨e4, e5⟩ := bl_begins e3 hb2 hl' rfl
        match F, hF with
        | F + 1, hF =>
          rw [← (obIs s val F i ks ls).more k _ hk v _ hval (by rw [e1]; exact e2), e1, e4,
            ih (v2 :: vs) l' F _ (ks ++ [k]) (ls ++ [v]) (fun x hx => hr x (by simp at hx ⊢; exact .inr hx)) (fun q hq => hu q (by simp at hq ⊢; exact .inr hq)) (by rw [List.append_assoc]; exact hn) h2 e5 (by simp at hF ⊢; omega) (by simp at hl ⊢; omega)]
          rw [List.append_assoc, List.singleton_append, List.append_assoc, List.singleton_append]
          congr 1
          simp; omega
/-! ### Values -/
theorem word_at {s w : ByteArray} {i : Nat} : ∀ (f k : Nat), f + k = w.size → (∀ n, n < w.size → ch s (i + n) = ch w n) → wordAt s w f (i + k) = .ok () (i + w.size)
  | 0, k, h, _ => by unfold wordAt; congr 1; omega
  | f + 1, k, h, hc => by
    unfold wordAt
    rw [if_pos (by rw [hc k (by omega)]; congr 1; omega), Nat.add_assoc, word_at f (k + 1) (by omega) hc]
theorem word_read {s w : ByteArray} {i : Nat} (h : At s i (restAt w 0)) : word s w i = .ok () (i + w.size) := by
  unfold word
  have := word_at (s := s) (w := w) (i := i) w.size 0 (by omega) (fun n hn => h.fits n hn)
  rwa [Nat.add_zero] at this
theorem extract_at {s t : ByteArray} {i : Nat} (h : At s i (restAt t 0)) : s.extract i (i + t.size) = t := by
  have hs := h.1
  rw [restAt_len] at hs
  apply ByteArray.ext
  apply Array.ext
  · show (s.extract i (i + t.size)).size = t.size
    rw [ByteArray.size_extract]; omega
  · intro k h1 h2
    have hk : k < t.size := h2
    have e := h.fits k hk
    rw [ch_in (by omega), ch_in hk] at e
    have e2 : (s[i + k]'(by omega)) = t[k] := UInt8.toNat_inj.1 (by omega)
    have e3 : (s.extract i (i + t.size))[k]'(by rw [ByteArray.size_extract]; omega) = s[i + k]'(by omega) := by simp [ByteArray.getElem_extract]
    exact e3.trans e2
theorem value_read : ∀ (f : Nat) (j : J) (l : List Int) (d : Nat) (s : ByteArray) (i : Nat), f ≤ d → Right f j → Txt f j l → At s i l → stopC (ch s (i + l.length)) → value s d i = .ok j (i + l.length)
  | 0, j, l, d, s, i, _, _, h, _, _ => h.elim
  | f + 1, j, l, 0, s, i, hd, _, _, _, _ => by omega
  | f + 1, j, l, d + 1, s, i, hd, hr, h, ha, hs => by
    have hreads : Reads s (value s d) f := fun v m i hr h ha hs => value_read f v m d s i (by omega) hr h ha hs
    obtain ⟨c0, m0, hl0, hb0⟩ := txt_begins hr h
    have hbi : beginsB (ch s i) = true := by rw [hl0] at ha; rw [ha.head]; exact hb0
    have hV := valueIs (s := s) (d := d) hbi
    have hK := right_kind hr
    unfold Right at hr
    obtain ⟨_, hr2, hrn, hrt, hro, hrl⟩ := hr
    unfold Txt at h
    rcases h with ⟨hk, rfl⟩ | ⟨hk, rfl⟩ | ⟨hk, rfl⟩ | ⟨hk, rfl⟩ | ⟨hk, a, m, hba, rfl, hm⟩ | ⟨hk, a, m, hba, rfl, hm⟩
    · rw [hV.nullOk ha.head () (i + 4) (word_read (w := ⟨#[110, 117, 108, 108]⟩) ha)]
      rw [hK.k0 hk]; rfl
    · cases hbl : j.bl with
      | true =>
        rw [hbl] at ha
        rw [hV.trueOk ha.head () (i + 4) (word_read (w := ⟨#[116, 114, 117, 101]⟩) ha)]
        rw [hK.k1 hk, hbl]; rfl
      | false =>
        rw [hbl] at ha
        rw [hV.falseOk ha.head () (i + 5) (word_read (w := ⟨#[102, 97, 108, 115, 101]⟩) ha)]
        rw [hK.k1 hk, hbl]; rfl
    · have hn := numB_ok (hrn hk)
      rw [restAt_len] at hs ⊢
      have hnum := num_fit ha.fits hs hn
      obtain ⟨h1, _, n1, n2, n3, n4, n5, n6⟩ := num_begins hn
      have e0 : ch s i = ch j.tx 0 := by have := ha.fits 0 h1; rwa [Nat.add_zero] at this
      rw [← e0] at n1 n2 n3 n4 n5 n6
      rw [hV.numOk n1 n2 n3 n4 n5 n6 () _ hnum, extract_at ha]
      exact congrArg (R.ok · _) (hK.k2 hk).symm
    · rw [hV.textOk (by obtain ⟨m, hm⟩ := quote_begins j.tx; rw [hm] at ha; exact ha.head) _ _ (text_quote (hrt hk) ha), str_restAt]
      exact congrArg (R.ok · _) (hK.k3 hk).symm
    · rw [← hV.list ha.head]
      obtain ⟨_, ha1⟩ := At.cons.1 ha
      unfold members
      rcases hm with ⟨hnil, rfl⟩ | hm
      · obtain ⟨e1, e2, _⟩ := skip_to (r := []) ha1 hba rfl
        rw [e1, if_pos (by rw [e2]; rfl)]
        simp only [Bool.false_eq_true, if_false]
        rw [hK.k4 hk, hnil]
        congr 1
        simp; omega
      · obtain ⟨c, m', hl', hc⟩ := listT_begins hrl hm
        obtain ⟨e4, e5⟩ := bl_begins ha1 hba hl' hc
        have hcc : ch s (i + 1 + a.length) = c := by rw [hl'] at e5; exact e5.head
        have hcc2 : c ≠ 93 := fun e => by rw [e] at hc; cases hc
        have hlen := listT_len hrl hm
        have hsz := e5.1
        rw [e4, if_neg (by rw [hcc]; exact hcc2), items_list hreads j.ls m (s.size + 1) _ [] hrl hm e5 (by omega) (by simpa using hr2), List.nil_append]
        rw [← hK.k4 hk]
        congr 1
        simp; omega
    · rw [← hV.obj ha.head]
      obtain ⟨_, ha1⟩ := At.cons.1 ha
      have hK5 := hK.k5 hk
      obtain ⟨hu, hn⟩ := hro hk
      unfold members
      rcases hm with ⟨hnil, rfl⟩ | hm
      · obtain ⟨e1, e2, _⟩ := skip_to (r := []) ha1 hba rfl
        rw [e1, if_pos (by rw [e2]; rfl)]
        have hks : j.ks = [] := List.eq_nil_of_length_eq_zero (by rw [hK5.2, hnil]; rfl)
        simp only [if_true]
        rw [hK5.1, hnil, hks]
        congr 1
        simp; omega
      · obtain ⟨m', hl'⟩ := obT_begins hm
        obtain ⟨e4, e5⟩ := bl_begins ha1 hba hl' rfl
        have hcc : ch s (i + 1 + a.length) = 34 := by rw [hl'] at e5; exact e5.head
        obtain ⟨hlen, hlen2⟩ := obT_len hm
        have hsz := e5.1
        rw [e4, if_neg (by rw [hcc]; decide), items_ob hreads j.ks j.ls m (s.size + 1) _ [] [] hrl (fun k hk => hu k hk) (by simpa using hn) hm e5 (by omega) (by simp; omega), List.nil_append, List.nil_append]
        rw [← hK5.1]
        congr 1
        simp; omega
end Go.Proofs.YtlbilofnbhhmjaaDoor
