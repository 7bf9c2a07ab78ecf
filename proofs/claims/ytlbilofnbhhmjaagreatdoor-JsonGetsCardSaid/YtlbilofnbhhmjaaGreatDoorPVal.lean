/- A value's texts, with blanks wherever they may stand: each is read as the value. No program in it. What is written is read as the value with its members by rising keys, and written again it is the same. No program in it. What is parsed is right, and written no longer; what check lets through and what it counts; a value's text does not turn with its members' order. No program in it. -/
import Derived.Test.YtlbilofnbhhmjaaGreatDoorPText
import Derived.Test.YtlbilofnbhhmjaaGreatDoorPNum
import Derived.Test.YtlbilofnbhhmjaaGreatDoorVal0
import Derived.Test.YtlbilofnbhhmjaaGreatDoorSort
namespace Go.Proofs.YtlbilofnbhhmjaaGreatDoor
section
open Go.Lib
set_option linter.unusedVariables false
set_option linter.unusedSimpArgs false
/-- Blanks alone. -/
def Bl (l : List Int) : Prop := ∀ c ∈ l, blankB c = true
def ListT (rec : J → List Int → Prop) : List J → List Int → Prop
  | [], _ => False
  | [v], l => ∃ m a, rec v m ∧ Bl a ∧ l = m ++ (a ++ [93])
  | v :: w :: vs, l => ∃ m a b l', rec v m ∧ Bl a ∧ Bl b ∧ ListT rec (w :: vs) l' ∧ l = m ++ (a ++ 44 :: (b ++ l'))
def ObT (rec : J → List Int → Prop) : List ByteArray → List J → List Int → Prop
  | [k], [v], l => ∃ x y m a, Bl x ∧ Bl y ∧ rec v m ∧ Bl a ∧ l = quoteS k ++ (x ++ 58 :: (y ++ (m ++ (a ++ [125]))))
  | k :: k2 :: ks, v :: v2 :: vs, l => ∃ x y m a b l', Bl x ∧ Bl y ∧ rec v m ∧ Bl a ∧ Bl b ∧ ObT rec (k2 :: ks) (v2 :: vs) l' ∧ l = quoteS k ++ (x ++ 58 :: (y ++ (m ++ (a ++ 44 :: (b ++ l')))))
  | _, _, _ => False
/-- A text of a value, so deep. -/
def Txt : Nat → J → List Int → Prop
  | 0, _, _ => False
  | f + 1, j, l =>
    (j.kd = 0 ∧ l = [110, 117, 108, 108]) ∨ (j.kd = 1 ∧ l = if j.bl then [116, 114, 117, 101] else [102, 97, 108, 115, 101]) ∨ (j.kd = 2 ∧ l = restAt j.tx 0) ∨ (j.kd = 3 ∧ l = quoteS j.tx) ∨
    (j.kd = 4 ∧ ∃ a m, Bl a ∧ l = 91 :: (a ++ m) ∧ (j.ls = [] ∧ m = [93] ∨ ListT (Txt f) j.ls m)) ∨ (j.kd = 5 ∧ ∃ a m, Bl a ∧ l = 123 :: (a ++ m) ∧ (j.ls = [] ∧ m = [125] ∨ ObT (Txt f) j.ks j.ls m))
/-- What a right value's kind says of its parts. -/
theorem J.eta (j : J) : j = .mk j.kd j.bl j.tx j.ks j.ls := by cases j; rfl
theorem tx_empty {t : ByteArray} (h : t.toList = []) : t = ⟨#[]⟩ := toList_inj (h.trans (show (⟨#[]⟩ : ByteArray).toList = [] from ByteArray.toList_eq _).symm)
structure KindIs (j : J) : Prop where
  k0 : j.kd = 0 → j = .mk 0 false ⟨#[]⟩ [] []
  k1 : j.kd = 1 → j = .mk 1 j.bl ⟨#[]⟩ [] []
  k2 : j.kd = 2 → j = .mk 2 false j.tx [] []
  k3 : j.kd = 3 → j = .mk 3 false j.tx [] []
  k4 : j.kd = 4 → j = .mk 4 false ⟨#[]⟩ [] j.ls
  k5 : j.kd = 5 → j = .mk 5 false ⟨#[]⟩ j.ks j.ls ∧ j.ks.length = j.ls.length
  all : j.kd = 0 ∨ j.kd = 1 ∨ j.kd = 2 ∨ j.kd = 3 ∨ j.kd = 4 ∨ j.kd = 5
theorem kindIs {j : J} (h : shapeV j.kd j.bl j.tx j.ks.length j.ls.length = true) : KindIs j := by
  obtain ⟨kd, b, t, ks, ls⟩ := j
  simp only [J.kd, J.bl, J.tx, J.ks, J.ls] at h
  have nil : ∀ {α : Type} (l : List α), (l.length == 0) = true → l = [] := fun l h => List.eq_nil_of_length_eq_zero (by simpa using h)
  unfold shapeV at h
  refine ⟨fun e => ?_, fun e => ?_, fun e => ?_, fun e => ?_, fun e => ?_, fun e => ?_, ?_⟩
  · simp only [J.kd] at e; subst e
    simp at h
    obtain ⟨⟨⟨rfl, h2⟩, h3⟩, h4⟩ := h
    rw [tx_empty h2, h3, h4]
  · simp only [J.kd] at e; subst e
    simp at h
    obtain ⟨⟨h2, h3⟩, h4⟩ := h
    rw [tx_empty h2, h3, h4]; rfl
  · simp only [J.kd] at e; subst e
    simp at h
    obtain ⟨⟨rfl, h3⟩, h4⟩ := h
    rw [h3, h4]; rfl
  · simp only [J.kd] at e; subst e
    simp at h
    obtain ⟨⟨rfl, h3⟩, h4⟩ := h
    rw [h3, h4]; rfl
  · simp only [J.kd] at e; subst e
    simp at h
    obtain ⟨⟨h3, rfl⟩, h2⟩ := h
    rw [h3, tx_empty h2]; rfl
  · simp only [J.kd] at e; subst e
    simp at h
    obtain ⟨⟨h3, rfl⟩, h2⟩ := h
    rw [tx_empty h2]; exact ⟨rfl, h3⟩
  · simp only [J.kd]
    by_cases e0 : kd = 0; · exact .inl e0
    by_cases e1 : kd = 1; · exact .inr (.inl e1)
    by_cases e2 : kd = 2; · exact .inr (.inr (.inl e2))
    by_cases e3 : kd = 3; · exact .inr (.inr (.inr (.inl e3)))
    by_cases e4 : kd = 4; · exact .inr (.inr (.inr (.inr (.inl e4))))
    by_cases e5 : kd = 5; · exact .inr (.inr (.inr (.inr (.inr e5))))
    rw [if_neg e0, if_neg e1, if_neg (by omega), if_neg e4, if_neg e5] at h
    cases h
theorem right_kind {f : Nat} {j : J} (h : Right f j) : KindIs j := by
  cases f with
  | zero => exact h.elim
  | succ f => unfold Right at h; exact kindIs h.1
/-! ### Blanks are gone over -/
theorem skip_bl {s : ByteArray} : ∀ (l : List Int) (i : Nat), At s i l → Bl l → blankB (ch s (i + l.length)) = false → skip s i = i + l.length
  | [], i, _, _, h => skip_stop h
  | c :: l, i, h, hb, h2 => by
    obtain ⟨⟨_, h1⟩, h3⟩ := At.cons.1 h
    rw [skip_blank (by rw [h1]; exact hb c (by simp)), skip_bl l (i + 1) h3 (fun x hx => hb x (by simp [hx])) (by rw [show i + 1 + l.length = i + (c :: l).length by simp; omega]; exact h2), List.length_cons]
    omega
theorem skip_to {s : ByteArray} {i : Nat} {a : List Int} {c : Int} {r : List Int} (h : At s i (a ++ c :: r)) (ha : Bl a) (hc : blankB c = false) : skip s i = i + a.length ∧ ch s (i + a.length) = c ∧ At s (i + a.length + 1) r := by
  obtain ⟨h1, h2⟩ := At.append.1 h
  obtain ⟨⟨_, h3⟩, h4⟩ := At.cons.1 h2
  exact ⟨skip_bl a i h1 ha (by rw [h3]; exact hc), h3, h4⟩
theorem stop_blank {c : Int} (h : blankB c = true) : stopC c := by
  unfold blankB at h
  simp at h
  rcases h with ((rfl | rfl) | rfl) | rfl <;> exact ⟨rfl, by decide, by decide, by decide⟩
/-- What stands behind a value: blanks, then a sign that goes on with no number. -/
theorem stop_of {s : ByteArray} {i : Nat} {a : List Int} {c : Int} {r : List Int} (h : At s i (a ++ c :: r)) (ha : Bl a) (hc : stopC c) : stopC (ch s i) := by
  cases a with
  | nil => obtain ⟨⟨_, h3⟩, _⟩ := At.cons.1 h; rw [h3]; exact hc
  | cons x a =>
    obtain ⟨⟨_, h3⟩, _⟩ := At.cons.1 h
    rw [h3]; exact stop_blank (ha x (by simp))
theorem begins_blank {c : Int} (h : beginsB c = true) : blankB c = false := by
  cases hb : blankB c with
  | false => rfl
  | true =>
    unfold blankB at hb
    simp at hb
    rcases hb with ((rfl | rfl) | rfl) | rfl <;> cases h
theorem quote_begins (t : ByteArray) : ∃ m, quoteS t = 34 :: m := ⟨_, rfl⟩
theorem num_begins {t : ByteArray} (h : num t 0 = .ok () t.size) : 0 < t.size ∧ beginsB (ch t 0) = true ∧ ch t 0 ≠ 123 ∧ ch t 0 ≠ 91 ∧ ch t 0 ≠ 34 ∧ ch t 0 ≠ 116 ∧ ch t 0 ≠ 102 ∧ ch t 0 ≠ 110 := by
  have hd : ch t 0 = 45 ∨ digitB (ch t 0) = true := by
    by_cases h45 : ch t 0 = 45
    · exact .inl h45
    · right
      unfold num numInt at h
      rw [if_neg h45] at h
      by_cases h48 : ch t 0 = 48
      · rw [h48]; rfl
      · rw [if_neg h48] at h
        cases hg : digitB (ch t 0) with
        | true => rfl
        | false =>
          rw [show run1 t 0 = .no 0 130 from by unfold run1; rw [digits_stop hg, if_pos rfl]] at h
          cases h
  have hpos : 0 < t.size := ch_pos (fun e => by rw [e] at hd; rcases hd with hd | hd <;> cases hd)
  rcases hd with e | e
  · rw [e]; exact ⟨hpos, rfl, by decide, by decide, by decide, by decide, by decide, by decide⟩
  · refine ⟨hpos, by unfold beginsB; rw [e]; simp, ?_⟩
    unfold digitB at e
    simp at e
    omega
theorem numB_ok {t : ByteArray} (h : numB t = true) : num t 0 = .ok () t.size := by
  unfold numB numV at h
  cases hn : num t 0 with
  | ok u j =>
    rw [hn] at h
    simp at h
    obtain rfl : j = t.size := by omega
    rfl
  | no j e => rw [hn] at h; simp at h; omega
/-- A right value's text begins as a value does. -/
theorem txt_begins {f : Nat} {j : J} {l : List Int} (hr : Right f j) (h : Txt f j l) : ∃ c m, l = c :: m ∧ beginsB c = true := by
  cases f with
  | zero => exact h.elim
  | succ f =>
    unfold Txt at h
    rcases h with ⟨_, rfl⟩ | ⟨_, rfl⟩ | ⟨hk, rfl⟩ | ⟨_, rfl⟩ | ⟨_, a, m, _, rfl, _⟩ | ⟨_, a, m, _, rfl, _⟩
    · exact ⟨_, _, rfl, rfl⟩
    · split
      · exact ⟨_, _, rfl, rfl⟩
      · exact ⟨_, _, rfl, rfl⟩
    · unfold Right at hr
      obtain ⟨h1, h2, _⟩ := num_begins (numB_ok (hr.2.2.1 hk))
      refine ⟨ch j.tx 0, bytesAt j.tx 1 (j.tx.size - 1), ?_, h2⟩
      unfold restAt
      rw [show j.tx.size - 0 = 1 + (j.tx.size - 1) by omega, bytesAt_add, bytesAt_one]; rfl
    · exact ⟨_, _, rfl, rfl⟩
    · exact ⟨_, _, rfl, rfl⟩
    · exact ⟨_, _, rfl, rfl⟩
theorem At.head {s : ByteArray} {i : Nat} {c : Int} {m : List Int} (h : At s i (c :: m)) : ch s i = c := (At.cons.1 h).1.2
theorem bl_begins {s : ByteArray} {i : Nat} {b l : List Int} (h : At s i (b ++ l)) (hb : Bl b) {c : Int} {m : List Int} (hl : l = c :: m) (hc : beginsB c = true) : skip s i = i + b.length ∧ At s (i + b.length) l := by
  have h2 := (At.append.1 h).2
  subst hl
  exact ⟨(skip_to h hb (begins_blank hc)).1, h2⟩
theorem listT_begins {f : Nat} : ∀ {vs : List J} {l : List Int}, (∀ v ∈ vs, Right f v) → ListT (Txt f) vs l → ∃ c m, l = c :: m ∧ beginsB c = true
  | [], l, _, h => h.elim
  | [v], l, hr, h => by
    obtain ⟨m, a, h1, _, rfl⟩ := h
    obtain ⟨c, m', rfl, hc⟩ := txt_begins (hr v (by simp)) h1
    exact ⟨c, _, rfl, hc⟩
  | v :: w :: vs, l, hr, h => by
    obtain ⟨m, a, b, l', h1, _, _, _, rfl⟩ := h
    obtain ⟨c, m', rfl, hc⟩ := txt_begins (hr v (by simp)) h1
    exact ⟨c, _, rfl, hc⟩
theorem obT_begins {rec : J → List Int → Prop} {ks : List ByteArray} {vs : List J} {l : List Int} (h : ObT rec ks vs l) : ∃ m, l = 34 :: m := by
  match ks, vs, h with
  | [k], [v], h => obtain ⟨x, y, m, a, _, _, _, _, rfl⟩ := h; exact ⟨_, rfl⟩
  | k :: k2 :: ks, v :: v2 :: vs, h => obtain ⟨x, y, m, a, b, l', _, _, _, _, _, _, rfl⟩ := h; exact ⟨_, rfl⟩
theorem listT_len {f : Nat} : ∀ {vs : List J} {l : List Int}, (∀ v ∈ vs, Right f v) → ListT (Txt f) vs l → vs.length < l.length
  | [], l, _, h => h.elim
  | [v], l, hr, h => by
    obtain ⟨m, a, h1, _, rfl⟩ := h
    obtain ⟨c, t, rfl, _⟩ := txt_begins (hr v (by simp)) h1
    simp; omega
  | v :: w :: vs, l, hr, h => by
    obtain ⟨m, a, b, l', h1, _, _, h2, rfl⟩ := h
    have := listT_len (fun x hx => hr x (by simp at hx ⊢; exact .inr hx)) h2
    simp only [List.length_append, List.length_cons] at this ⊢; omega
theorem obT_len {rec : J → List Int → Prop} : ∀ {ks : List ByteArray} {vs : List J} {l : List Int}, ObT rec ks vs l → vs.length < l.length ∧ ks.length = vs.length
  | [k], [v], l, h => by obtain ⟨x, y, m, a, _, _, _, _, rfl⟩ := h; refine ⟨?_, rfl⟩; simp [quoteS]; omega
  | k :: k2 :: ks, v :: v2 :: vs, l, h => by
    obtain ⟨x, y, m, a, b, l', _, _, _, _, _, h2, rfl⟩ := h
    obtain ⟨h3, h4⟩ := obT_len h2
    refine ⟨?_, by simp at *; omega⟩
    simp [quoteS] at *; omega
  | [], _, l, h => by cases h
  | [k], [], l, h => by cases h
  | [k], v :: v2 :: vs, l, h => by cases h
  | k :: k2 :: ks, [], l, h => by cases h
  | k :: k2 :: ks, [v], l, h => by cases h
/-! ### Lists and objects -/
/-- What is known of the reading of the values inside. -/
def Reads (s : ByteArray) (val : Nat → R J) (f : Nat) : Prop := ∀ (v : J) (m : List Int) (i : Nat), Right f v → Txt f v m → At s i m → stopC (ch s (i + m.length)) → val i = .ok v (i + m.length)
theorem stop93 : stopC 93 := ⟨rfl, by decide, by decide, by decide⟩
theorem stop44 : stopC 44 := ⟨rfl, by decide, by decide, by decide⟩
theorem stop125 : stopC 125 := ⟨rfl, by decide, by decide, by decide⟩
theorem items_list {s : ByteArray} {val : Nat → R J} {f : Nat} (hv : Reads s val f) : ∀ (vs : List J) (l : List Int) (F i : Nat) (ls : List J), (∀ v ∈ vs, Right f v) → ListT (Txt f) vs l → At s i l → vs.length ≤ F → ls.length + vs.length ≤ 256 →
    itemsN s val false F i [] ls = .ok (.mk 4 false ⟨#[]⟩ [] (ls ++ vs)) (i + l.length)
  | [], l, F, i, ls, _, h, _, _, _ => h.elim
  | [v], l, F, i, ls, hr, h, ha, hF, hn => by
    obtain ⟨m, a, h1, hb, rfl⟩ := h
    obtain ⟨ha1, ha2⟩ := At.append.1 ha
    have hval := hv v m i (hr v (by simp)) h1 ha1 (stop_of ha2 hb stop93)
    obtain ⟨e1, e2, _⟩ := skip_to ha2 hb rfl
    match F, hF with
    | F + 1, _ =>
      rw [(listIs s val F i ls).end_ (by intro h; have := h.1; simp at hn; omega) v _ hval (by rw [e1]; exact e2), e1]
      congr 1
      simp; omega
  | v :: w :: vs, l, F, i, ls, hr, h, ha, hF, hn => by
    obtain ⟨m, a, b, l', h1, hb, hb2, h2, rfl⟩ := h
    obtain ⟨ha1, ha2⟩ := At.append.1 ha
    have hval := hv v m i (hr v (by simp)) h1 ha1 (stop_of ha2 hb stop44)
    obtain ⟨e1, e2, e3⟩ := skip_to ha2 hb rfl
    obtain ⟨c, m', hl', hc⟩ := listT_begins (fun x hx => hr x (by simp at hx ⊢; exact .inr hx)) h2
    obtain ⟨e4, e5⟩ := bl_begins e3 hb2 hl' hc
    match F, hF with
    | F + 1, hF =>
      rw [← (listIs s val F i ls).more (by intro h; have := h.1; simp at hn; omega) v _ hval (by rw [e1]; exact e2), e1, e4,
        items_list hv (w :: vs) l' F _ (ls ++ [v]) (fun x hx => hr x (by simp at hx ⊢; exact .inr hx)) h2 e5 (by simp at hF ⊢; omega) (by simp at hn ⊢; omega)]
      rw [List.append_assoc, List.singleton_append]
      congr 1
      simp; omega
theorem items_ob {s : ByteArray} {val : Nat → R J} {f : Nat} (hv : Reads s val f) : ∀ (ks2 : List ByteArray) (vs : List J) (l : List Int) (F i : Nat) (ks : List ByteArray) (ls : List J), (∀ v ∈ vs, Right f v) → (∀ k ∈ ks2, utfFrom k 0 = true) → (ks ++ ks2).Nodup → ObT (Txt f) ks2 vs l → At s i l → vs.length ≤ F → ks.length + ks2.length ≤ 256 →
    itemsN s val true F i ks ls = .ok (.mk 5 false ⟨#[]⟩ (ks ++ ks2) (ls ++ vs)) (i + l.length) := by
  have key : ∀ (k : ByteArray) (ks ks2 : List ByteArray) (i : Nat) (x y z : List Int), utfFrom k 0 = true → (ks ++ k :: ks2).Nodup → ks.length < 256 → At s i (quoteS k ++ (x ++ 58 :: (y ++ z))) → Bl x → Bl y → (∃ c m, z = c :: m ∧ beginsB c = true) →
      jkey s ks i = .ok k (i + (quoteS k).length + x.length + 1 + y.length) ∧ At s (i + (quoteS k).length + x.length + 1 + y.length) z := by
    intro k ks ks2 i x y z hu hn hl ha hx hy ⟨c, m, hz, hc⟩
    obtain ⟨h1, h2⟩ := At.append.1 ha
    obtain ⟨e1, e2, e3⟩ := skip_to h2 hx rfl
    obtain ⟨e4, e5⟩ := bl_begins e3 hy hz hc
    have ht := text_quote hu h1
    have hi : ch s i = 34 := by
      obtain ⟨m, hm⟩ := quote_begins k
      rw [hm] at h1; exact h1.head
    refine ⟨?_, e5⟩
    have hks := keyIs (ks := ks) hi (by omega)
    rw [hks.done _ _ ht (by
      rw [str_restAt]
      rw [List.any_eq_false]
      intro q hq
      rw [List.nodup_append] at hn
      have := hn.2.2 q hq k (by simp)
      simpa using this) (by rw [e1]; exact e2), str_restAt, e1, e4]
  intro ks2 vs
  induction ks2 generalizing vs with
  | nil => intro l F i ks ls _ _ _ h; cases vs <;> exact h.elim
  | cons k ks2 ih =>
    intro l F i ks ls hr hu hn h ha hF hl
    cases ks2 with
    | nil =>
      match vs, h with
      | [v], h =>
        obtain ⟨x, y, m, a, hx, hy, h1, hb, rfl⟩ := h
        obtain ⟨c, m', hm, hc⟩ := txt_begins (hr v (by simp)) h1
        obtain ⟨hk, ha3⟩ := key k ks [] i x y _ (hu k (by simp)) hn (by simp at hl; omega) ha hx hy ⟨c, m' ++ (a ++ [125]), by rw [hm]; rfl, hc⟩
        obtain ⟨ha1, ha2⟩ := At.append.1 ha3
        have hval := hv v m _ (hr v (by simp)) h1 ha1 (stop_of ha2 hb stop125)
        obtain ⟨e1, e2, _⟩ := skip_to ha2 hb rfl
        match F, hF with
        | F + 1, _ =>
          rw [(obIs s val F i ks ls).end_ k _ hk v _ hval (by rw [e1]; exact e2), e1]
          congr 1
          simp; omega
    | cons k2 ks2 =>
      match vs, h with
      | v :: v2 :: vs, h =>
        obtain ⟨x, y, m, a, b, l', hx, hy, h1, hb, hb2, h2, rfl⟩ := h
        obtain ⟨c, m', hm, hc⟩ := txt_begins (hr v (by simp)) h1
        obtain ⟨hk, ha3⟩ := key k ks (k2 :: ks2) i x y _ (hu k (by simp)) hn (by simp at hl; omega) ha hx hy ⟨c, m' ++ (a ++ 44 :: (b ++ l')), by rw [hm]; rfl, hc⟩
        obtain ⟨ha1, ha2⟩ := At.append.1 ha3
        have hval := hv v m _ (hr v (by simp)) h1 ha1 (stop_of ha2 hb stop44)
        obtain ⟨e1, e2, e3⟩ := skip_to ha2 hb rfl
        obtain ⟨m2, hl'⟩ := obT_begins h2
        obtain ⟨e4, e5⟩ := bl_begins e3 hb2 hl' rfl
        match F, hF with
        | F + 1, hF =>
          rw [← (obIs s val F i ks ls).more k _ hk v _ hval (by rw [e1]; exact e2), e1, e4,
            ih (v2 :: vs) l' F _ (ks ++ [k]) (ls ++ [v]) (fun x hx => hr x (by simp at hx ⊢; exact .inr hx)) (fun q hq => hu q (by simp at hq ⊢; exact .inr hq)) (by rw [List.append_assoc]; exact hn) h2 e5 (by simp at hF ⊢; omega) (by simp at hl ⊢; omega)]
          rw [List.append_assoc, List.singleton_append, List.append_assoc, List.singleton_append]
          congr 1
          simp; omega
/-! ### Values -/
theorem word_at {s w : ByteArray} {i : Nat} : ∀ (f k : Nat), f + k = w.size → (∀ n, n < w.size → ch s (i + n) = ch w n) → wordAt s w f (i + k) = .ok () (i + w.size)
  | 0, k, h, _ => by unfold wordAt; congr 1; omega
  | f + 1, k, h, hc => by
    unfold wordAt
    rw [if_pos (by rw [hc k (by omega)]; congr 1; omega), Nat.add_assoc, word_at f (k + 1) (by omega) hc]
theorem word_read {s w : ByteArray} {i : Nat} (h : At s i (restAt w 0)) : word s w i = .ok () (i + w.size) := by
  unfold word
  have := word_at (s := s) (w := w) (i := i) w.size 0 (by omega) (fun n hn => h.fits n hn)
  rwa [Nat.add_zero] at this
theorem extract_at {s t : ByteArray} {i : Nat} (h : At s i (restAt t 0)) : s.extract i (i + t.size) = t := by
  have hs := h.1
  rw [restAt_len] at hs
  apply ByteArray.ext
  apply Array.ext
  · show (s.extract i (i + t.size)).size = t.size
    rw [ByteArray.size_extract]; omega
  · intro k h1 h2
    have hk : k < t.size := h2
    have e := h.fits k hk
    rw [ch_in (by omega), ch_in hk] at e
    have e2 : (s[i + k]'(by omega)) = t[k] := UInt8.toNat_inj.1 (by omega)
    have e3 : (s.extract i (i + t.size))[k]'(by rw [ByteArray.size_extract]; omega) = s[i + k]'(by omega) := by simp [ByteArray.getElem_extract]
    exact e3.trans e2
theorem value_read : ∀ (f : Nat) (j : J) (l : List Int) (d : Nat) (s : ByteArray) (i : Nat), f ≤ d → Right f j → Txt f j l → At s i l → stopC (ch s (i + l.length)) → value s d i = .ok j (i + l.length)
  | 0, j, l, d, s, i, _, _, h, _, _ => h.elim
  | f + 1, j, l, 0, s, i, hd, _, _, _, _ => by omega
  | f + 1, j, l, d + 1, s, i, hd, hr, h, ha, hs => by
    have hreads : Reads s (value s d) f := fun v m i hr h ha hs => value_read f v m d s i (by omega) hr h ha hs
    obtain ⟨c0, m0, hl0, hb0⟩ := txt_begins hr h
    have hbi : beginsB (ch s i) = true := by rw [hl0] at ha; rw [ha.head]; exact hb0
    have hV := valueIs (s := s) (d := d) hbi
    have hK := right_kind hr
    unfold Right at hr
    obtain ⟨_, hr2, hrn, hrt, hro, hrl⟩ := hr
    unfold Txt at h
    rcases h with ⟨hk, rfl⟩ | ⟨hk, rfl⟩ | ⟨hk, rfl⟩ | ⟨hk, rfl⟩ | ⟨hk, a, m, hba, rfl, hm⟩ | ⟨hk, a, m, hba, rfl, hm⟩
    · rw [hV.nullOk ha.head () (i + 4) (word_read (w := ⟨#[110, 117, 108, 108]⟩) ha)]
      rw [hK.k0 hk]; rfl
    · cases hbl : j.bl with
      | true =>
        rw [hbl] at ha
        rw [hV.trueOk ha.head () (i + 4) (word_read (w := ⟨#[116, 114, 117, 101]⟩) ha)]
        rw [hK.k1 hk, hbl]; rfl
      | false =>
        rw [hbl] at ha
        rw [hV.falseOk ha.head () (i + 5) (word_read (w := ⟨#[102, 97, 108, 115, 101]⟩) ha)]
        rw [hK.k1 hk, hbl]; rfl
    · have hn := numB_ok (hrn hk)
      rw [restAt_len] at hs ⊢
      have hnum := num_fit ha.fits hs hn
      obtain ⟨h1, _, n1, n2, n3, n4, n5, n6⟩ := num_begins hn
      have e0 : ch s i = ch j.tx 0 := by have := ha.fits 0 h1; rwa [Nat.add_zero] at this
      rw [← e0] at n1 n2 n3 n4 n5 n6
      rw [hV.numOk n1 n2 n3 n4 n5 n6 () _ hnum, extract_at ha]
      exact congrArg (R.ok · _) (hK.k2 hk).symm
    · rw [hV.textOk (by obtain ⟨m, hm⟩ := quote_begins j.tx; rw [hm] at ha; exact ha.head) _ _ (text_quote (hrt hk) ha), str_restAt]
      exact congrArg (R.ok · _) (hK.k3 hk).symm
    · rw [← hV.list ha.head]
      obtain ⟨_, ha1⟩ := At.cons.1 ha
      unfold members
      rcases hm with ⟨hnil, rfl⟩ | hm
      · obtain ⟨e1, e2, _⟩ := skip_to (r := []) ha1 hba rfl
        rw [e1, if_pos (by rw [e2]; rfl)]
        simp only [Bool.false_eq_true, if_false]
        rw [hK.k4 hk, hnil]
        congr 1
        simp; omega
      · obtain ⟨c, m', hl', hc⟩ := listT_begins hrl hm
        obtain ⟨e4, e5⟩ := bl_begins ha1 hba hl' hc
        have hcc : ch s (i + 1 + a.length) = c := by rw [hl'] at e5; exact e5.head
        have hcc2 : c ≠ 93 := fun e => by rw [e] at hc; cases hc
        have hlen := listT_len hrl hm
        have hsz := e5.1
        rw [e4, if_neg (by rw [hcc]; exact hcc2), items_list hreads j.ls m (s.size + 1) _ [] hrl hm e5 (by omega) (by simpa using hr2), List.nil_append]
        rw [← hK.k4 hk]
        congr 1
        simp; omega
    · rw [← hV.obj ha.head]
      obtain ⟨_, ha1⟩ := At.cons.1 ha
      have hK5 := hK.k5 hk
      obtain ⟨hu, hn⟩ := hro hk
      unfold members
      rcases hm with ⟨hnil, rfl⟩ | hm
      · obtain ⟨e1, e2, _⟩ := skip_to (r := []) ha1 hba rfl
        rw [e1, if_pos (by rw [e2]; rfl)]
        have hks : j.ks = [] := List.eq_nil_of_length_eq_zero (by rw [hK5.2, hnil]; rfl)
        simp only [if_true]
        rw [hK5.1, hnil, hks]
        congr 1
        simp; omega
      · obtain ⟨m', hl'⟩ := obT_begins hm
        obtain ⟨e4, e5⟩ := bl_begins ha1 hba hl' rfl
        have hcc : ch s (i + 1 + a.length) = 34 := by rw [hl'] at e5; exact e5.head
        obtain ⟨hlen, hlen2⟩ := obT_len hm
        have hsz := e5.1
        rw [e4, if_neg (by rw [hcc]; decide), items_ob hreads j.ks j.ls m (s.size + 1) _ [] [] hrl (fun k hk => hu k hk) (by simpa using hn) hm e5 (by omega) (by simp; omega), List.nil_append, List.nil_append]
        rw [← hK5.1]
        congr 1
        simp; omega
end
section
open Go.Lib
set_option linter.unusedVariables false
set_option linter.unusedSimpArgs false
/-- A value with the members of all its objects by rising keys, so deep. -/
def sortJ : Nat → J → J
  | 0, j => j
  | f + 1, j => if j.kd = 5 then .mk 5 j.bl j.tx ((ordOf j.ks).map fun i => j.ks.getD i ⟨#[]⟩) ((ordOf j.ks).map fun i => sortJ f (j.ls.getD i J.zero)) else .mk j.kd j.bl j.tx j.ks (j.ls.map (sortJ f))
theorem sort_kd (f : Nat) (j : J) : (sortJ f j).kd = j.kd ∧ (sortJ f j).bl = j.bl ∧ (sortJ f j).tx = j.tx := by
  cases f with
  | zero => exact ⟨rfl, rfl, rfl⟩
  | succ f =>
    unfold sortJ
    by_cases h : j.kd = 5
    · rw [if_pos h, h]; exact ⟨rfl, rfl, rfl⟩
    · rw [if_neg h]; exact ⟨rfl, rfl, rfl⟩
theorem sort_flat {f : Nat} {j : J} (h : j.kd ≠ 5) : (sortJ (f + 1) j).ks = j.ks ∧ (sortJ (f + 1) j).ls = j.ls.map (sortJ f) := by
  have e : sortJ (f + 1) j = .mk j.kd j.bl j.tx j.ks (j.ls.map (sortJ f)) := by rw [sortJ, if_neg h]
  rw [e]; exact ⟨rfl, rfl⟩
theorem sort_obj {f : Nat} {j : J} (h : j.kd = 5) : (sortJ (f + 1) j).ks = (ordOf j.ks).map (fun i => j.ks.getD i ⟨#[]⟩) ∧ (sortJ (f + 1) j).ls = (ordOf j.ks).map fun i => sortJ f (j.ls.getD i J.zero) := by
  have e : sortJ (f + 1) j = .mk 5 j.bl j.tx ((ordOf j.ks).map fun i => j.ks.getD i ⟨#[]⟩) ((ordOf j.ks).map fun i => sortJ f (j.ls.getD i J.zero)) := by rw [sortJ, if_pos h]
  rw [e]; exact ⟨rfl, rfl⟩
/-! ### The order of the keys -/
theorem ord_perm (ks : List ByteArray) : (ordOf ks).Perm (List.range ks.length) := List.mergeSort_perm _ _
theorem ord_len (ks : List ByteArray) : (ordOf ks).length = ks.length := by rw [(ord_perm ks).length_eq]; simp
theorem ord_mem {ks : List ByteArray} {i : Nat} : i ∈ ordOf ks ↔ i < ks.length := by rw [(ord_perm ks).mem_iff]; simp
theorem ord_sorted (ks : List ByteArray) : (ordOf ks).Pairwise fun x y => keyLt ks y x = false := by
  have hS := swo_key ks (fun x : Nat => x)
  have : (ordOf ks).Pairwise fun x y => (!keyLt ks y x) = true := by
    refine List.pairwise_mergeSort ?_ ?_ _
    · intro a b c h1 h2
      simp only [Bool.not_eq_true'] at h1 h2 ⊢
      exact hS.ntrans c b a h2 h1
    · intro a b
      cases h : keyLt ks b a with
      | false => simp
      | true => simp [hS.asymmA h]
  exact this.imp (fun h => by simpa using h)
theorem getD_mem {α : Type} {l : List α} {i : Nat} {d : α} (h : i < l.length) : l.getD i d ∈ l := by
  rw [List.getD_eq_getElem?_getD, List.getElem?_eq_getElem h]; exact List.getElem_mem _
theorem getD_at {α : Type} {l : List α} {i : Nat} {d : α} (h : i < l.length) : l.getD i d = l[i] := by
  rw [List.getD_eq_getElem?_getD, List.getElem?_eq_getElem h]; rfl
theorem map_range_getD {α : Type} (l : List α) (d : α) : (List.range l.length).map (fun i => l.getD i d) = l := by
  apply List.ext_getElem?
  intro k
  rw [List.getElem?_map]
  by_cases h : k < l.length
  · rw [List.getElem?_range h, Option.map_some, getD_at h, List.getElem?_eq_getElem h]
  · rw [List.getElem?_eq_none (by simp; omega), List.getElem?_eq_none (by omega)]; rfl
theorem ord_keys_perm (ks : List ByteArray) : ((ordOf ks).map fun i => ks.getD i ⟨#[]⟩).Perm ks := by
  have := (ord_perm ks).map (fun i => ks.getD i ⟨#[]⟩)
  rwa [map_range_getD] at this
/-! ### It is right -/
theorem right_sort : ∀ {f : Nat} {j : J}, Right f j → Right f (sortJ f j)
  | 0, j, h => h.elim
  | f + 1, j, h => by
    have hK := right_kind h
    obtain ⟨hkd, hbl, htx⟩ := sort_kd (f + 1) j
    unfold Right at h ⊢
    obtain ⟨h1, h2, h3, h4, h5, h6⟩ := h
    rw [hkd, hbl, htx]
    by_cases h50 : j.kd = 5
    · obtain ⟨e1, e2⟩ := sort_obj (f := f) h50
      obtain ⟨_, hl⟩ := hK.k5 h50
      obtain ⟨hv, hn⟩ := h5 h50
      rw [e1, e2]
      refine ⟨by simp only [List.length_map, ord_len]; rw [hl] at h1 ⊢; exact h1, by simp only [List.length_map, ord_len]; omega, h3, h4, fun _ => ⟨fun k hk => ?_, ?_⟩, fun v hv => ?_⟩
      · exact hv k ((ord_keys_perm j.ks).mem_iff.1 hk)
      · exact (ord_keys_perm j.ks).nodup_iff.2 hn
      · obtain ⟨i, hi, rfl⟩ := List.mem_map.1 hv
        exact right_sort (h6 _ (getD_mem (by have := ord_mem.1 hi; omega)))
    · obtain ⟨e1, e2⟩ := sort_flat (f := f) h50
      rw [e1, e2]
      refine ⟨by simp only [List.length_map]; exact h1, by simp only [List.length_map]; exact h2, h3, h4, fun e => absurd e h50, fun v hv => ?_⟩
      obtain ⟨x, hx, rfl⟩ := List.mem_map.1 hv
      exact right_sort (h6 x hx)
/-! ### What is written is a text of it -/
theorem bl_nil : Bl [] := fun _ h => by cases h
theorem join_succ (i : Nat) (a : List Int) (l : List (List Int)) : joinFrom (i + 1) (a :: l) = 44 :: (a ++ joinFrom (i + 2) l) := by rw [joinFrom_cons, if_pos (by omega)]; rfl
theorem join_zero (a : List Int) (l : List (List Int)) : joinFrom 0 (a :: l) = a ++ joinFrom 1 l := by rw [joinFrom_cons, if_neg (by omega)]; rfl
theorem list_text {rec : J → List Int → Prop} {w : J → List Int} {g : J → J} : ∀ (vs : List J) (v : J) (i : Nat), (∀ x ∈ v :: vs, rec (g x) (w x)) → ListT rec ((v :: vs).map g) (w v ++ (joinFrom (i + 1) (vs.map w) ++ [93]))
  | [], v, i, h => ⟨w v, [], h v (by simp), bl_nil, by simp [joinFrom]⟩
  | u :: vs, v, i, h => ⟨w v, [], [], w u ++ (joinFrom (i + 2) (vs.map w) ++ [93]), h v (by simp), bl_nil, bl_nil, list_text vs u (i + 1) (fun x hx => h x (by simp at hx ⊢; exact .inr hx)), by rw [List.map_cons, join_succ]; simp⟩
theorem ob_text {rec : J → List Int → Prop} {w : J → List Int} {g : J → J} {ks : List ByteArray} {ls : List J} : ∀ (is : List Nat) (i : Nat) (n : Nat), (∀ x ∈ i :: is, rec (g (ls.getD x J.zero)) (w (ls.getD x J.zero))) →
    ObT rec ((i :: is).map fun x => ks.getD x ⟨#[]⟩) ((i :: is).map fun x => g (ls.getD x J.zero)) (membS w ks ls i ++ (joinFrom (n + 1) (is.map (membS w ks ls)) ++ [125]))
  | [], i, n, h => ⟨[], [], w (ls.getD i J.zero), [], bl_nil, bl_nil, h i (by simp), bl_nil, by simp [joinFrom, membS]⟩
  | u :: is, i, n, h => ⟨[], [], w (ls.getD i J.zero), [], [], membS w ks ls u ++ (joinFrom (n + 2) (is.map (membS w ks ls)) ++ [125]), bl_nil, bl_nil, h i (by simp), bl_nil, bl_nil, ob_text is u (n + 1) (fun x hx => h x (by simp at hx ⊢; exact .inr hx)), by
      rw [List.map_cons, join_succ]; simp [membS]⟩
theorem txt_write : ∀ {f : Nat} {j : J}, Right f j → Txt f (sortJ f j) (writeJ f j)
  | 0, j, h => h.elim
  | f + 1, j, h => by
    have hK := right_kind h
    obtain ⟨hkd, hbl, htx⟩ := sort_kd (f + 1) j
    unfold Right at h
    obtain ⟨h1, h2, h3, h4, h5, h6⟩ := h
    unfold Txt writeJ
    rw [hkd, hbl, htx]
    rcases hK.all with e | e | e | e | e | e
    · exact .inl ⟨e, by rw [if_pos e]⟩
    · exact .inr (.inl ⟨e, by rw [if_neg (by omega), if_pos e]⟩)
    · exact .inr (.inr (.inl ⟨e, by rw [if_neg (by omega), if_neg (by omega), if_pos e]⟩))
    · exact .inr (.inr (.inr (.inl ⟨e, by rw [if_neg (by omega), if_neg (by omega), if_neg (by omega), if_pos e]⟩)))
    · obtain ⟨e1, e2⟩ := sort_flat (f := f) (show j.kd ≠ 5 by omega)
      refine .inr (.inr (.inr (.inr (.inl ⟨e, [], joinFrom 0 (j.ls.map (writeJ f)) ++ [93], bl_nil, by rw [if_neg (by omega), if_neg (by omega), if_neg (by omega), if_neg (by omega), if_pos e]; rfl, ?_⟩))))
      rw [e2]
      match hl : j.ls with
      | [] => exact .inl ⟨rfl, rfl⟩
      | v :: vs =>
        right
        rw [List.map_cons (f := writeJ f), join_zero, List.append_assoc]
        exact list_text vs v 0 (fun x hx => txt_write (h6 x (by rw [hl]; exact hx)))
    · obtain ⟨e1, e2⟩ := sort_obj (f := f) e
      refine .inr (.inr (.inr (.inr (.inr ⟨e, [], joinFrom 0 ((ordOf j.ks).map (membS (writeJ f) j.ks j.ls)) ++ [125], bl_nil, by rw [if_neg (by omega), if_neg (by omega), if_neg (by omega), if_neg (by omega), if_neg (by omega)]; rfl, ?_⟩))))
      rw [e1, e2]
      have hm : ∀ i ∈ ordOf j.ks, i < j.ls.length := fun i hi => by have := ord_mem.1 hi; have := (hK.k5 e).2; omega
      match hl : ordOf j.ks with
      | [] => exact .inl ⟨rfl, rfl⟩
      | i :: is =>
        right
        rw [List.map_cons (f := membS (writeJ f) j.ks j.ls), join_zero, List.append_assoc]
        exact ob_text is i 0 (fun x hx => txt_write (h6 _ (getD_mem (hm x (by rw [hl]; exact hx)))))
/-! ### Its bytes -/
def Bytes (l : List Int) : Prop := ∀ x ∈ l, 0 ≤ x ∧ x < 256
theorem Bytes.append {a b : List Int} (h : Bytes a) (k : Bytes b) : Bytes (a ++ b) := fun x hx => by
  rcases List.mem_append.1 hx with h1 | h1
  · exact h x h1
  · exact k x h1
theorem Bytes.cons {c : Int} {b : List Int} (h0 : 0 ≤ c) (h1 : c < 256) (k : Bytes b) : Bytes (c :: b) := fun x hx => by
  rcases List.mem_cons.1 hx with h | h
  · subst h; exact ⟨h0, h1⟩
  · exact k x h
theorem bytes_nil : Bytes [] := fun _ h => by cases h
theorem bytes_rest (s : ByteArray) (i : Nat) : Bytes (restAt s i) := fun x hx => by
  unfold restAt bytesAt at hx
  obtain ⟨k, _, rfl⟩ := List.mem_map.1 hx
  have := ch_range s (i + k)
  omega
theorem bytes_escB {c : Int} (h0 : 0 ≤ c) (h1 : c < 256) : Bytes (escB c) := by
  unfold escB
  have hx : ∀ n : Int, 0 ≤ n → n < 16 → 0 ≤ hexD n ∧ hexD n < 256 := fun n a b => by unfold hexD; split <;> omega
  repeat' split
  all_goals first
    | exact Bytes.cons (by omega) (by omega) (Bytes.cons (by omega) (by omega) bytes_nil)
    | exact Bytes.cons (by omega) (by omega) (Bytes.cons (by omega) (by omega) (Bytes.cons (by omega) (by omega) (Bytes.cons (by omega) (by omega) (Bytes.cons (hx _ (by omega) (by omega)).1 (hx _ (by omega) (by omega)).2 (Bytes.cons (hx _ (by omega) (by omega)).1 (hx _ (by omega) (by omega)).2 bytes_nil)))))
    | exact Bytes.cons h0 h1 bytes_nil
theorem bytes_quote (s : ByteArray) : Bytes (quoteS s) := by
  unfold quoteS
  refine Bytes.cons (by omega) (by omega) (Bytes.append (fun x hx => ?_) (Bytes.cons (by omega) (by omega) bytes_nil))
  obtain ⟨c, hc, h⟩ := List.mem_flatMap.1 hx
  have := bytes_rest s 0 c hc
  exact bytes_escB this.1 this.2 x h
theorem bytes_join : ∀ (l : List (List Int)) (i : Nat), (∀ a ∈ l, Bytes a) → Bytes (joinFrom i l)
  | [], i, _ => bytes_nil
  | a :: l, i, h => by
    unfold joinFrom
    refine Bytes.append ?_ (Bytes.append (h a (by simp)) (bytes_join l (i + 1) (fun b hb => h b (by simp [hb]))))
    split
    · exact Bytes.cons (by omega) (by omega) bytes_nil
    · exact bytes_nil
theorem bytes_write : ∀ (f : Nat) (j : J), Bytes (writeJ f j)
  | 0, j => bytes_nil
  | f + 1, j => by
    unfold writeJ
    have hm : ∀ i, Bytes (membS (writeJ f) j.ks j.ls i) := fun i => Bytes.append (bytes_quote _) (Bytes.cons (by omega) (by omega) (bytes_write f _))
    split
    · exact fun x hx => by simp at hx; omega
    split
    · split <;> exact fun x hx => by simp at hx; omega
    split
    · exact bytes_rest _ _
    split
    · exact bytes_quote _
    split
    · refine Bytes.cons (by omega) (by omega) (Bytes.append (bytes_join _ _ fun a ha => ?_) (Bytes.cons (by omega) (by omega) bytes_nil))
      obtain ⟨x, _, rfl⟩ := List.mem_map.1 ha
      exact bytes_write f x
    · refine Bytes.cons (by omega) (by omega) (Bytes.append (bytes_join _ _ fun a ha => ?_) (Bytes.cons (by omega) (by omega) bytes_nil))
      obtain ⟨x, _, rfl⟩ := List.mem_map.1 ha
      exact hm x
/-- A text that is a right value's is parsed as the value. -/
theorem parse_txt {f : Nat} {j : J} {a l b : List Int} (hf : f ≤ 16) (hr : Right f j) (ht : Txt f j l) (ha : Bl a) (hb : Bl b) (hl : Bytes (a ++ (l ++ b))) (hn : (a ++ (l ++ b)).length ≤ 8192) : parse (str (a ++ (l ++ b))) = (j, 0, 0) := by
  have hat := at_str hl
  have hsz : (str (a ++ (l ++ b))).size = (a ++ (l ++ b)).length := Go.strOfNums_size _
  generalize str (a ++ (l ++ b)) = s at hat hsz
  obtain ⟨c, m, hc, hbg⟩ := txt_begins hr ht
  have h0 : skip s 0 = 0 + a.length := by
    rw [hc] at hat
    exact (skip_to hat ha (begins_blank hbg)).1
  obtain ⟨_, h1⟩ := At.append.1 hat
  obtain ⟨h2, h3⟩ := At.append.1 h1
  have hend : ch s (0 + a.length + l.length + b.length) = 0 := ch_out (by simp at hsz; omega)
  have hst : stopC (ch s (0 + a.length + l.length)) := by
    cases hbb : b with
    | nil => rw [hbb] at hend; simp only [List.length_nil, Nat.add_zero] at hend; rw [hend]; exact ⟨rfl, by decide, by decide, by decide⟩
    | cons x y => rw [hbb] at h3; rw [h3.head]; exact stop_blank (hb x (by rw [hbb]; simp))
  have hv := value_read f j l 16 s _ hf hr ht h2 hst
  have h4 := skip_bl b _ h3 hb (by rw [hend]; rfl)
  unfold parse
  rw [if_neg (by omega), h0, hv]
  simp only
  rw [h4, if_neg (by simp at hsz; omega)]
theorem parse_write {f : Nat} {j : J} (hf : f ≤ 16) (hr : Right f j) (hn : (writeJ f j).length ≤ 8192) : parse (str (writeJ f j)) = (sortJ f j, 0, 0) := by
  have := parse_txt (a := []) (b := []) hf (right_sort hr) (txt_write hr) bl_nil bl_nil (by simpa using bytes_write f j) (by simpa using hn)
  simpa using this
end
section
open Go.Lib
set_option linter.unusedVariables false
set_option linter.unusedSimpArgs false
/-! ### Check -/
/-- What check lets through at a depth is so deep. -/
theorem check_right16 : ∀ (g : Nat) (j : J) (d n : Int), d + g = 17 → (checkJ (g + 1) j d n).1 = 0 → Right g j
  | 0, j, d, n, hd, h => by
    exfalso
    unfold checkJ at h
    split at h
    · rename_i h1; exact h1 h
    · rename_i h1
      have h0 : checkV j d (n + 1) = 0 := by simpa using h1
      unfold checkV at h0
      by_cases a1 : 8192 < n + 1
      · simp [a1] at h0
      · rw [if_neg a1, if_pos (by omega)] at h0; cases h0
  | g + 1, j, d, n, hd, h => by
    unfold checkJ at h
    split at h
    · rename_i h1; exact absurd h h1
    · rename_i h1
      have h0 : checkV j d (n + 1) = 0 := by simpa using h1
      obtain ⟨a, b⟩ := checkItems_right (f := g) (fun v m hv => check_right16 g v (d + 1) m (by omega) hv) h
      unfold checkV at h0
      have a1 : ¬ 8192 < n + 1 := fun a1 => by simp [a1] at h0
      have b1 : ¬ 16 < d := fun b1 => by simp [a1, b1] at h0
      have c1 : shapeV j.kd j.bl j.tx j.ks.length j.ls.length = true := by
        cases hc : shapeV j.kd j.bl j.tx j.ks.length j.ls.length with
        | false => simp [a1, b1, hc] at h0
        | true => rfl
      have e1 : ¬ 256 < j.ls.length := fun e => by simp [a1, b1, c1, e] at h0
      have f1 : ¬ (j.kd = 2 ∧ numB j.tx = false) := fun e => by simp only [a1, b1, c1, e1, if_false, Bool.true_eq_false] at h0; rw [if_pos e] at h0; cases h0
      have g1 : ¬ (j.kd = 3 ∧ validB j.tx = false) := fun e => by simp only [a1, b1, c1, e1, if_false, Bool.true_eq_false] at h0; rw [if_neg f1, if_pos e] at h0; cases h0
      unfold Right
      refine ⟨c1, by omega, fun k2 => ?_, fun k3 => ?_, fun k5 => ?_, a⟩
      · cases hn : numB j.tx with
        | true => rfl
        | false => exact absurd ⟨k2, hn⟩ f1
      · cases hn : validB j.tx with
        | true => rfl
        | false => exact absurd ⟨k3, hn⟩ g1
      · have hl := ((kindIs c1).k5 k5).2
        rw [show decide (j.kd = 5) = true by simpa using k5] at b
        have hk : ∀ i (h : i < j.ks.length), validB j.ks[i] = true ∧ j.ks[i] ∉ j.ks.take i := fun i hi => checkK_zero (b i (Nat.zero_le _) (by omega)) hi
        refine ⟨fun k hm => ?_, nodup_of_take fun i hi => (hk i hi).2⟩
        obtain ⟨i, hi, rfl⟩ := List.getElem_of_mem hm
        exact (hk i hi).1
/-- How many values there are in a value, so deep. -/
def cntJ : Nat → J → Nat
  | 0, _ => 0
  | f + 1, j => 1 + (j.ls.map (cntJ f)).sum
theorem checkItems_ok {rec : J → Int → Int × Int} {obj : Bool} {ks : List ByteArray} {cnt : J → Nat} : ∀ (ls : List J) (i : Nat) (n : Int), (∀ v ∈ ls, ∀ n : Int, n + cnt v ≤ 8192 → rec v n = (0, n + cnt v)) → (∀ k, i ≤ k → k < i + ls.length → checkK obj ks k = 0) → n + ((ls.map cnt).sum : Nat) ≤ 8192 →
    checkItems rec obj ks i ls n = (0, n + ((ls.map cnt).sum : Nat))
  | [], i, n, _, _, _ => by unfold checkItems; simp
  | v :: ls, i, n, h, hk, hn => by
    rw [List.map_cons, List.sum_cons] at hn ⊢
    have h1 := h v (by simp) n (by omega)
    unfold checkItems
    rw [if_neg (by rw [hk i (Nat.le_refl _) (by simp)]; simp), h1, if_neg (by simp)]
    rw [checkItems_ok ls (i + 1) _ (fun x hx => h x (by simp [hx])) (fun k h1 h2 => hk k (by omega) (by simp; omega)) (by omega)]
    congr 1
    omega
theorem take_not_mem {α : Type} {l : List α} (h : l.Nodup) {i : Nat} (hi : i < l.length) : l[i] ∉ l.take i := by
  intro hm
  obtain ⟨k, hk, e⟩ := List.mem_take_iff_getElem.1 hm
  rw [List.nodup_iff_pairwise_ne, List.pairwise_iff_getElem] at h
  exact h k i (by omega) hi (by omega) e
theorem checkK_ok {obj : Bool} {ks : List ByteArray} {k : Nat} (h : obj = true → (∀ q ∈ ks, validB q = true) ∧ ks.Nodup ∧ k < ks.length) : checkK obj ks k = 0 := by
  unfold checkK
  cases obj with
  | false => simp
  | true =>
    obtain ⟨h1, h2, h3⟩ := h rfl
    rw [getD_at h3, if_neg (by rw [h1 _ (List.getElem_mem _)]; simp), if_neg]
    rintro ⟨_, hm⟩
    rw [List.any_eq_true] at hm
    obtain ⟨q, hq, e⟩ := hm
    have : q = ks[k] := by simpa using e
    subst this
    exact take_not_mem h2 h3 hq
/-- What is right, and not too much, check lets through. -/
theorem check_of_right : ∀ (f g : Nat) (j : J) (d n : Int), Right f j → f ≤ g → d + f ≤ 17 → n + (cntJ f j : Nat) ≤ 8192 → checkJ g j d n = (0, n + (cntJ f j : Nat))
  | 0, g, j, d, n, h, _, _, _ => h.elim
  | f + 1, 0, j, d, n, h, hg, _, _ => by omega
  | f + 1, g + 1, j, d, n, h, hg, hd, hn => by
    have hK := right_kind h
    unfold Right at h
    obtain ⟨h1, h2, h3, h4, h5, h6⟩ := h
    unfold cntJ at hn ⊢
    have hV : checkV j d (n + 1) = 0 := by
      unfold checkV
      rw [if_neg (by omega), if_neg (by omega), if_neg (by rw [h1]; simp), if_neg (by omega), if_neg (fun e => by rw [h3 e.1] at e; cases e.2), if_neg (fun e => by rw [h4 e.1] at e; cases e.2)]
    unfold checkJ
    rw [if_neg (by rw [hV]; simp), checkItems_ok (cnt := cntJ f) j.ls 0 (n + 1) (fun v hv m hm => check_of_right f g v (d + 1) m (h6 v hv) (by omega) (by omega) hm) (fun k _ hk => checkK_ok (fun ho => by
      have e5 : j.kd = 5 := by simpa using ho
      obtain ⟨a, b⟩ := h5 e5
      exact ⟨a, b, by have := (hK.k5 e5).2; omega⟩)) (by omega)]
    congr 1
    omega
/-! ### Depth does not matter once it is enough -/
theorem map_congr_mem {α β : Type} {l : List α} {f g : α → β} (h : ∀ x ∈ l, f x = g x) : l.map f = l.map g := List.map_congr_left h
theorem wr_obj {f : Nat} {j : J} (h : j.kd = 5) : writeJ (f + 1) j = 123 :: (joinFrom 0 ((ordOf j.ks).map (membS (writeJ f) j.ks j.ls)) ++ [125]) := by
  rw [writeJ, if_neg (by omega), if_neg (by omega), if_neg (by omega), if_neg (by omega), if_neg (by omega)]
theorem wr_list {f : Nat} {j : J} (h : j.kd = 4) : writeJ (f + 1) j = 91 :: (joinFrom 0 (j.ls.map (writeJ f)) ++ [93]) := by
  rw [writeJ, if_neg (by omega), if_neg (by omega), if_neg (by omega), if_neg (by omega), if_pos h]
theorem wr_flat {f g : Nat} {j k : J} (h : KindIs j) (h4 : j.kd ≠ 4) (h5 : j.kd ≠ 5) (e1 : k.kd = j.kd) (e2 : k.bl = j.bl) (e3 : k.tx = j.tx) : writeJ (f + 1) k = writeJ (g + 1) j := by
  rw [writeJ, writeJ, e1, e2, e3]
  by_cases c0 : j.kd = 0
  · rw [if_pos c0, if_pos c0]
  rw [if_neg c0, if_neg c0]
  by_cases c1 : j.kd = 1
  · rw [if_pos c1, if_pos c1]
  rw [if_neg c1, if_neg c1]
  by_cases c2 : j.kd = 2
  · rw [if_pos c2, if_pos c2]
  rw [if_neg c2, if_neg c2]
  by_cases c3 : j.kd = 3
  · rw [if_pos c3, if_pos c3]
  · exfalso
    rcases h.all with e | e | e | e | e | e
    · exact c0 e
    · exact c1 e
    · exact c2 e
    · exact c3 e
    · exact h4 e
    · exact h5 e
theorem write_mono : ∀ (f g : Nat) (j : J), Right f j → f ≤ g → writeJ g j = writeJ f j
  | 0, g, j, h, _ => h.elim
  | f + 1, 0, j, h, hg => by omega
  | f + 1, g + 1, j, h, hg => by
    have hK := right_kind h
    unfold Right at h
    obtain ⟨h1, h2, h3, h4, h5, h6⟩ := h
    have e1 : j.ls.map (writeJ g) = j.ls.map (writeJ f) := map_congr_mem fun x hx => write_mono f g x (h6 x hx) (by omega)
    by_cases h50 : j.kd = 5
    · have e2 : (ordOf j.ks).map (membS (writeJ g) j.ks j.ls) = (ordOf j.ks).map (membS (writeJ f) j.ks j.ls) := map_congr_mem fun i hi => by
        unfold membS
        rw [write_mono f g _ (h6 _ (getD_mem (by have := ord_mem.1 hi; have := (hK.k5 h50).2; omega))) (by omega)]
      rw [wr_obj h50, wr_obj h50, e2]
    · by_cases h40 : j.kd = 4
      · rw [wr_list h40, wr_list h40, e1]
      · exact wr_flat hK h40 h50 rfl rfl rfl
/-! ### The members' order -/
theorem ord_of_sorted {ks : List ByteArray} (hn : ks.Nodup) : ordOf ((ordOf ks).map fun i => ks.getD i ⟨#[]⟩) = List.range ks.length := by
  have hl : ((ordOf ks).map fun i => ks.getD i ⟨#[]⟩).length = ks.length := by rw [List.length_map, ord_len]
  symm
  refine ord_unique ((ord_keys_perm ks).nodup_iff.2 hn) (by rw [hl]) ?_
  rw [List.pairwise_iff_getElem]
  intro i j hi hj hij
  simp only [List.length_range] at hi hj
  have hs := ord_sorted ks
  rw [List.pairwise_iff_getElem] at hs
  have := hs i j (by rw [ord_len]; omega) (by rw [ord_len]; omega) hij
  unfold keyLt at this ⊢
  rw [List.getElem_range, List.getElem_range, getD_at (by rw [hl]; omega), getD_at (by rw [hl]; omega), List.getElem_map, List.getElem_map]
  exact this
theorem write_sort : ∀ (f : Nat) (j : J), Right f j → writeJ f (sortJ f j) = writeJ f j
  | 0, j, h => h.elim
  | f + 1, j, h => by
    have hK := right_kind h
    obtain ⟨hkd, hbl, htx⟩ := sort_kd (f + 1) j
    unfold Right at h
    obtain ⟨h1, h2, h3, h4, h5, h6⟩ := h
    by_cases h50 : j.kd = 5
    · obtain ⟨e1, e2⟩ := sort_obj (f := f) h50
      have hl := (hK.k5 h50).2
      rw [wr_obj h50, wr_obj (hkd.trans h50), e1, ord_of_sorted (h5 h50).2]
      congr 2
      congr 1
      rw [e2]
      apply List.ext_getElem?
      intro k
      rw [List.getElem?_map, List.getElem?_map]
      by_cases hk : k < j.ks.length
      · rw [List.getElem?_range hk, List.getElem?_eq_getElem (by rw [ord_len]; exact hk)]
        simp only [Option.map_some]
        congr 1
        have hi := ord_mem.1 (List.getElem_mem (l := ordOf j.ks) (n := k) (by rw [ord_len]; exact hk))
        unfold membS
        rw [getD_at (l := (ordOf j.ks).map _) (by rw [List.length_map, ord_len]; exact hk), List.getElem_map, getD_at (l := (ordOf j.ks).map _) (by rw [List.length_map, ord_len]; exact hk), List.getElem_map]
        rw [write_sort f _ (h6 _ (getD_mem (by omega)))]
      · rw [List.getElem?_eq_none (by simp; omega), List.getElem?_eq_none (by rw [ord_len]; omega)]
        rfl
    · obtain ⟨e1, e2⟩ := sort_flat (f := f) h50
      have em : (j.ls.map (sortJ f)).map (writeJ f) = j.ls.map (writeJ f) := by
        rw [List.map_map]
        exact map_congr_mem fun x hx => write_sort f x (h6 x hx)
      by_cases h40 : j.kd = 4
      · rw [wr_list h40, wr_list (hkd.trans h40), e2, em]
      · exact wr_flat hK h40 h50 hkd hbl htx
/-! ### What is parsed -/
theorem join_len : ∀ (l : List (List Int)) (i : Nat), (joinFrom (i + 1) l).length = (l.map fun a => a.length + 1).sum
  | [], i => rfl
  | a :: l, i => by rw [join_succ, List.map_cons, List.sum_cons, List.length_cons, List.length_append, join_len l (i + 1)]; omega
theorem join_len0 {l : List (List Int)} (h : l ≠ []) : (joinFrom 0 l).length + 1 = (l.map fun a => a.length + 1).sum := by
  match l, h with
  | a :: l, _ => rw [join_zero, List.map_cons, List.sum_cons, List.length_append, join_len]; omega
/-- What is known of a value that was read, so deep. -/
structure BackV (s : ByteArray) (f : Nat) (v : J) (i j : Nat) : Prop where
  right : Right f v
  cnt : cntJ f v + i ≤ j
  len : (writeJ f v).length + i ≤ j
  begins : beginsB (ch s i) = true
  le : j ≤ s.size
theorem skip_in {s : ByteArray} {j : Nat} {c : Int} (hj : j ≤ s.size) (h : ch s (skip s j) = c) (hc : c ≠ 0) : j ≤ skip s j ∧ skip s j < s.size := ⟨skip_ge s j, ch_pos (by rw [h]; exact hc)⟩
theorem list_back {s : ByteArray} {val : Nat → R J} {f : Nat} (hv : ∀ i v j, i ≤ s.size → val i = .ok v j → BackV s f v i j) : ∀ (F i : Nat) (ls : List J) (v : J) (j : Nat), i ≤ s.size → ls.length ≤ 256 → itemsN s val false F i [] ls = .ok v j →
    ∃ vs, v = .mk 4 false ⟨#[]⟩ [] (ls ++ vs) ∧ vs ≠ [] ∧ (∀ x ∈ vs, Right f x) ∧ (vs.map (cntJ f)).sum + i ≤ j ∧ (vs.map fun x => (writeJ f x).length + 1).sum + i ≤ j ∧ (ls ++ vs).length ≤ 256 ∧ j ≤ s.size
  | 0, i, ls, v, j, _, _, h => by simp [itemsN] at h
  | F + 1, i, ls, v, j, hi, hl, h => by
    have hL := listIs s val F i ls
    rw [h] at hL
    cases hval : val i with
    | no a e =>
      by_cases hlong : ls.length = 256 ∧ beginsB (ch s i) = true
      · have := hL.long hlong.1 hlong.2; cases this
      · have := hL.no_ hlong _ _ hval; cases this
    | ok x k =>
      have hb := hv i x k hi hval
      have hbg := hb.begins
      have hle := hb.le
      have hlen := hb.len
      have hcnt := hb.cnt
      by_cases hlong : ls.length = 256
      · have := hL.long hlong hbg; cases this
      · by_cases h93 : ch s (skip s k) = 93
        · have e := hL.end_ (fun h => hlong h.1) x k hval h93
          cases e
          obtain ⟨a, b⟩ := skip_in hle h93 (by decide)
          refine ⟨[x], rfl, by simp, fun y hy => by obtain rfl : y = x := by simpa using hy
                                                    exact hb.right, by simp; omega, by simp; omega, by simp; omega, by omega⟩
        · by_cases h44 : ch s (skip s k) = 44
          · have e := hL.more (fun h => hlong h.1) x k hval h44
            obtain ⟨a, b⟩ := skip_in hle h44 (by decide)
            have hs2 := skip_le (s := s) (i := skip s k + 1) (by omega)
            have hs3 := skip_ge s (skip s k + 1)
            obtain ⟨vs, e1, e2, e3, e4, e5, e6, e7⟩ := list_back hv F _ (ls ++ [x]) v j hs2 (by simp; omega) e
            refine ⟨x :: vs, by rw [e1]; simp, by simp, fun y hy => ?_, ?_, ?_, by simpa using e6, e7⟩
            · rcases List.mem_cons.1 hy with rfl | hy
              · exact hb.right
              · exact e3 y hy
            · rw [List.map_cons, List.sum_cons]; omega
            · rw [List.map_cons, List.sum_cons]; omega
          · have := hL.bad (fun h => hlong h.1) x k hval h93 h44; cases this
theorem key_back {s : ByteArray} {ks : List ByteArray} {i j : Nat} {k : ByteArray} (hi : i ≤ s.size) (h : jkey s ks i = .ok k j) : ch s i = 34 ∧ ks.length ≠ 256 ∧ validB k = true ∧ k ∉ ks ∧ (quoteS k).length + 1 + i ≤ j ∧ j ≤ s.size := by
  have h34 : ch s i = 34 := by
    unfold jkey at h
    split at h
    · cases h
    · rename_i e; simpa using e
  have hn : ks.length ≠ 256 := by
    unfold jkey at h
    rw [if_neg (by rw [h34]; simp)] at h
    split at h
    · cases h
    · rename_i e; exact e
  have hK := keyIs h34 hn
  rw [h] at hK
  cases ht : text s i with
  | no a e => have := hK.no_ _ _ ht; cases this
  | ok l m =>
    obtain ⟨b1, b2, b3⟩ := text_back ht
    have hi2 : i < s.size := ch_pos (by rw [h34]; decide)
    have hm := (text_ok hi2 ht).2.1
    cases hany : ks.any (fun k => decide (k = str l)) with
    | true => have := hK.twice _ _ ht hany; cases this
    | false =>
      by_cases h58 : ch s (skip s m) = 58
      · have e := hK.done _ _ ht hany h58
        cases e
        obtain ⟨a, b⟩ := skip_in hm h58 (by decide)
        have hs2 := skip_le (s := s) (i := skip s m + 1) (by omega)
        have hs3 := skip_ge s (skip s m + 1)
        refine ⟨h34, hn, b1, fun hm => ?_, by omega, hs2⟩
        rw [List.any_eq_false] at hany
        exact hany _ hm (by simp)
      · have := hK.colon _ _ ht hany h58; cases this
theorem ob_back {s : ByteArray} {val : Nat → R J} {f : Nat} (hv : ∀ i v j, i ≤ s.size → val i = .ok v j → BackV s f v i j) : ∀ (F i : Nat) (ks : List ByteArray) (ls : List J) (v : J) (j : Nat), i ≤ s.size → ks.length ≤ 256 → ks.Nodup → itemsN s val true F i ks ls = .ok v j →
    ∃ ks2 vs, v = .mk 5 false ⟨#[]⟩ (ks ++ ks2) (ls ++ vs) ∧ vs ≠ [] ∧ ks2.length = vs.length ∧ (∀ x ∈ vs, Right f x) ∧ (∀ q ∈ ks2, validB q = true) ∧ (ks ++ ks2).Nodup ∧ (vs.map (cntJ f)).sum + i ≤ j ∧
      (vs.map fun x => (writeJ f x).length).sum + (ks2.map fun q => (quoteS q).length + 2).sum + i ≤ j ∧ (ks ++ ks2).length ≤ 256 ∧ j ≤ s.size
  | 0, i, ks, ls, v, j, _, _, _, h => by simp [itemsN] at h
  | F + 1, i, ks, ls, v, j, hi, hl, hn, h => by
    have hL := obIs s val F i ks ls
    rw [h] at hL
    cases hkey : jkey s ks i with
    | no a e => have := hL.keyNo _ _ hkey; cases this
    | ok q m =>
      obtain ⟨h34, hn256, hq1, hq2, hq3, hq4⟩ := key_back hi hkey
      cases hval : val m with
      | no a e => have := hL.valNo _ _ hkey _ _ hval; cases this
      | ok x k =>
        have hb := hv m x k hq4 hval
        have hle := hb.le
        have hlen := hb.len
        have hcnt := hb.cnt
        have hnd : (ks ++ [q]).Nodup := by
          rw [List.nodup_append]
          refine ⟨hn, by simp, fun a ha b hb e => ?_⟩
          obtain rfl : b = q := by simpa using hb
          subst e; exact hq2 ha
        by_cases h125 : ch s (skip s k) = 125
        · have e := hL.end_ q m hkey x k hval h125
          cases e
          obtain ⟨a, b⟩ := skip_in hle h125 (by decide)
          refine ⟨[q], [x], rfl, by simp, rfl, fun y hy => by obtain rfl : y = x := by simpa using hy
                                                              exact hb.right, fun y hy => by obtain rfl : y = q := by simpa using hy
                                                                                             exact hq1, hnd, by simp; omega, by simp; omega, by simp; omega, by omega⟩
        · by_cases h44 : ch s (skip s k) = 44
          · have e := hL.more q m hkey x k hval h44
            obtain ⟨a, b⟩ := skip_in hle h44 (by decide)
            have hs2 := skip_le (s := s) (i := skip s k + 1) (by omega)
            have hs3 := skip_ge s (skip s k + 1)
            obtain ⟨ks2, vs, e1, e2, e3, e4, e5, e6, e7, e8, e9, e10⟩ := ob_back hv F _ (ks ++ [q]) (ls ++ [x]) v j hs2 (by simp; omega) hnd e
            refine ⟨q :: ks2, x :: vs, by rw [e1]; simp, by simp, by simp [e3], fun y hy => ?_, fun y hy => ?_, by simpa using e6, ?_, ?_, by simpa using e9, e10⟩
            · rcases List.mem_cons.1 hy with rfl | hy
              · exact hb.right
              · exact e4 y hy
            · rcases List.mem_cons.1 hy with rfl | hy
              · exact hq1
              · exact e5 y hy
            · rw [List.map_cons, List.sum_cons]; omega
            · rw [List.map_cons, List.sum_cons, List.map_cons, List.sum_cons]; omega
          · have := hL.bad q m hkey x k hval h125 h44; cases this
theorem sum_perm {l m : List Nat} (h : l.Perm m) : l.sum = m.sum := by
  induction h with
  | nil => rfl
  | cons x _ ih => simp [ih]
  | swap x y l => simp; omega
  | trans _ _ a b => exact a.trans b
theorem sum_add (l : List Nat) (f g : Nat → Nat) : (l.map fun i => f i + g i).sum = (l.map f).sum + (l.map g).sum := by
  induction l with
  | nil => rfl
  | cons a l ih => simp [ih]; omega
/-- How long an object's text is. -/
theorem ob_len {w : J → List Int} {ks : List ByteArray} {ls : List J} (hl : ks.length = ls.length) (hne : ls ≠ []) :
    (joinFrom 0 ((ordOf ks).map (membS w ks ls))).length + 1 = (ls.map fun x => (w x).length).sum + (ks.map fun q => (quoteS q).length + 2).sum := by
  have hne2 : (ordOf ks).map (membS w ks ls) ≠ [] := fun e => by
    have := congrArg List.length e
    rw [List.length_map, ord_len, hl] at this
    exact hne (List.eq_nil_of_length_eq_zero (by simpa using this))
  rw [join_len0 hne2, List.map_map]
  have e1 := sum_perm ((ord_perm ks).map ((fun a : List Int => a.length + 1) ∘ membS w ks ls))
  rw [e1]
  have e2 : (List.range ks.length).map ((fun a : List Int => a.length + 1) ∘ membS w ks ls) = (List.range ks.length).map fun i => (w (ls.getD i J.zero)).length + ((quoteS (ks.getD i ⟨#[]⟩)).length + 2) := map_congr_mem fun i _ => by
    simp [membS]; omega
  rw [e2, sum_add]
  have e3 : (List.range ks.length).map (fun i => (w (ls.getD i J.zero)).length) = ls.map fun x => (w x).length := by
    rw [hl]
    have := congrArg (List.map fun x => (w x).length) (map_range_getD ls J.zero)
    rwa [List.map_map] at this
  have e4 : (List.range ks.length).map (fun i => (quoteS (ks.getD i ⟨#[]⟩)).length + 2) = ks.map fun q => (quoteS q).length + 2 := by
    have := congrArg (List.map fun q => (quoteS q).length + 2) (map_range_getD ks ⟨#[]⟩)
    rwa [List.map_map] at this
  rw [e3, e4]
theorem right_leaf {f : Nat} {kd : Int} {b : Bool} {t : ByteArray} (h1 : shapeV kd b t 0 0 = true) (h2 : kd = 2 → numB t = true) (h3 : kd = 3 → validB t = true) : Right (f + 1) (.mk kd b t [] []) := by
  unfold Right
  exact ⟨h1, (by show 0 ≤ 256; omega), h2, h3, fun _ => ⟨(fun k hk => by cases hk), List.nodup_nil⟩, (fun v hv => by cases hv)⟩
theorem cnt_leaf (f : Nat) (kd : Int) (b : Bool) (t : ByteArray) : cntJ (f + 1) (.mk kd b t [] []) = 1 := rfl
theorem empty_toList : (⟨#[]⟩ : ByteArray).toList = [] := ByteArray.toList_eq _
theorem value_back {s : ByteArray} : ∀ (f i : Nat) (v : J) (j : Nat), i ≤ s.size → value s f i = .ok v j → BackV s f v i j
  | 0, i, v, j, hi, h => by unfold value at h; split at h <;> cases h
  | f + 1, i, v, j, hi, h => by
    obtain ⟨hlt, hjs⟩ := value_fwd s _ i v j hi h
    cases hb : beginsB (ch s i) with
    | false => rw [value_begins s _ i hb] at h; cases h
    | true =>
      have hV := valueIs (d := f) hb
      rw [h] at hV
      have hrec : ∀ i v j, i ≤ s.size → value s f i = .ok v j → BackV s f v i j := fun i v j => value_back f i v j
      have mk : ∀ {v : J}, Right (f + 1) v → cntJ (f + 1) v + i ≤ j → (writeJ (f + 1) v).length + i ≤ j → BackV s (f + 1) v i j := fun a b c => ⟨a, b, c, hb, hjs⟩
      have hi1 : i < s.size := by omega
      by_cases c1 : ch s i = 123
      · have hm := hV.obj c1
        unfold members at hm
        have hs1 := skip_ge s (i + 1)
        have hs2 := skip_le (s := s) (i := i + 1) (by omega)
        by_cases hc : ch s (skip s (i + 1)) = (if true = true then 125 else 93)
        · rw [if_pos hc] at hm
          cases hm
          refine mk (right_leaf (by simp [shapeV, empty_toList]) (by intro e; cases e) (by intro e; cases e)) (by rw [cnt_leaf]; omega) ?_
          rw [wr_obj rfl]
          have e0 : ordOf (J.mk 5 false ⟨#[]⟩ [] []).ks = [] := List.eq_nil_of_length_eq_zero (by rw [ord_len]; rfl)
          simp only [if_true, e0]
          simp [joinFrom]; omega
        · rw [if_neg hc] at hm
          obtain ⟨ks2, vs, e1, e2, e3, e4, e5, e6, e7, e8, e9, e10⟩ := ob_back hrec _ _ [] [] v j hs2 (by simp) List.nodup_nil hm
          simp only [List.nil_append] at e1 e6 e9
          subst e1
          refine mk ?_ ?_ ?_
          · unfold Right
            refine ⟨by simp [J.kd, J.bl, J.tx, J.ks, J.ls, shapeV, empty_toList, e3], (by show vs.length ≤ 256; omega), (by intro e; cases e), (by intro e; cases e), fun _ => ⟨e5, e6⟩, e4⟩
          · show 1 + (vs.map (cntJ f)).sum + i ≤ j; omega
          · rw [wr_obj rfl]
            have := ob_len (w := writeJ f) e3 e2
            simp only [J.ks, J.ls, List.length_cons, List.length_append, List.length_nil]
            omega
      by_cases c2 : ch s i = 91
      · have hm := hV.list c2
        unfold members at hm
        have hs1 := skip_ge s (i + 1)
        have hs2 := skip_le (s := s) (i := i + 1) (by omega)
        by_cases hc : ch s (skip s (i + 1)) = (if false = true then 125 else 93)
        · rw [if_pos hc] at hm
          cases hm
          refine mk (right_leaf (by simp [shapeV, empty_toList]) (by intro e; cases e) (by intro e; cases e)) (by rw [cnt_leaf]; omega) ?_
          rw [wr_list rfl]
          simp [J.ls, joinFrom]; omega
        · rw [if_neg hc] at hm
          obtain ⟨vs, e1, e2, e3, e4, e5, e6, e7⟩ := list_back hrec _ _ [] v j hs2 (by simp) hm
          simp only [List.nil_append] at e1 e6
          subst e1
          refine mk ?_ ?_ ?_
          · unfold Right
            exact ⟨by simp [J.kd, J.bl, J.tx, J.ks, J.ls, shapeV, empty_toList], e6, (by intro e; cases e), (by intro e; cases e), (by intro e; cases e), e3⟩
          · show 1 + (vs.map (cntJ f)).sum + i ≤ j; omega
          · rw [wr_list rfl]
            have := join_len0 (l := vs.map (writeJ f)) (by simpa using e2)
            rw [List.map_map] at this
            simp only [J.ls, List.length_cons, List.length_append, List.length_nil]
            have e8 : (vs.map ((fun a : List Int => a.length + 1) ∘ writeJ f)).sum = (vs.map fun x => (writeJ f x).length + 1).sum := rfl
            omega
      by_cases c3 : ch s i = 34
      · cases ht : text s i with
        | no a e => have := hV.textNo c3 _ _ ht; cases this
        | ok l m =>
          have e := hV.textOk c3 _ _ ht
          cases e
          obtain ⟨b1, b2, b3⟩ := text_back ht
          exact mk (right_leaf (by simp [shapeV]) (by intro e; cases e) (fun _ => b1)) (by rw [cnt_leaf]; omega) (by show (quoteS (str l)).length + i ≤ _; omega)
      by_cases c4 : ch s i = 116
      · cases ht : word s ⟨#[116, 114, 117, 101]⟩ i with
        | no a e => have := hV.trueNo c4 _ _ ht; cases this
        | ok l m =>
          have e := hV.trueOk c4 _ _ ht
          cases e
          have := (word_ok hzTrue hi ht).1
          have e4 : (⟨#[116, 114, 117, 101]⟩ : ByteArray).size = 4 := rfl
          exact mk (right_leaf (by simp [shapeV, empty_toList]) (by intro e; cases e) (by intro e; cases e)) (by rw [cnt_leaf]; omega) (by show 4 + i ≤ _; omega)
      by_cases c5 : ch s i = 102
      · cases ht : word s ⟨#[102, 97, 108, 115, 101]⟩ i with
        | no a e => have := hV.falseNo c5 _ _ ht; cases this
        | ok l m =>
          have e := hV.falseOk c5 _ _ ht
          cases e
          have := (word_ok hzFalse hi ht).1
          have e4 : (⟨#[102, 97, 108, 115, 101]⟩ : ByteArray).size = 5 := rfl
          exact mk (right_leaf (by simp [shapeV, empty_toList]) (by intro e; cases e) (by intro e; cases e)) (by rw [cnt_leaf]; omega) (by show 5 + i ≤ _; omega)
      by_cases c6 : ch s i = 110
      · cases ht : word s ⟨#[110, 117, 108, 108]⟩ i with
        | no a e => have := hV.nullNo c6 _ _ ht; cases this
        | ok l m =>
          have e := hV.nullOk c6 _ _ ht
          cases e
          have := (word_ok hzNull hi ht).1
          have e4 : (⟨#[110, 117, 108, 108]⟩ : ByteArray).size = 4 := rfl
          exact mk (right_leaf (by simp [shapeV, empty_toList]) (by intro e; cases e) (by intro e; cases e)) (by rw [cnt_leaf]; omega) (by show 4 + i ≤ _; omega)
      · cases ht : num s i with
        | no a e => have := hV.numNo c1 c2 c3 c4 c5 c6 _ _ ht; cases this
        | ok l m =>
          have e := hV.numOk c1 c2 c3 c4 c5 c6 _ _ ht
          cases e
          obtain ⟨b1, b2⟩ := num_cut hjs ht
          have hsz := size_cut (i := i) hjs
          refine mk (right_leaf (by simp [shapeV]) (fun _ => ?_) (by intro e; cases e)) (by rw [cnt_leaf]; omega) ?_
          · unfold numB numV
            rw [b1]; simp
          · show (restAt (s.extract i j) 0).length + i ≤ j
            rw [restAt_len]; omega
/-! ### Every refusal has its reason, and its place -/
def NoErr {α : Type} (s : ByteArray) (r : R α) : Prop := ∀ j e, r = .no j e → e ≠ 0 ∧ j ≤ s.size
theorem fourN_err {s : ByteArray} : ∀ (f : Nat) (v : Int) (i : Nat), i ≤ s.size → NoErr s (fourN s f v i)
  | 0, v, i, hi, j, e, h => by cases h
  | f + 1, v, i, hi, j, e, h => by
    unfold fourN at h
    split at h
    · rename_i d hd
      exact fourN_err f _ _ (ch_pos (hexv_range hd).2.2) j e h
    · cases h; exact ⟨by decide, hi⟩
theorem ch_lt {s : ByteArray} {i : Nat} {c : Int} (h : ch s i = c) (hc : c ≠ 0) : i < s.size := ch_pos (by rw [h]; exact hc)
theorem sign_err {s : ByteArray} {i : Nat} (hi : i + 2 ≤ s.size) : NoErr s (signOf s i) := fun j e h => by
  cases hf : four s (i + 2) with
  | no k x => unfold signOf at h; rw [hf] at h; cases h; exact fourN_err _ _ _ hi _ _ hf
  | ok u k =>
    have his := signIs hf
    rw [h] at his
    by_cases h5 : u < 55296 ∨ 57343 < u
    · have := his.plain h5; cases this
    · by_cases h6 : 56319 < u ∨ ch s k ≠ 92 ∨ ch s (k + 1) ≠ 117
      · have := his.half (by omega) (by omega) h6; cases this; exact ⟨by decide, by omega⟩
      · have hk : k + 2 ≤ s.size := ch_lt (s := s) (i := k + 1) (c := 117) (by omega) (by decide)
        cases hg : four s (k + 2) with
        | no m x => have := his.bad (by omega) (by omega) (by omega) (by omega) _ _ hg; cases this; exact fourN_err _ _ _ hk _ _ hg
        | ok x m =>
          have := his.two (by omega) (by omega) (by omega) (by omega) _ _ hg
          split at this
          · cases this; exact ⟨by decide, by omega⟩
          · cases this
theorem escape_err {s : ByteArray} {i : Nat} (hi : i < s.size) : NoErr s (escape s i) := fun j e h => by
  by_cases h117 : ch s (i + 1) = 117
  · rw [escape_sign h117] at h
    exact sign_err (ch_lt h117 (by decide)) _ _ h
  · unfold escape at h
    repeat' split at h
    all_goals first
      | (exfalso; omega)
      | (cases h; exact ⟨by decide, hi⟩)
      | cases h
theorem textN_err {s : ByteArray} : ∀ (f i : Nat) (acc : List Int), s.size < i + f → i ≤ s.size → NoErr s (textN s f i acc)
  | 0, i, acc, h1, h2, j, e, h => by omega
  | f + 1, i, acc, h1, h2, j, e, h => by
    unfold textN at h
    split at h
    · cases h; exact ⟨by decide, h2⟩
    · rename_i hn
      have hi : i < s.size := by omega
      split at h
      · cases h
      · split at h
        · split at h
          · rename_i v k he
            obtain ⟨a, b, _⟩ := escape_ok hi he
            exact textN_err f k _ (by omega) b _ _ h
          · rename_i k x he
            cases h
            exact escape_err hi _ _ he
        · split at h
          · cases h; exact ⟨by decide, h2⟩
          · rename_i h4
            have hw : wholeAt s i ≠ 0 := fun e => by rw [(runeAt_none hi e).1] at h4; exact h4 rfl
            obtain ⟨a1, a2, a3, a4, a5, _⟩ := runeAt_some hi hw
            rw [a1] at h
            simp only at h
            exact textN_err f _ _ (by omega) a5 _ _ h
theorem text_err {s : ByteArray} {i : Nat} (hi : i < s.size) : NoErr s (text s i) := textN_err _ _ _ (by omega) (by omega)
theorem run1_err {s : ByteArray} {i : Nat} (hi : i ≤ s.size) : NoErr s (run1 s i) := fun j e h => by
  unfold run1 at h
  split at h
  · cases h; exact ⟨by decide, hi⟩
  · cases h
theorem numExp_err {s : ByteArray} {i : Nat} : NoErr s (numExp s i) := fun j e h => by
  unfold numExp at h
  split at h
  · rename_i he
    have hi : i < s.size := by rcases he with he | he <;> exact ch_lt he (by decide)
    refine run1_err ?_ _ _ h
    split
    · rename_i h2
      have : i + 1 < s.size := by rcases h2 with h2 | h2 <;> exact ch_lt h2 (by decide)
      omega
    · omega
  · cases h
theorem numFrac_err {s : ByteArray} {i : Nat} : NoErr s (numFrac s i) := fun j e h => by
  unfold numFrac at h
  split at h
  · rename_i h46
    split at h
    · exact numExp_err _ _ h
    · rename_i hr; cases h; exact run1_err (ch_lt h46 (by decide)) _ _ hr
  · exact numExp_err _ _ h
theorem numInt_err {s : ByteArray} {i : Nat} (hi : i ≤ s.size) : NoErr s (numInt s i) := fun j e h => by
  unfold numInt at h
  split at h
  · exact numFrac_err _ _ h
  · split at h
    · exact numFrac_err _ _ h
    · rename_i hr; cases h; exact run1_err hi _ _ hr
theorem num_err {s : ByteArray} {i : Nat} (hi : i ≤ s.size) : NoErr s (num s i) := numInt_err (by
  split
  · rename_i h; exact ch_lt h (by decide)
  · exact hi)
theorem word_err {s w : ByteArray} {i : Nat} (hz : ∀ k, k < w.size → ch w k ≠ 0) (hi : i ≤ s.size) : NoErr s (word s w i) := by
  have : ∀ (f i : Nat), f ≤ w.size → i ≤ s.size → NoErr s (wordAt s w f i) := by
    intro f
    induction f with
    | zero => intro i _ _ j e h; cases h
    | succ f ih =>
      intro i hf hi j e h
      unfold wordAt at h
      split at h
      · rename_i hc
        exact ih _ (by omega) (ch_lt hc (hz _ (by omega))) _ _ h
      · cases h; exact ⟨by decide, hi⟩
  exact this _ _ (Nat.le_refl _) hi
theorem jkey_err {s : ByteArray} {ks : List ByteArray} {i : Nat} (hi : i ≤ s.size) : NoErr s (jkey s ks i) := fun j e h => by
  unfold jkey at h
  split at h
  · cases h; exact ⟨by decide, hi⟩
  · rename_i h34
    have h34 : ch s i = 34 := by simpa using h34
    have hlt := ch_lt h34 (by decide)
    split at h
    · cases h; exact ⟨by decide, hi⟩
    · split at h
      · rename_i ht; cases h; exact text_err hlt _ _ ht
      · rename_i l m ht
        have hm := (text_ok hlt ht).2.1
        split at h
        · cases h; exact ⟨by decide, hi⟩
        · split at h
          · cases h; exact ⟨by decide, skip_le hm⟩
          · cases h
theorem jkey_at {s : ByteArray} {ks : List ByteArray} {i j : Nat} {k : ByteArray} (hi : i ≤ s.size) (h : jkey s ks i = .ok k j) : i < j ∧ j ≤ s.size := by
  obtain ⟨_, _, _, _, a, b⟩ := key_back hi h
  omega
theorem items_err {s : ByteArray} {val : Nat → R J} (hv : ∀ i v j, i ≤ s.size → val i = .ok v j → i < j ∧ j ≤ s.size) (he : ∀ i, i ≤ s.size → NoErr s (val i)) (obj : Bool) : ∀ (F i : Nat) (ks : List ByteArray) (ls : List J), s.size < i + F → i ≤ s.size → NoErr s (itemsN s val obj F i ks ls)
  | 0, i, ks, ls, h1, h2, j, e, h => by omega
  | F + 1, i, ks, ls, h1, h2, j, e, h => by
    unfold itemsN at h
    have next : ∀ {k : Nat}, i < k → k ≤ s.size → ch s (skip s k) = 44 → s.size < skip s (skip s k + 1) + F ∧ skip s (skip s k + 1) ≤ s.size := fun {k} hk1 hk2 h44 => by
      obtain ⟨a, b⟩ := skip_in hk2 h44 (by decide)
      have := skip_le (s := s) (i := skip s k + 1) (by omega)
      have := skip_ge s (skip s k + 1)
      omega
    split at h
    · split at h
      · rename_i hk; cases h; exact jkey_err h2 _ _ hk
      · rename_i k m hk
        obtain ⟨a, b⟩ := jkey_at h2 hk
        split at h
        · rename_i hval; cases h; exact he _ b _ _ hval
        · rename_i v q hval
          obtain ⟨c, d⟩ := hv _ _ _ b hval
          split at h
          · cases h
          · split at h
            · rename_i h44
              obtain ⟨x, y⟩ := next (by omega) d h44
              exact items_err hv he obj F _ _ _ x y _ _ h
            · cases h; exact ⟨by decide, skip_le d⟩
    · split at h
      · cases h; exact ⟨by decide, h2⟩
      · split at h
        · rename_i hval; cases h; exact he _ h2 _ _ hval
        · rename_i v q hval
          obtain ⟨c, d⟩ := hv _ _ _ h2 hval
          split at h
          · cases h
          · split at h
            · rename_i h44
              obtain ⟨x, y⟩ := next (by omega) d h44
              exact items_err hv he obj F _ _ _ x y _ _ h
            · cases h; exact ⟨by decide, skip_le d⟩
theorem value_err {s : ByteArray} : ∀ (d i : Nat), i ≤ s.size → NoErr s (value s d i)
  | 0, i, hi, j, e, h => by
    unfold value at h
    split at h <;> (cases h; exact ⟨by decide, hi⟩)
  | d + 1, i, hi, j, e, h => by
    have mem : ∀ obj, i < s.size → NoErr s (members s (value s d) obj i) := fun obj hlt j e h => by
      unfold members at h
      by_cases hc : ch s (skip s (i + 1)) = (if obj then 125 else 93)
      · rw [if_pos hc] at h; cases h
      · rw [if_neg hc] at h
        have := skip_le (s := s) (i := i + 1) (by omega)
        exact items_err (fun i v j => value_fwd s d i v j) (fun i hi => value_err d i hi) obj _ _ _ _ (by omega) this _ _ h
    have hlt : ch s i ≠ 0 → i < s.size := ch_pos
    unfold value at h
    split at h
    · cases h; exact ⟨by decide, hi⟩
    split at h
    · rename_i hc; exact mem true (hlt (by rw [hc]; decide)) _ _ h
    split at h
    · rename_i hc; exact mem false (hlt (by rw [hc]; decide)) _ _ h
    split at h
    · rename_i hc
      split at h
      · cases h
      · rename_i ht; cases h; exact text_err (hlt (by rw [hc]; decide)) _ _ ht
    split at h
    · split at h
      · cases h
      · rename_i ht; cases h; exact word_err hzTrue hi _ _ ht
    split at h
    · split at h
      · cases h
      · rename_i ht; cases h; exact word_err hzFalse hi _ _ ht
    split at h
    · split at h
      · cases h
      · rename_i ht; cases h; exact word_err hzNull hi _ _ ht
    · split at h
      · cases h
      · rename_i ht; cases h; exact num_err hi _ _ ht
/-- What is not taken: no value, and a place. -/
theorem parse_no_back {s : ByteArray} {v : J} {at_ : Nat} {e : Int} (h : parse s = (v, at_, e)) (he : e ≠ 0) : v = J.zero ∧ at_ ≤ s.size := by
  unfold parse at h
  split at h
  · simp only [Prod.mk.injEq] at h
    exact ⟨h.1.symm, by omega⟩
  · have h0 := skip_le (s := s) (i := 0) (by omega)
    cases hv : value s 16 (skip s 0) with
    | no j x =>
      rw [hv] at h
      simp only [Prod.mk.injEq] at h
      have := (value_err _ _ h0 _ _ hv).2
      exact ⟨h.1.symm, by omega⟩
    | ok u j =>
      rw [hv] at h
      simp only at h
      have := skip_le (value_fwd s _ _ _ _ h0 hv).2
      split at h
      · simp only [Prod.mk.injEq] at h; exact ⟨h.1.symm, by omega⟩
      · simp only [Prod.mk.injEq] at h; omega
/-- What is parsed is right, and its text no longer. -/
theorem parse_back {s : ByteArray} {v : J} {at_ : Nat} (h : parse s = (v, at_, 0)) (hs : ¬ 8192 < s.size) : (checkJ 17 v 1 0).1 = 0 ∧ Right 16 v ∧ (writeJ 16 v).length ≤ s.size ∧ at_ = 0 := by
  unfold parse at h
  rw [if_neg hs] at h
  have h0 := skip_le (s := s) (i := 0) (by omega)
  cases hv : value s 16 (skip s 0) with
  | no j e =>
    rw [hv] at h
    simp only [Prod.mk.injEq] at h
    exact absurd h.2.2 (value_err _ _ h0 _ _ hv).1
  | ok u j =>
    rw [hv] at h
    simp only at h
    split at h
    · simp only [Prod.mk.injEq] at h; exact absurd h.2.2 (by decide)
    · simp only [Prod.mk.injEq] at h
      obtain ⟨rfl, rfl, _⟩ := h
      have hb := value_back 16 _ _ _ h0 hv
      have hc := hb.cnt
      have hl := hb.len
      have hle := hb.le
      have := check_of_right 16 17 u 1 0 hb.right (by omega) (by omega) (by omega)
      exact ⟨by rw [this], hb.right, by omega, rfl⟩
end
end Go.Proofs.YtlbilofnbhhmjaaGreatDoor
