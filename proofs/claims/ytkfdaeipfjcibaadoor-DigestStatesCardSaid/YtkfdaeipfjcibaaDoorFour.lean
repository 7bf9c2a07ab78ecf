/- Four States and the bytes that each stands for, as the statement keeps them: what holds of them, and that it goes on to hold. -/
import Derived.Test.YtkfdaeipfjcibaaDoorRMac
namespace Go.Proofs.YtkfdaeipfjcibaaDoor
open Go.RowKit
set_option linter.unusedVariables false
set_option linter.unusedSimpArgs false
abbrev Place := Option (Nat × List Int)
def ptr : Place → Value
  | none => .pointer none
  | some p => .pointer (some ⟨p.1, 0, none⟩)
def bytesOf : Place → List Int
  | none => []
  | some p => p.2
theorem row_ne {w : World} {b c T U : Nat} {cs ds : List Value} (h : Row w b T cs) (k : Row w c U ds) (hne : T ≠ U) : b ≠ c := fun e => by
  subst e
  have := h.symm.trans k
  simp at this
  exact hne this.2
theorem own_ne_row {w : World} {base b T : Nat} {v : Value} {l : List Int} {cs : List Value} (h : Own w base v l) (k : Row w b T cs) (hne : T ≠ 5) : v.ownBlock ≠ some b := fun e => by
  rcases h.2 with ⟨rfl, _⟩ | ⟨g, cap, cur, rfl, _, hg, _⟩
  · cases e
  · simp [Value.ownBlock] at e
    subst e
    have := k.symm.trans hg
    simp at this
    exact hne this.2
structure Four (w : World) (Bs Bt Bh N0 : Nat) (ps : List Place) (ts : List Bool) (hl : List (List Int)) (hs : List Value) : Prop where
  rs : Row w Bs 32 (ps.map ptr)
  rt : Row w Bt 4 (ts.map Value.bool)
  rh : Row w Bh 22 hs
  rep : ∀ (k : Nat) (p : Nat × List Int), ps[k]? = some (some p) → Rep w p.1 p.2 ∧ 0 ≠ p.1 ∧ N0 ≤ p.1
  dis : ∀ (j k : Nat) (p q : Nat × List Int), j ≠ k → ps[j]? = some (some p) → ps[k]? = some (some q) → p.1 ≠ q.1
  own : ∀ (k : Nat) v l, hs[k]? = some v → hl[k]? = some l → Own w N0 v l
  apt : ∀ (j k : Nat) v u, j ≠ k → hs[j]? = some v → hs[k]? = some u → Apart v u
theorem Rep.row {w : World} {b : Nat} {l : List Int} (h : Rep w b l) : ∃ cs, Row w b 50 cs := by obtain ⟨_, _, h, _⟩ := h; exact ⟨_, h⟩
theorem Four.keep {w w' : World} {Bs Bt Bh N0 : Nat} {ps : List Place} {ts : List Bool} {hl : List (List Int)} {hs : List Value} (h : Four w Bs Bt Bh N0 ps ts hl hs) (hg : w.grownBy w' none) : Four w' Bs Bt Bh N0 ps ts hl hs where
  rs := h.rs.grown hg (by simp)
  rt := h.rt.grown hg (by simp)
  rh := h.rh.grown hg (by simp)
  rep k p hp := let ⟨a, b, c⟩ := h.rep k p hp; ⟨a.grown hg (by simp), b, c⟩
  dis := h.dis
  own k v l hv hl := (h.own k v l hv hl).grown hg (by cases v.ownBlock <;> simp)
  apt := h.apt
/-- One State takes more bytes. -/
theorem Four.add {w w' : World} {Bs Bt Bh N0 : Nat} {ps : List Place} {ts : List Bool} {hl : List (List Int)} {hs : List Value} (h : Four w Bs Bt Bh N0 ps ts hl hs) {k b : Nat} {l l' : List Int} (hk : ps[k]? = some (some (b, l)))
    (hr : Rep w' b l') (hg : w.grownBy w' (some b)) : Four w' Bs Bt Bh N0 (ps.set k (some (b, l'))) ts hl hs := by
  obtain ⟨hrep, h0, hN⟩ := h.rep k _ hk
  obtain ⟨cs, hrow⟩ := hrep.row
  have hlt : k < ps.length := (List.getElem?_eq_some_iff.1 hk).1
  have hmap : (ps.set k (some (b, l'))).map ptr = ps.map ptr := by
    rw [List.map_set]
    have e : (ps.map ptr)[k]? = some (ptr (some (b, l'))) := by rw [List.getElem?_map, hk]; rfl
    refine List.ext_getElem? fun i => ?_
    rw [List.getElem?_set]
    split
    · rename_i hi
      subst hi
      rw [if_pos (by simpa using hlt), e]
    · rfl
  refine ⟨by rw [hmap]; exact h.rs.grown hg (by simp; exact row_ne h.rs hrow (by decide)), h.rt.grown hg (by simp; exact row_ne h.rt hrow (by decide)), h.rh.grown hg (by simp; exact row_ne h.rh hrow (by decide)), fun j p hp => ?_, fun i j p q hij hp hq => ?_,
    fun j v l hv hl => (h.own j v l hv hl).grown hg (.inr (own_ne_row (h.own j v l hv hl) hrow (by decide))), h.apt⟩
  · by_cases hj : j = k
    · subst hj
      rw [List.getElem?_set_self hlt] at hp
      obtain rfl := Option.some.inj (Option.some.inj hp)
      exact ⟨hr, h0, hN⟩
    · rw [List.getElem?_set_ne (Ne.symm hj)] at hp
      obtain ⟨a, c, d⟩ := h.rep j p hp
      exact ⟨a.grown hg (by simp; exact h.dis j k p (b, l) hj hp hk), c, d⟩
  · by_cases hi : i = k
    · subst hi
      rw [List.getElem?_set_self hlt] at hp
      obtain rfl := Option.some.inj (Option.some.inj hp)
      rw [List.getElem?_set_ne hij] at hq
      exact h.dis i j (b, l) q hij hk hq
    · rw [List.getElem?_set_ne (Ne.symm hi)] at hp
      by_cases hj : j = k
      · subst hj
        rw [List.getElem?_set_self hlt] at hq
        obtain rfl := Option.some.inj (Option.some.inj hq)
        exact h.dis i j p (b, l) hij hp hk
      · rw [List.getElem?_set_ne (Ne.symm hj)] at hq
        exact h.dis i j p q hij hp hq
/-- A place is given another State, or none. -/
theorem Four.setp {w : World} {Bs Bt Bh N0 : Nat} {ps : List Place} {ts : List Bool} {hl : List (List Int)} {hs : List Value} (h : Four w Bs Bt Bh N0 ps ts hl hs) (j : Nat) (p' : Place)
    (hp : ∀ q, p' = some q → Rep w q.1 q.2 ∧ 0 ≠ q.1 ∧ N0 ≤ q.1 ∧ ∀ (k : Nat) (r : Nat × List Int), k ≠ j → ps[k]? = some (some r) → r.1 ≠ q.1) :
    Four (w.setCell ⟨Bs, j, none⟩ (ptr p')) Bs Bt Bh N0 (ps.set j p') ts hl hs := by
  have hg : w.grownBy (w.setCell ⟨Bs, j, none⟩ (ptr p')) (some Bs) := grown_set (grown_refl w _) (.inl rfl) j _
  refine ⟨by rw [List.map_set]; exact h.rs.set j _, h.rt.set_other (row_ne h.rt h.rs (by decide)) _ _, h.rh.set_other (row_ne h.rh h.rs (by decide)) _ _, fun k p hk => ?_, fun i k p q hik hpi hqk => ?_,
    fun k v l hv hl => (h.own k v l hv hl).grown hg (.inr (own_ne_row (h.own k v l hv hl) h.rs (by decide))), h.apt⟩
  · have key : Rep w p.1 p.2 ∧ 0 ≠ p.1 ∧ N0 ≤ p.1 := by
      by_cases hkj : k = j
      · subst hkj
        rw [List.getElem?_set] at hk
        simp only [if_true] at hk
        split at hk
        · obtain ⟨a, b, c, _⟩ := hp p (Option.some.inj hk)
          exact ⟨a, b, c⟩
        · cases hk
      · rw [List.getElem?_set_ne (Ne.symm hkj)] at hk
        exact h.rep k p hk
    obtain ⟨cs, hrow⟩ := key.1.row
    exact ⟨key.1.grown hg (by simp; exact row_ne hrow h.rs (by decide)), key.2⟩
  · have get : ∀ (m : Nat) (r : Nat × List Int), (ps.set j p')[m]? = some (some r) → (m = j ∧ p' = some r) ∨ (m ≠ j ∧ ps[m]? = some (some r)) := fun m r hm => by
      by_cases hmj : m = j
      · subst hmj
        rw [List.getElem?_set] at hm
        simp only [if_true] at hm
        split at hm
        · exact .inl ⟨rfl, Option.some.inj hm⟩
        · cases hm
      · rw [List.getElem?_set_ne (Ne.symm hmj)] at hm
        exact .inr ⟨hmj, hm⟩
    rcases get i p hpi with ⟨rfl, ha⟩ | ⟨hi, ha⟩ <;> rcases get k q hqk with ⟨hkj, hb⟩ | ⟨hk, hb⟩
    · exact absurd hkj.symm hik
    · exact ((hp p ha).2.2.2 k q hk hb).symm
    · subst hkj; exact (hp q hb).2.2.2 i p hi ha
    · exact h.dis i k p q hik ha hb
theorem Four.sett {w : World} {Bs Bt Bh N0 : Nat} {ps : List Place} {ts : List Bool} {hl : List (List Int)} {hs : List Value} (h : Four w Bs Bt Bh N0 ps ts hl hs) (j : Nat) (b : Bool) :
    Four (w.setCell ⟨Bt, j, none⟩ (.bool b)) Bs Bt Bh N0 ps (ts.set j b) hl hs := by
  have hg : w.grownBy (w.setCell ⟨Bt, j, none⟩ (.bool b)) (some Bt) := grown_set (grown_refl w _) (.inl rfl) j _
  refine ⟨h.rs.set_other (row_ne h.rs h.rt (by decide)) _ _, by rw [List.map_set]; exact h.rt.set j _, h.rh.set_other (row_ne h.rh h.rt (by decide)) _ _, fun k p hk => ?_, h.dis,
    fun k v l hv hl => (h.own k v l hv hl).grown hg (.inr (own_ne_row (h.own k v l hv hl) h.rt (by decide))), h.apt⟩
  obtain ⟨a, b, c⟩ := h.rep k p hk
  obtain ⟨cs, hrow⟩ := a.row
  exact ⟨a.grown hg (by simp; exact row_ne hrow h.rt (by decide)), b, c⟩
/-- What a place holds is grown (its own row may turn), and kept in the third slice. -/
theorem Four.app {w w2 : World} {Bs Bt Bh N0 : Nat} {ps : List Place} {ts : List Bool} {hl : List (List Int)} {hs : List Value} (h : Four w Bs Bt Bh N0 ps ts hl hs) (j : Nat) (row : Option Nat) (v' : Value) (l' : List Int)
    (hg : w.grownBy w2 row) (hrow : row = none ∨ ∃ v, hs[j]? = some v ∧ row = v.ownBlock ∧ ∃ l, hl[j]? = some l)
    (hown : Own w2 N0 v' l') (hap : ∀ (k : Nat) u, k ≠ j → hs[k]? = some u → Apart v' u) :
    Four (w2.setCell ⟨Bh, j, none⟩ v') Bs Bt Bh N0 ps ts (hl.set j l') (hs.set j v') := by
  have hne : ∀ {b T : Nat} {cs : List Value}, Row w b T cs → T ≠ 5 → some b ≠ row := fun {b T cs} hr hT e => by
    rcases hrow with rfl | ⟨v, hv, rfl, l, hl⟩
    · cases e
    · exact own_ne_row (h.own j v l hv hl) hr hT e.symm
  have rs2 : Row w2 Bs 32 (ps.map ptr) := h.rs.grown hg (hne h.rs (by decide))
  have rt2 : Row w2 Bt 4 (ts.map Value.bool) := h.rt.grown hg (hne h.rt (by decide))
  have rh2 : Row w2 Bh 22 hs := h.rh.grown hg (hne h.rh (by decide))
  have hg3 : w2.grownBy (w2.setCell ⟨Bh, j, none⟩ v') (some Bh) := grown_set (grown_refl w2 _) (.inl rfl) j _
  refine ⟨rs2.set_other (row_ne rs2 rh2 (by decide)) _ _, rt2.set_other (row_ne rt2 rh2 (by decide)) _ _, rh2.set j _, fun k p hk => ?_, h.dis, fun k v l hv hl' => ?_, fun i k v u hik hv hu => ?_⟩
  · obtain ⟨a, b, c⟩ := h.rep k p hk
    obtain ⟨cs, hr⟩ := a.row
    have a2 := a.grown hg (hne hr (by decide))
    obtain ⟨cs2, hr2⟩ := a2.row
    exact ⟨a2.grown hg3 (by simp; exact row_ne hr2 rh2 (by decide)), b, c⟩
  · have key : Own w2 N0 v l := by
      by_cases hkj : k = j
      · subst hkj
        rw [List.getElem?_set] at hv hl'
        simp only [if_true] at hv hl'
        split at hv
        · split at hl'
          · rw [← Option.some.inj hv, ← Option.some.inj hl']; exact hown
          · cases hl'
        · cases hv
      · rw [List.getElem?_set_ne (Ne.symm hkj)] at hv hl'
        refine (h.own k v l hv hl').grown hg ?_
        rcases hrow with rfl | ⟨v0, hv0, rfl, l0, hl0⟩
        · cases v.ownBlock <;> simp
        · exact (h.apt j k v0 v (Ne.symm hkj) hv0 hv).row
    exact key.grown hg3 (.inr (own_ne_row key rh2 (by decide)))
  · have get : ∀ (m : Nat) x, (hs.set j v')[m]? = some x → (m = j ∧ v' = x) ∨ (m ≠ j ∧ hs[m]? = some x) := fun m x hm => by
      by_cases hmj : m = j
      · subst hmj
        rw [List.getElem?_set] at hm
        simp only [if_true] at hm
        split at hm
        · exact .inl ⟨rfl, Option.some.inj hm⟩
        · cases hm
      · rw [List.getElem?_set_ne (Ne.symm hmj)] at hm
        exact .inr ⟨hmj, hm⟩
    rcases get i v hv with ⟨rfl, rfl⟩ | ⟨hi, ha⟩ <;> rcases get k u hu with ⟨hkj, hb⟩ | ⟨hk, hb⟩
    · exact absurd hkj.symm hik
    · exact hap k u hk hb
    · subst hb; exact (hap i v (by omega) ha).symm
    · exact h.apt i k v u hik ha hb
end Go.Proofs.YtkfdaeipfjcibaaDoor
