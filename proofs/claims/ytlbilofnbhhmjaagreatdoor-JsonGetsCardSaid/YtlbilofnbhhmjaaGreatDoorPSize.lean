/- How large what is parsed can be. No program in it. JsonParses: the walk. -/
import Derived.Test.YtlbilofnbhhmjaaGreatDoorSpec
import Derived.Test.YtlbilofnbhhmjaaGreatDoorSpoil
import Derived.Test.YtlbilofnbhhmjaaGreatDoorSame
namespace Go.Proofs.YtlbilofnbhhmjaaGreatDoor
section
set_option linter.unusedVariables false
set_option linter.unusedSimpArgs false
theorem textN_len (s : ByteArray) : ∀ (f i : Nat) (acc l : List Int) (j : Nat), textN s f i acc = .ok l j → l.length ≤ acc.length + 4 * f
  | 0, i, acc, l, j, h => by simp [textN] at h
  | f + 1, i, acc, l, j, h => by
    unfold textN at h
    split at h
    · cases h
    · split at h
      · cases h; omega
      · split at h
        · split at h
          · rename_i v k he
            have := textN_len s f _ _ _ _ h
            have := (Lib.encodeRuneZ_length v).2
            simp only [List.length_append] at *
            omega
          · cases h
        · split at h
          · cases h
          · have := textN_len s f _ _ _ _ h
            have := (Lib.encodeRuneZ_length (runeAt s i).1).2
            simp only [List.length_append] at *
            omega
theorem text_len {s : ByteArray} {i j : Nat} {l : List Int} (h : text s i = .ok l j) : l.length ≤ 4 * (s.size + 1) := by
  have := textN_len s _ _ _ _ _ h
  simpa using this
theorem str_sz (l : List Int) : (str l).size = l.length := Go.strOfNums_size l
theorem JsAll.append {P : J → Prop} : ∀ {l : List J} {v : J}, JsAll P l → JAll P v → JsAll P (l ++ [v])
  | [], v, h, k => by show JsAll P [v]; unfold JsAll; exact ⟨k, by unfold JsAll; trivial⟩
  | a :: l, v, h, k => by
    unfold JsAll at h
    show JsAll P (a :: (l ++ [v]))
    unfold JsAll
    exact ⟨h.1, JsAll.append h.2 k⟩
theorem jkey_len {s : ByteArray} {ks : List ByteArray} {i j : Nat} {k : ByteArray} (h : jkey s ks i = .ok k j) : k.size ≤ 4 * (s.size + 1) := by
  unfold jkey at h
  split at h
  · cases h
  · split at h
    · cases h
    · split at h
      · cases h
      · rename_i l j ht
        split at h
        · cases h
        · split at h
          · cases h
          · cases h
            rw [str_sz]; exact text_len ht
theorem itemsN_sz {s : ByteArray} {val : Nat → R J} {obj : Bool} {M : Nat} (hM : 4 * (s.size + 1) ≤ M) (hv : ∀ i v j, val i = .ok v j → JAll (JSz M) v) :
    ∀ (f i : Nat) (ks : List ByteArray) (ls : List J) (v : J) (j : Nat), itemsN s val obj f i ks ls = .ok v j → ks.length + f ≤ M → ls.length + f ≤ M → (∀ k ∈ ks, k.size ≤ M) → JsAll (JSz M) ls → JAll (JSz M) v
  | 0, i, ks, ls, v, j, h, _, _, _, _ => by simp [itemsN] at h
  | f + 1, i, ks, ls, v, j, h, h1, h2, h3, h4 => by
    unfold itemsN at h
    have mk : ∀ (kd : Int) (ks' : List ByteArray) (v' : J), JAll (JSz M) v' → ks'.length ≤ M → (∀ k ∈ ks', k.size ≤ M) → JAll (JSz M) (.mk kd false ⟨#[]⟩ ks' (ls ++ [v'])) := fun kd ks' v' hv' hk1 hk2 => by
      unfold JAll
      refine ⟨⟨?_, hk1, ?_, hk2⟩, h4.append hv'⟩
      · show 0 ≤ M; omega
      · show (ls ++ [v']).length ≤ M
        simp; omega
    split at h
    · split at h
      · cases h
      · rename_i k j1 hk
        have hkl := jkey_len hk
        have hks : ∀ q ∈ ks ++ [k], q.size ≤ M := fun q hq => by
          rcases List.mem_append.1 hq with hq | hq
          · exact h3 q hq
          · obtain rfl : q = k := by simpa using hq
            omega
        split at h
        · cases h
        · rename_i v' j2 hv'
          split at h
          · cases h
            exact mk _ _ _ (hv _ _ _ hv') (by simp; omega) hks
          · split at h
            · exact itemsN_sz hM hv f _ _ _ _ _ h (by simp; omega) (by simp; omega) hks (h4.append (hv _ _ _ hv'))
            · cases h
    · split at h
      · cases h
      · split at h
        · cases h
        · rename_i v' j2 hv'
          split at h
          · cases h
            exact mk _ _ _ (hv _ _ _ hv') (by omega) h3
          · split at h
            · exact itemsN_sz hM hv f _ _ _ _ _ h (by omega) (by simp; omega) h3 (h4.append (hv _ _ _ hv'))
            · cases h
theorem leaf_sz {M : Nat} {kd : Int} {b : Bool} {t : ByteArray} (h : t.size ≤ M) : JAll (JSz M) (.mk kd b t [] []) := by
  unfold JAll
  exact ⟨⟨h, Nat.zero_le _, Nat.zero_le _, by intro k hk; cases hk⟩, by unfold JsAll; trivial⟩
theorem members_sz {s : ByteArray} {val : Nat → R J} {obj : Bool} {M i j : Nat} {v : J} (hM : 4 * (s.size + 1) ≤ M) (hv : ∀ i v j, val i = .ok v j → JAll (JSz M) v) (h : members s val obj i = .ok v j) : JAll (JSz M) v := by
  unfold members at h
  by_cases hc : ch s (skip s (i + 1)) = (if obj then 125 else 93)
  · rw [if_pos hc] at h
    cases h; exact leaf_sz (by show 0 ≤ M; omega)
  · rw [if_neg hc] at h
    exact itemsN_sz hM hv _ _ _ _ _ _ h (by simp; omega) (by simp; omega) (by intro k hk; cases hk) (by unfold JsAll; trivial)
theorem value_sz {s : ByteArray} {M : Nat} (hM : 4 * (s.size + 1) ≤ M) : ∀ (d i : Nat) (v : J) (j : Nat), value s d i = .ok v j → JAll (JSz M) v
  | 0, i, v, j, h => by unfold value at h; split at h <;> cases h
  | d + 1, i, v, j, h => by
    unfold value at h
    have e0 : (⟨#[]⟩ : ByteArray).size ≤ M := by show 0 ≤ M; omega
    split at h
    · cases h
    · split at h
      · exact members_sz hM (value_sz hM d) h
      · split at h
        · exact members_sz hM (value_sz hM d) h
        · split at h
          · split at h
            · rename_i l j ht
              cases h
              exact leaf_sz (by rw [str_sz]; have := text_len ht; omega)
            · cases h
          · split at h
            · split at h
              · cases h; exact leaf_sz e0
              · cases h
            · split at h
              · split at h
                · cases h; exact leaf_sz e0
                · cases h
              · split at h
                · split at h
                  · cases h; exact leaf_sz e0
                  · cases h
                · split at h
                  · cases h
                    exact leaf_sz (by rw [ByteArray.size_extract]; omega)
                  · cases h
theorem parse_sz (s : ByteArray) : JAll (JSz 40000) (parse s).1 := by
  unfold parse
  split
  · exact leaf_sz (by decide)
  · split
    · exact leaf_sz (by decide)
    · rename_i v j hv
      split
      · exact leaf_sz (by decide)
      · exact value_sz (by omega) _ _ _ _ hv
mutual
theorem JAll.imp {P Q : J → Prop} (h : ∀ j, P j → Q j) : ∀ {j : J}, JAll P j → JAll Q j
  | .mk kd b t ks ls, k => by unfold JAll at k ⊢; exact ⟨h _ k.1, JsAll.imp h k.2⟩
theorem JsAll.imp {P Q : J → Prop} (h : ∀ j, P j → Q j) : ∀ {ls : List J}, JsAll P ls → JsAll Q ls
  | [], k => by unfold JsAll; trivial
  | j :: ls, k => by unfold JsAll at k ⊢; exact ⟨JAll.imp h k.1, JsAll.imp h k.2⟩
end
theorem JSz.mono {M N : Nat} (h : M ≤ N) : ∀ j : J, JSz M j → JSz N j := fun j ⟨a, b, c, d⟩ => ⟨by omega, by omega, by omega, fun k hk => Nat.le_trans (d k hk) h⟩
end
section
open Go.RowKit
set_option linter.unusedVariables false
set_option linter.unusedSimpArgs false
/-- Two values of one world, the same. -/
theorem same_at (j : J) (cs1 cs2 : List Value) (w : World) (h1 : JR w j cs1) (h2 : JR w j cs2) (hsz : JAll (JSz 40000) j) :
    Calls Tryz.prog 9 #[.agg cs1.toArray, .agg cs2.toArray] w fun e w' => e = .returned (.bool true) ∧ Below w.heap.size w w' :=
  same_any w j cs1 cs2 w h1 h2 (hsz.imp (JSz.mono (by omega))) (below_of_grown (grown_refl w none))
/-- What the three readings leave: the bytes, the argument, a value in its box. -/
structure PAt (w0 wr : World) (g cap : Nat) (A : Option Addr) (x : List Int) : Prop where
  below : Below w0.heap.size w0 wr
  room : Roomed wr g cap x
  big : 2 < wr.heap.size
theorem PAt.src {w0 wr : World} {g cap : Nat} {A : Option Addr} {x : List Int} (h : PAt w0 wr g cap A x) (hx : Src w0 A x) : Src wr A x := hx.grown (grown_of_below h.below none) (by simp)
theorem PAt.tabs {w0 wr : World} {g cap : Nat} {A : Option Addr} {x : List Int} (h : PAt w0 wr g cap A x) (hT : Lib.Utf8Tabs 1 2 w0) : Lib.Utf8Tabs 1 2 wr := tabs_below hT h.below
theorem PAt.grown {w0 wr w2 : World} {g cap : Nat} {A : Option Addr} {x : List Int} {row : Option Nat} (h : PAt w0 wr g cap A x) (hg : wr.grownBy w2 row) (hr : ∀ b, row = some b → w0.heap.size ≤ b ∧ b ≠ g) : PAt w0 w2 g cap A x :=
  ⟨below_of_grown (grown_own (grown_of_below h.below none) hg (fun i hi => .inr (hr i hi).1)), h.room.grown hg (fun e => (hr g e.symm).2 rfl), Nat.lt_of_lt_of_le h.big hg.size⟩
theorem only_below {w w1 w2 : World} {F : List Nat} (h : Below w.heap.size w w1) (hO : Only F w1 w2) (hF : ∀ g ∈ F, w.heap.size ≤ g) : Below w.heap.size w w2 :=
  ⟨hO.os.trans h.os, hO.tape.trans h.tape, hO.output.trans h.output, Nat.le_trans h.size hO.size, fun i hi => (hO.block i (Nat.lt_of_lt_of_le hi h.size) (fun hm => by have := hF i hm; omega)).trans (h.block i hi)⟩
theorem PAt.only {w0 wr w2 : World} {g cap : Nat} {A : Option Addr} {x : List Int} {F : List Nat} (h : PAt w0 wr g cap A x) (hO : Only F wr w2) (hF : ∀ b ∈ F, w0.heap.size ≤ b ∧ b ≠ g) : PAt w0 w2 g cap A x :=
  ⟨only_below h.below hO (fun b hb => (hF b hb).1), by
    obtain ⟨cs, hr, h⟩ := h.room
    exact ⟨cs, hO.row hr (fun hm => (hF g hm).2 rfl), h⟩, Nat.lt_of_lt_of_le h.big hO.size⟩
/-- The bytes are being written over. -/
structure Over (w wr : World) (g n : Nat) : Prop where
  only : Only [g] w wr
  row : ∃ cs, Row wr g 5 cs ∧ n ≤ cs.length
theorem Over.step {w wr : World} {g n i : Nat} (h : Over w wr g n) (hi : i < n) : (∃ z, wr.cell? ⟨g, i, none⟩ = some z) ∧ wr.frozen? ⟨g, i, none⟩ = false ∧ ∀ v, Over w (wr.setCell ⟨g, i, none⟩ v) g n := by
  obtain ⟨cs, hr, hl⟩ := h.row
  refine ⟨⟨_, by rw [hr.cell, List.getElem?_eq_getElem (by omega)]⟩, hr.frozen i, fun v => ⟨h.only.then (grown_set (grown_refl wr (some g)) (.inl rfl) i v) (fun b e => .inl (by simp [Option.some.inj e])), _, hr.set i v, by simpa using hl⟩⟩
theorem read_kept {w1 w2 w3 w4 : World} {p : Nat} (hg : w1.grownBy w2 none) (hgb : w2.grownBy w3 none) (hgc : w3.grownBy w4 (some p)) (hp : w2.heap.size = p) (hs : w3.heap.size = w2.heap.size + 1) (hs4 : w4.heap.size = w3.heap.size) :
    w1.grownBy w4 none ∧ w2.grownBy w4 none ∧ w1.heap.size ≤ p ∧ w4.heap.size = p + 1 :=
  ⟨grown_own (grown_own hg hgb (by simp)) hgc (fun i hi => .inr (by have := Option.some.inj hi; have := hg.size; omega)), grown_own hgb hgc (fun i hi => .inr (by have := Option.some.inj hi; omega)), by have := hg.size; omega, by omega⟩
theorem below_trans2 {w w1 w2 : World} (h : Below w.heap.size w w1) (k : Below w1.heap.size w1 w2) : Below w.heap.size w w2 :=
  below_of_grown (grown_below (grown_of_below h none) k h.size)
theorem below_step {w w1 w2 : World} (h : Below w.heap.size w w1) (k : w1.grownBy w2 none) : Below w.heap.size w w2 := below_trans2 h (below_of_grown k)
theorem src_below {w w' : World} {A : Option Addr} {x : List Int} (h : Src w A x) (hb : Below w.heap.size w w') : Src w' A x := h.grown (grown_of_below hb none) (by simp)
end
end Go.Proofs.YtlbilofnbhhmjaaGreatDoor
