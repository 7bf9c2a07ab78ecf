/- How large what is parsed can be. No program in it. JsonParses: the walk. -/
import Derived.Test.YtlbilofnbhhmjaaDoorSpec
import Derived.Test.YtlbilofnbhhmjaaDoorSpoil
import Derived.Test.YtlbilofnbhhmjaaDoorSame
namespace Go.Proofs.YtlbilofnbhhmjaaDoor
section
set_option linter.unusedVariables false
set_option linter.unusedSimpArgs false
theorem textN_len (s : ByteArray) : ∀ (f i : Nat) (acc l : List Int) (j : Nat), textN s f i acc = .ok l j → l.length ≤ acc.length + 4 * f
  | 0, i, acc, l, j, h => by simp [textN] at h
  | f + 1, i, acc, l, j, h => by
    unfold textN at h
    split at h
    · cases h
    · split at h
      · cases h; omega
      · split at h
        · split at h
          · rename_i v k he
            have := textN_len s f _ _ _ _ h
            have := (Lib.encodeRuneZ_length v).2
            simp only [List.length_append] at *
            omega
          · cases h
        · split at h
          · cases h
          · have := textN_len s f _ _ _ _ h
            have := (Lib.encodeRuneZ_length (runeAt s i).1).2
            simp only [List.length_append] at *
            omega
theorem text_len {s : ByteArray} {i j : Nat} {l : List Int} (h : text s i = .ok l j) : l.length ≤ 4 * (s.size + 1) := by
  have := textN_len s _ _ _ _ _ h
  simpa using this
theorem str_sz (l : List Int) : (str l).size = l.length := Go.strOfNums_size l
theorem JsAll.append {P : J → Prop} : ∀ {l : List J} {v : J}, JsAll P l → JAll P v → JsAll P (l ++ [v])
  | [], v, h, k => by show JsAll P [v]; unfold JsAll; exact ⟨k, by unfold JsAll; trivial⟩
  | a :: l, v, h, k => by
    unfold JsAll at h
    show JsAll P (a :: (l ++ [v]))
    unfold JsAll
    exact ⟨h.1, JsAll.append h.2 k⟩
theorem jkey_len {s : ByteArray} {ks : List ByteArray} {i j : Nat} {k : ByteArray} (h : jkey s ks i = .ok k j) : k.size ≤ 4 * (s.size + 1) := by
  unfold jkey at h
  split at h
  · cases h
  · split at h
    · cases h
    · split at h
      · cases h
      · rename_i l j ht
        split at h
        · cases h
        · split at h
          · cases h
          · cases h
            rw [str_sz]; exact text_len ht
theorem itemsN_sz {s : ByteArray} {val : Nat → R J} {obj : Bool} {M : Nat} (hM : 4 * (s.size + 1) ≤ M) (hv : ∀ i v j, val i = .ok v j → JAll (JSz M) v) :
    ∀ (f i : Nat) (ks : List ByteArray) (ls : List J) (v : J) (j : Nat), itemsN s val obj f i ks ls = .ok v j → ks.length + f ≤ M → ls.length + f ≤ M → (∀ k ∈ ks, k.size ≤ M) → JsAll (JSz M) ls → JAll (JSz M) v
  | 0, i, ks, ls, v, j, h, _, _, _, _ => by simp [itemsN] at h
  | f + 1, i, ks, ls, v, j, h, h1, h2, h3, h4 => by
    unfold itemsN at h
    have mk : ∀ (kd : Int) (ks' : List ByteArray) (v' : J), JAll (JSz M) v' → ks'.length ≤ M → (∀ k ∈ ks', k.size ≤ M) → JAll (JSz M) (.mk kd false ⟨#[]⟩ ks' (ls ++ [v'])) := fun kd ks' v' hv' hk1 hk2 => by
      unfold JAll
      refine ⟨⟨?_, hk1, ?_, hk2⟩, h4.append hv'⟩
      · show 0 ≤ M; omega
      · show (ls ++ [v']).length ≤ M
        simp; omega
    split at h
    · split at h
      · cases h
      · rename_i k j1 hk
        have hkl := jkey_len hk
        have hks : ∀ q ∈ ks ++ [k], q.size ≤ M := fun q hq => by
          rcases List.mem_append.1 hq with hq | hq
          · exact h3 q hq
          · obtain rfl : q = k := by simpa using hq
            omega
        split at h
        · cases h
        · rename_i v' j2 hv'
          split at h
          · cases h
            exact mk _ _ _ (hv _ _ _ hv') (by simp; omega) hks
          · split at h
            · exact itemsN_sz hM hv f _ _ _ _ _ h (by simp; omega) (by simp; omega) hks (h4.append (hv _ _ _ hv'))
            · cases h
    · split at h
      · cases h
      · split at h
        · cases h
        · rename_i v' j2 hv'
          split at h
          · cases h
            exact mk _ _ _ (hv _ _ _ hv') (by omega) h3
          · split at h
            · exact itemsN_sz hM hv f _ _ _ _ _ h (by omega) (by simp; omega) h3 (h4.append (hv _ _ _ hv'))
            · cases h
theorem leaf_sz {M : Nat} {kd : Int} {b : Bool} {t : ByteArray} (h : t.size ≤ M) : JAll (JSz M) (.mk kd b t [] []) := by
  unfold JAll
  exact ⟨⟨h, Nat.zero_le _, Nat.zero_le _, by intro k hk; cases hk⟩, by unfold JsAll; trivial⟩
theorem members_sz {s : ByteArray} {val : Nat → R J} {obj : Bool} {M i j : Nat} {v : J} (hM : 4 * (s.size + 1) ≤ M) (hv : ∀ i v j, val i = .ok v j → JAll (JSz M) v) (h : members s val obj i = .ok v j) : JAll (JSz M) v := by
  unfold members at h
  by_cases hc : ch s (skip s (i + 1)) = (if obj then 125 else 93)
  · rw [if_pos hc] at h
    cases h; exact leaf_sz (by show 0 ≤ M; omega)
  · rw [if_neg hc] at h
    exact itemsN_sz hM hv _ _ _ _ _ _ h (by simp; omega) (by simp; omega) (by intro k hk; cases hk) (by unfold JsAll; trivial)
theorem value_sz {s : ByteArray} {M : Nat} (hM : 4 * (s.size + 1) ≤ M) : ∀ (d i : Nat) (v : J) (j : Nat), value s d i = .ok v j → JAll (JSz M) v
  | 0, i, v, j, h => by unfold value at h; split at h <;> cases h
  | d + 1, i, v, j, h => by
    unfold value at h
    have e0 : (⟨#[]⟩ : ByteArray).size ≤ M := by show 0 ≤ M; omega
    split at h
    · cases h
    · split at h
      · exact members_sz hM (value_sz hM d) h
      · split at h
        · exact members_sz hM (value_sz hM d) h
        · split at h
          · split at h
            · rename_i l j ht
              cases h
              exact leaf_sz (by rw [str_sz]; have := text_len ht; omega)
            · cases h
          · split at h
            · split at h
              · cases h; exact leaf_sz e0
              · cases h
            · split at h
              · split at h
                · cases h; exact leaf_sz e0
                · cases h
              · split at h
                · split at h
                  · cases h; exact leaf_sz e0
                  · cases h
                · split at h
                  · cases h
                    exact leaf_sz (by rw [ByteArray.size_extract]; omega)
                  · cases h
theorem parse_sz (s : ByteArray) : JAll (JSz 40000) (parse s).1 := by
  unfold parse
  split
  · exact leaf_sz (by decide)
  · split
    · exact leaf_sz (by decide)
    · rename_i v j hv
      split
      · exact leaf_sz (by decide)
      · exact value_sz (by omega) _ _ _ _ hv
mutual
theorem JAll.imp {P Q : J → Prop} (h : ∀ j, P j → Q j) : ∀ {j : J}, JAll P j → JAll Q j
  | .mk kd b t ks ls, k => by unfold JAll at k ⊢; exact ⟨h _ k.1, JsAll.imp h k.2⟩
theorem JsAll.imp {P Q : J → Prop} (h : ∀ j, P j → Q j) : ∀ {ls : List J}, JsAll P ls → JsAll Q ls
  | [], k => by unfold JsAll; trivial
  | j :: ls, k => by unfold JsAll at k ⊢; exact ⟨JAll.imp h k.1, JsAll.imp h k.2⟩
end
theorem JSz.mono {M N : Nat} (h : M ≤ N) : ∀ j : J, JSz M j → JSz N j := fun j ⟨a, b, c, d⟩ => ⟨by omega, by omega, by omega, fun k hk => Nat.le_trans (d k hk) h⟩
end
section
open Go.RowKit
set_option linter.unusedVariables false
set_option linter.unusedSimpArgs false
/-- Two values of one world, the same. -/
theorem same_at (j : J) (cs1 cs2 : List Value) (w : World) (h1 : JR w j cs1) (h2 : JR w j cs2) (hsz : JAll (JSz 40000) j) :
    Calls Tryd.prog 13 #[.agg cs1.toArray, .agg cs2.toArray] w fun e w' => e = .returned (.bool true) ∧ Below w.heap.size w w' :=
  same_any w j cs1 cs2 w h1 h2 (hsz.imp (JSz.mono (by omega))) (below_of_grown (grown_refl w none))
/-- What the three readings leave: the bytes, the argument, a value in its box. -/
structure PAt (w0 wr : World) (g cap : Nat) (A : Option Addr) (x : List Int) : Prop where
  below : Below w0.heap.size w0 wr
  room : Roomed wr g cap x
  big : 1 < wr.heap.size
theorem PAt.src {w0 wr : World} {g cap : Nat} {A : Option Addr} {x : List Int} (h : PAt w0 wr g cap A x) (hx : Src w0 A x) : Src wr A x := hx.grown (grown_of_below h.below none) (by simp)
theorem PAt.tabs {w0 wr : World} {g cap : Nat} {A : Option Addr} {x : List Int} (h : PAt w0 wr g cap A x) (hT : Lib.Utf8Tabs 0 1 w0) : Lib.Utf8Tabs 0 1 wr := tabs_below hT h.below
theorem PAt.grown {w0 wr w2 : World} {g cap : Nat} {A : Option Addr} {x : List Int} {row : Option Nat} (h : PAt w0 wr g cap A x) (hg : wr.grownBy w2 row) (hr : ∀ b, row = some b → w0.heap.size ≤ b ∧ b ≠ g) : PAt w0 w2 g cap A x :=
  ⟨below_of_grown (grown_own (grown_of_below h.below none) hg (fun i hi => .inr (hr i hi).1)), h.room.grown hg (fun e => (hr g e.symm).2 rfl), Nat.lt_of_lt_of_le h.big hg.size⟩
theorem only_below {w w1 w2 : World} {F : List Nat} (h : Below w.heap.size w w1) (hO : Only F w1 w2) (hF : ∀ g ∈ F, w.heap.size ≤ g) : Below w.heap.size w w2 :=
  ⟨hO.os.trans h.os, hO.tape.trans h.tape, hO.output.trans h.output, Nat.le_trans h.size hO.size, fun i hi => (hO.block i (Nat.lt_of_lt_of_le hi h.size) (fun hm => by have := hF i hm; omega)).trans (h.block i hi)⟩
theorem PAt.only {w0 wr w2 : World} {g cap : Nat} {A : Option Addr} {x : List Int} {F : List Nat} (h : PAt w0 wr g cap A x) (hO : Only F wr w2) (hF : ∀ b ∈ F, w0.heap.size ≤ b ∧ b ≠ g) : PAt w0 w2 g cap A x :=
  ⟨only_below h.below hO (fun b hb => (hF b hb).1), by
    obtain ⟨cs, hr, h⟩ := h.room
    exact ⟨cs, hO.row hr (fun hm => (hF g hm).2 rfl), h⟩, Nat.lt_of_lt_of_le h.big hO.size⟩
/-- The bytes are being written over. -/
structure Over (w wr : World) (g n : Nat) : Prop where
  only : Only [g] w wr
  row : ∃ cs, Row wr g 5 cs ∧ n ≤ cs.length
theorem Over.step {w wr : World} {g n i : Nat} (h : Over w wr g n) (hi : i < n) : (∃ z, wr.cell? ⟨g, i, none⟩ = some z) ∧ wr.frozen? ⟨g, i, none⟩ = false ∧ ∀ v, Over w (wr.setCell ⟨g, i, none⟩ v) g n := by
  obtain ⟨cs, hr, hl⟩ := h.row
  refine ⟨⟨_, by rw [hr.cell, List.getElem?_eq_getElem (by omega)]⟩, hr.frozen i, fun v => ⟨h.only.then (grown_set (grown_refl wr (some g)) (.inl rfl) i v) (fun b e => .inl (by simp [Option.some.inj e])), _, hr.set i v, by simpa using hl⟩⟩
theorem read_kept {w1 w2 w3 w4 : World} {p : Nat} (hg : w1.grownBy w2 none) (hgb : w2.grownBy w3 none) (hgc : w3.grownBy w4 (some p)) (hp : w2.heap.size = p) (hs : w3.heap.size = w2.heap.size + 1) (hs4 : w4.heap.size = w3.heap.size) :
    w1.grownBy w4 none ∧ w2.grownBy w4 none ∧ w1.heap.size ≤ p ∧ w4.heap.size = p + 1 :=
  ⟨grown_own (grown_own hg hgb (by simp)) hgc (fun i hi => .inr (by have := Option.some.inj hi; have := hg.size; omega)), grown_own hgb hgc (fun i hi => .inr (by have := Option.some.inj hi; omega)), by have := hg.size; omega, by omega⟩
theorem below_trans2 {w w1 w2 : World} (h : Below w.heap.size w w1) (k : Below w1.heap.size w1 w2) : Below w.heap.size w w2 :=
  below_of_grown (grown_below (grown_of_below h none) k h.size)
theorem below_step {w w1 w2 : World} (h : Below w.heap.size w w1) (k : w1.grownBy w2 none) : Below w.heap.size w w2 := below_trans2 h (below_of_grown k)
theorem src_below {w w' : World} {A : Option Addr} {x : List Int} (h : Src w A x) (hb : Below w.heap.size w w') : Src w' A x := h.grown (grown_of_below hb none) (by simp)
set_option maxHeartbeats 3200000 in
set_option maxRecDepth 100000 in
theorem parses_any (A : Option Addr) (c : Nat) (x : List Int) (w : World) (hA : A = none → x = [] ∧ c = 0) (hx : Src w A x) (hc : x.length ≤ c) (hT : Lib.Utf8Tabs 0 1 w) (hw : 1 < w.heap.size) :
    Calls Tryd.prog 3 #[.slice A x.length c] w fun e w' => e = .returned (.bool true) ∧ Below w.heap.size w w' := by
  have HX := Lib.hid hx
  have HA := Lib.hid hA
  have HT := Lib.hid hT
  have Hc := Lib.hid hc
  have Hw := Lib.hid hw
  clear hx hA hT hc hw
  by_cases hgt : (x.length : Int) > 131072
  · go_enter Tryd.func3, Tryd.ntmps3
    go_wp2_with (go_at_call 9; refine (works_any w HT.out Hw.out).mono ?_; rintro e w1 ⟨rfl, hb1⟩; have Hb1 := Lib.hid hb1; clear hb1)
    go_ret
    exact ⟨rfl, Hb1.out⟩
  · have hlen : x.length ≤ 131072 := by omega
    obtain ⟨V, at_, er, hT3⟩ : ∃ v a e, parse (strOfNums x) = (v, a, e) := ⟨_, _, _, rfl⟩
    have hV := parse_sz (strOfNums x)
    rw [hT3] at hV
    have HV := Lib.hid hV
    have HP := Lib.hid hT3
    clear hT3 hV
    go_enter Tryd.func3, Tryd.ntmps3
    go_wp2_with (go_at_call 10; refine (roomy_any A c x w HA.out HX.out (by omega)).mono ?_; rintro e w1 ⟨g, cap, rfl, hgb, hr1, hg1⟩
                 have H1 : Hid (PAt w w1 g cap A x) := Lib.hid ⟨below_of_grown hg1, hr1, Nat.lt_of_lt_of_le Hw.out hg1.size⟩
                 have Hgb := Lib.hid (And.intro hgb hr1.lt)
                 have Hcap : Hid (x.length ≤ cap) := Lib.hid (by obtain ⟨_, _, _, h, _⟩ := hr1; omega)
                 clear hgb hr1 hg1)
    refine (parse_any (some ⟨g, 0, none⟩) cap x w1 (by intro h; cases h) H1.out.room.src (by omega) (H1.out.tabs HT.out) H1.out.big).mono ?_
    rw [HP.out]
    rintro e w2 ⟨hg, cs1, F1, rfl, hj⟩
    obtain ⟨p10, p11, p12, p13, p14, rfl⟩ := five_of hj.five.1
    obtain ⟨B1, hB⟩ : ∃ x, w2.heap.size = x := ⟨_, rfl⟩
    have HB1 := Lib.hid hB
    have HJ := Lib.hid hj
    have HG := Lib.hid hg
    clear hg hj hB
    go_wp2_with (first
      | (have _ := w3; refine wpList_store_Row rfl 29 _ _ rfl B1 [p10, p11, p12, p13, p14] (by rw [← HB1.out]; rfl) rfl 29 zero5 (HR.out) size29 rfl HJ.out.cells ?_; intro w4 hrc hgc hsc; have HK := Lib.hid (read_kept HG.out HQ.out.1 hgc HB1.out HQ.out.2 hsc); have HR1 := Lib.hid hrc; clear HR hrc hgc hsc; simp only [Act.put, List.setIfInBounds_toArray, List.set_cons_zero, List.set_cons_succ])
      | (refine wpList_alloc_abs rfl 29 rfl zero5 _ (zero29 _) rfl ?_; intro w3 hrb hgb hsb; rw [HB1.out] at hrb; have HR := Lib.hid hrb; have HQ := Lib.hid (And.intro hgb hsb); clear hrb hgb hsb; rw [HB1.out]; simp only [Act.put, List.setIfInBounds_toArray, List.set_cons_zero, List.set_cons_succ]))
    have H2 := Lib.hid (H1.out.grown HK.out.1 (by simp))
    have HJ1 := Lib.hid (HJ.out.kept HK.out.2.1 (by simp))
    have HF1 : Hid ((w1.heap.size ≤ B1 ∧ w4.heap.size = B1 + 1) ∧ ∀ g ∈ F1, w1.heap.size ≤ g ∧ g < B1) := Lib.hid ⟨HK.out.2.2, fun g hg => by have := HJ.out.lt g hg; have := HB1.out; omega⟩
    clear HK HG HJ HQ
    refine (parse_any (some ⟨g, 0, none⟩) cap x w4 (by intro h; cases h) H2.out.room.src (by omega) (H2.out.tabs HT.out) H2.out.big).mono ?_
    rw [HP.out]
    rintro e w5 ⟨hg, cs2, F2, rfl, hj⟩
    obtain ⟨p20, p21, p22, p23, p24, rfl⟩ := five_of hj.five.1
    obtain ⟨B2, hB⟩ : ∃ x, w5.heap.size = x := ⟨_, rfl⟩
    have HB2 := Lib.hid hB
    have HJ := Lib.hid hj
    have HG := Lib.hid hg
    clear hg hj hB
    go_wp2_with (first
      | (have _ := w6; refine wpList_store_Row rfl 29 _ _ rfl B2 [p20, p21, p22, p23, p24] (by rw [← HB2.out]; rfl) rfl 29 zero5 (HR.out) size29 rfl HJ.out.cells ?_; intro w7 hrc hgc hsc; have HK := Lib.hid (read_kept HG.out HQ.out.1 hgc HB2.out HQ.out.2 hsc); have HR2 := Lib.hid hrc; clear HR hrc hgc hsc; simp only [Act.put, List.setIfInBounds_toArray, List.set_cons_zero, List.set_cons_succ])
      | (refine wpList_alloc_abs rfl 29 rfl zero5 _ (zero29 _) rfl ?_; intro w6 hrb hgb hsb; rw [HB2.out] at hrb; have HR := Lib.hid hrb; have HQ := Lib.hid (And.intro hgb hsb); clear hrb hgb hsb; rw [HB2.out]; simp only [Act.put, List.setIfInBounds_toArray, List.set_cons_zero, List.set_cons_succ]))
    have H3 := Lib.hid (H2.out.grown HK.out.1 (by simp))
    have HJ2 := Lib.hid (HJ.out.kept HK.out.2.1 (by simp))
    have HF2 : Hid ((w4.heap.size ≤ B2 ∧ w7.heap.size = B2 + 1) ∧ ∀ g ∈ F2, w4.heap.size ≤ g ∧ g < B2) := Lib.hid ⟨HK.out.2.2, fun g hg => by have := HJ.out.lt g hg; have := HB2.out; omega⟩
    have HJ1 := Lib.hid (HJ1.out.kept HK.out.1 (by simp))
    have HR1 := Lib.hid (HR1.out.grown HK.out.1 (by simp))
    clear HK HG HJ HQ
    refine (rparse_any A c x w7 HA.out (H3.out.src HX.out) (by omega)).mono ?_
    rw [HP.out]
    rintro e w8 ⟨hg, cs3, F3, rfl, hj⟩
    obtain ⟨p30, p31, p32, p33, p34, rfl⟩ := five_of hj.five.1
    obtain ⟨B3, hB⟩ : ∃ x, w8.heap.size = x := ⟨_, rfl⟩
    have HB3 := Lib.hid hB
    have HJ := Lib.hid hj
    have HG := Lib.hid hg
    clear hg hj hB
    go_upto_region 7 with (first
      | (have _ := w9; refine wpList_store_Row rfl 29 _ _ rfl B3 [p30, p31, p32, p33, p34] (by rw [← HB3.out]; rfl) rfl 29 zero5 (HR.out) size29 rfl HJ.out.cells ?_; intro w10 hrc hgc hsc; have HK := Lib.hid (read_kept HG.out HQ.out.1 hgc HB3.out HQ.out.2 hsc); have HR3 := Lib.hid hrc; clear HR hrc hgc hsc; simp only [Act.put, List.setIfInBounds_toArray, List.set_cons_zero, List.set_cons_succ])
      | (refine wpList_alloc_abs rfl 29 rfl zero5 _ (zero29 _) rfl ?_; intro w9 hrb hgb hsb; rw [HB3.out] at hrb; have HR := Lib.hid hrb; have HQ := Lib.hid (And.intro hgb hsb); clear hrb hgb hsb; rw [HB3.out]; simp only [Act.put, List.setIfInBounds_toArray, List.set_cons_zero, List.set_cons_succ]))
    have H4 := Lib.hid (H3.out.grown HK.out.1 (by simp))
    have HJ3 := Lib.hid (HJ.out.kept HK.out.2.1 (by simp))
    have HF3 : Hid ((w7.heap.size ≤ B3 ∧ w10.heap.size = B3 + 1) ∧ ∀ g ∈ F3, w7.heap.size ≤ g ∧ g < B3) := Lib.hid ⟨HK.out.2.2, fun g hg => by have := HJ.out.lt g hg; have := HB3.out; omega⟩
    have HJ1 := Lib.hid (HJ1.out.kept HK.out.1 (by simp))
    have HR1 := Lib.hid (HR1.out.grown HK.out.1 (by simp))
    have HJ2 := Lib.hid (HJ2.out.kept HK.out.1 (by simp))
    have HR2 := Lib.hid (HR2.out.grown HK.out.1 (by simp))
    clear HK HG HJ HQ
    have e1 : (er != er) = false := by simp
    have e2 : ((at_ : Int) != (at_ : Int)) = false := by simp
    have Hs13 : Hid (Calls Tryd.prog 13 #[.agg #[p10, p11, p12, p13, p14], .agg #[p30, p31, p32, p33, p34]] w10 fun e w' => e = .returned (.bool true) ∧ Below w10.heap.size w10 w') := Lib.hid (same_at V [p10, p11, p12, p13, p14] [p30, p31, p32, p33, p34] w10 HJ1.out.rd HJ3.out.rd HV.out)
    have a0 := HR1.out.at_ (j := 0) rfl
    have c0 := HR3.out.at_ (j := 0) rfl
    have a1 := HR1.out.at_ (j := 1) rfl
    have c1 := HR3.out.at_ (j := 1) rfl
    have a2 := HR1.out.at_ (j := 2) rfl
    have c2 := HR3.out.at_ (j := 2) rfl
    have a3 := HR1.out.at_ (j := 3) rfl
    have c3 := HR3.out.at_ (j := 3) rfl
    have a4 := HR1.out.at_ (j := 4) rfl
    have c4 := HR3.out.at_ (j := 4) rfl
    go_wp2_with (refine Hs13.out.mono ?_; rintro e w11 ⟨rfl, hb11⟩; have HB11 := Lib.hid hb11; clear hb11 a0 a1 a2 a3 a4 c0 c1 c2 c3 c4)
    have hg11 := grown_of_below HB11.out none
    have H11 := Lib.hid (H4.out.grown hg11 (by simp))
    have HJ1 := Lib.hid (HJ1.out.kept hg11 (by simp))
    have HJ2 := Lib.hid (HJ2.out.kept hg11 (by simp))
    have HJ3 := Lib.hid (HJ3.out.kept hg11 (by simp))
    have HR1 := Lib.hid (HR1.out.grown hg11 (by simp))
    have HR2 := Lib.hid (HR2.out.grown hg11 (by simp))
    have HR3 := Lib.hid (HR3.out.grown hg11 (by simp))
    clear hg11 e1 e2
    refine (kept_any g cap A c x w11 H11.out.room (fun h => (HA.out h).1) (H11.out.src HX.out) (by omega)).mono ?_
    rintro e w12 ⟨rfl, rfl⟩
    go_wp2_with (first
      | (go_at_call 15; refine (spoil_any V [p10, p11, p12, p13, p14] F1 w1.heap.size w11 HJ1.out (HV.out.imp (JSz.mono (by omega))) (Nat.le_trans (by have := HF1.out; have := HF2.out; have := HF3.out; omega) HB11.out.size)).mono ?_; rintro e w12 ⟨rfl, hO⟩; have HO := Lib.hid hO; clear hO)
      | (refine wpList_load_Row rfl 29 _ rfl B1 rfl [p10, p11, p12, p13, p14] 29 HR1.out _ Tryd.underlying29 rfl size29 ?_; simp only [Act.put, List.setIfInBounds_toArray, List.set_cons_zero, List.set_cons_succ]))
    have hF1 : ∀ b ∈ F1, w.heap.size ≤ b ∧ b ≠ g ∧ b < B1 := fun b hb => by have := HF1.out.2 b hb; have := Hgb.out; omega
    have H12 := Lib.hid (H11.out.only HO.out (fun b hb => ⟨(hF1 b hb).1, (hF1 b hb).2.1⟩))
    have HJ2 := Lib.hid (HJ2.out.only HO.out (fun b hb hm => by have := HF1.out.1; have := HF2.out.2 b hb; have := hF1 b hm; omega))
    have HJ3 := Lib.hid (HJ3.out.only HO.out (fun b hb hm => by have := HF1.out.1; have := HF2.out.1; have := HF3.out.2 b hb; have := hF1 b hm; omega))
    have HR2 := Lib.hid (HO.out.row HR2.out (fun hm => by have := HF1.out.1; have := HF2.out.1; have := hF1 _ hm; omega))
    have HR3 := Lib.hid (HO.out.row HR3.out (fun hm => by have := HF1.out.1; have := HF2.out.1; have := HF3.out.1; have := hF1 _ hm; omega))
    have HV0 : Hid (Over w12 w12 g x.length) := Lib.hid ⟨Only.refl _ _, by obtain ⟨cs, hr, h1, h2, h3, h4⟩ := H12.out.room; exact ⟨cs, hr, by omega⟩⟩
    clear hF1 HO
    go_loopw [13] (fun v wr => ∃ i : Nat, i ≤ x.length ∧ v = .int .i64 (i : Int) ∧ Hid (Over w12 wr g x.length)) (fun v _ => x.length - (intOf v).toNat)
    case atStart => exact ⟨0, by omega, rfl, HV0⟩
    case round =>
      clear HV0
      obtain ⟨i, hi, rfl, HO⟩ := hrel
      by_cases hlt : i < x.length
      · obtain ⟨⟨z, x0⟩, f0, hst⟩ := HO.out.step hlt
        have HS := Lib.hid (hst (.int .u8 120))
        have e1 : (i : Int) < (x.length : Int) := by omega
        clear hst
        go_wp2_with fail
        go_roundw
        case rel => exact ⟨i + 1, by omega, by go_num, HS⟩
        case measure => simp [intOf]; omega
      · have e1 : ¬ (i : Int) < (x.length : Int) := by omega
        have hnot : ∀ b, w1.heap.size ≤ b → b ∉ [g] := fun b hb hm => by have := Hgb.out; simp at hm; omega
        have HJ2 := Lib.hid (HJ2.out.only HO.out.only (fun b hb => hnot b (by have := HF1.out.1; have := HF2.out.2 b hb; omega)))
        have HJ3 := Lib.hid (HJ3.out.only HO.out.only (fun b hb => hnot b (by have := HF1.out.1; have := HF2.out.1; have := HF3.out.2 b hb; omega)))
        have HR2 := Lib.hid (HO.out.only.row HR2.out (hnot _ (by have := HF1.out.1; have := HF2.out.1; omega)))
        have HR3 := Lib.hid (HO.out.only.row HR3.out (hnot _ (by have := HF1.out.1; have := HF2.out.1; have := HF3.out.1; omega)))
        have HB : Hid (Below w.heap.size w wr ∧ 1 < wr.heap.size) := Lib.hid ⟨only_below H12.out.below HO.out.only (fun b hb => by simp at hb; have := Hgb.out; omega), Nat.lt_of_lt_of_le H12.out.big HO.out.only.size⟩
        clear hlt hnot
        go_wp2_with (first
          | (go_at_call 9; refine (works_any _ (tabs_below HT.out (below_trans2 HB.out.1 HB20.out)) (Nat.lt_of_lt_of_le HB.out.2 HB20.out.size)).mono ?_; rintro e w21 ⟨rfl, hb21⟩; have HB21 := Lib.hid hb21; clear hb21)
          | (go_at_call 13; refine (same_at V [p20, p21, p22, p23, p24] [p30, p31, p32, p33, p34] wr HJ2.out.rd HJ3.out.rd HV.out).mono ?_; rintro e w20 ⟨rfl, hb20⟩; have HB20 := Lib.hid hb20; clear hb20)
          | (refine wpList_load_Row rfl 29 _ rfl B3 rfl [p30, p31, p32, p33, p34] 29 HR3.out _ Tryd.underlying29 rfl size29 ?_; simp only [Act.put, List.setIfInBounds_toArray, List.set_cons_zero, List.set_cons_succ])
          | (refine wpList_load_Row rfl 29 _ rfl B2 rfl [p20, p21, p22, p23, p24] 29 HR2.out _ Tryd.underlying29 rfl size29 ?_; simp only [Act.put, List.setIfInBounds_toArray, List.set_cons_zero, List.set_cons_succ]))
        go_ret
        exact ⟨rfl, below_trans2 (below_trans2 HB.out.1 HB20.out) HB21.out⟩
end
end Go.Proofs.YtlbilofnbhhmjaaDoor
