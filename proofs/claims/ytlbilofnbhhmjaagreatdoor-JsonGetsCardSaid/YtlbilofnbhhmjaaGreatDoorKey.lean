/- json's reader: key. The set of the keys that were seen. -/
import Derived.Test.YtlbilofnbhhmjaaGreatDoorText
import Derived.Maps.OwnSet
import Derived.StringKeys
namespace Go.Proofs.YtlbilofnbhhmjaaGreatDoor
open Go.RowKit Go.Maps Go.ChangeMaps Go.WideShapes
set_option linter.unusedVariables false
set_option linter.unusedSimpArgs false
/-- Block m is the set of just these keys, each of which was new. -/
def Seen (w : World) (m : Nat) (ks : List ByteArray) : Prop :=
  ∃ D : DataW Unit, w.ownsMap Tryz.prog 9 unitElem m ks.length D ∧ Maps.size D = ks.length ∧ ∀ s : ByteArray, Maps.has D (.string s.data.toList) = ks.any fun k => decide (k = s)
theorem Seen.kept {w w' : World} {m : Nat} {ks : List ByteArray} {row : Option Nat} (h : Seen w m ks) (hg : w.grownBy w' row) (hne : some m ≠ row) : Seen w' m ks := by
  obtain ⟨D, h1, h2, h3⟩ := h
  exact ⟨D, h1.kept hg hne, h2, h3⟩
theorem seen_new (w : World) : Seen (w.alloc (.map #[] 0)) w.heap.size [] := ⟨.map [], World.ownsMap_made _ _ _ _, rfl, fun s => rfl⟩
theorem law9 : Keyed Tryz.prog 9 := string_keyed Tryz.underlying9
theorem zero79 (w : World) : (zeroValue 82).run Tryz.prog w = .ok (.agg #[]) w := by kernel_rfl
theorem Seen.add {w' : World} {m : Nat} {ks : List ByteArray} {D : DataW Unit} {k : ByteArray} (ht : Tidy D) (h2 : Maps.size D = ks.length) (h3 : ∀ s : ByteArray, Maps.has D (.string s.data.toList) = ks.any fun k => decide (k = s))
    (hk : ks.any (fun q => decide (q = k)) = false) (h : w'.ownsMap Tryz.prog 9 unitElem m (ks.length + 1) (D.put (.string k.data.toList) (.agg []))) : Seen w' m (ks ++ [k]) := by
  have hkl : WideAt.IsKeyLit (.string k.data.toList) := by simp [WideAt.IsKeyLit]
  refine ⟨_, by simpa using h, ?_, fun s => ?_⟩
  · rw [size_put ht, h3, hk]; simp [h2]
  · by_cases hs : k = s
    · subst hs
      rw [has_put_same ht.isMap hkl]; simp
    · have hne : Lit.string s.data.toList ≠ Lit.string k.data.toList := fun e => hs (by
        injection e with e
        have : s.data = k.data := Array.toList_inj.1 e
        cases s; cases k; simp at this; rw [this])
      rw [has_put_other hne, h3]
      simp [hs]
/-- Two rows that turn one behind the other may turn the other way round. -/
theorem grown_swap {w w1 w2 : World} {b m : Nat} (hne : m ≠ b) (hm : m < w.heap.size) (h : w.grownBy w1 (some m)) (k : w1.grownBy w2 (some b)) : ∃ wx, w.grownBy wx (some b) ∧ wx.grownBy w2 (some m) := by
  have hm2 : m < w2.heap.size := by have := h.size; have := k.size; omega
  refine ⟨{ w2 with heap := w2.heap.set m (w.heap[m]) hm2 }, ⟨by have := h.os; have := k.os; simp_all, by have := h.tape; have := k.tape; simp_all, by have := h.output; have := k.output; simp_all, by simp; have := h.size; have := k.size; omega, fun i hi hib => ?_⟩, ⟨rfl, rfl, rfl, by simp, fun i hi him => ?_⟩⟩
  · by_cases him : i = m
    · subst him; simp [hm]
    · simp only [Array.getElem?_set, if_neg (Ne.symm him)]
      rw [k.block i (by have := h.size; omega) hib, h.block i hi (by simp; exact him)]
  · simp only [Array.getElem?_set]
    rw [if_neg (by intro e; subst e; exact him rfl)]
theorem textN_ok {s : ByteArray} : ∀ {f k j : Nat} {acc l : List Int}, k ≤ s.size → textN s f k acc = .ok l j → k < j ∧ j ≤ s.size ∧ l.length + 4 * k ≤ acc.length + 4 * j
  | 0, k, j, acc, l, _, h => by simp [textN] at h
  | f + 1, k, j, acc, l, hk, h => by
    have hI := textIs s f k acc
    rw [h] at hI
    by_cases h0 : s.size ≤ k ∨ ch s k < 32
    · have := hI.end_ h0; cases this
    · have hlt : k < s.size := by omega
      by_cases h1 : ch s k = 34
      · have := hI.quote hlt h1; cases this; exact ⟨by omega, by omega, by omega⟩
      · by_cases h2 : ch s k = 92
        · cases he : escape s k with
          | no a e => have := hI.escNo hlt h2 _ _ he; cases this
          | ok v a =>
            obtain ⟨g1, g2, g3, g4, _⟩ := escape_ok hlt he
            obtain ⟨q1, q2, q3⟩ := textN_ok g2 (hI.esc hlt h2 _ _ he).symm
            have := (Lib.encodeRuneZ_length v).2
            rw [List.length_append] at q3
            exact ⟨by omega, q2, by omega⟩
        · by_cases h3 : wholeAt s k = 0
          · have := hI.bad hlt (by omega) h1 h2 h3; cases this
          · obtain ⟨_, _, hp, h4, hfit, _⟩ := runeAt_some hlt h3
            obtain ⟨q1, q2, q3⟩ := textN_ok hfit (hI.sign hlt (by omega) h1 h2 h3).symm
            rw [List.length_append, bytesAt_length] at q3
            exact ⟨by omega, q2, by omega⟩
theorem text_ok {s : ByteArray} {i j : Nat} {l : List Int} (hi : i < s.size) (h : text s i = .ok l j) : i + 1 < j ∧ j ≤ s.size ∧ l.length ≤ 4 * j := by
  obtain ⟨a, b, c⟩ := textN_ok (by omega) h
  exact ⟨a, b, by simp at c; omega⟩
theorem str_size (l : List Int) : (str l).size = l.length := by show (strOfNums l).data.size = _; simp [strOfNums]
/-- What key reads behind its quote, way by way. -/
structure KeyIs (s : ByteArray) (ks : List ByteArray) (i : Nat) (RES : R ByteArray) : Prop where
  no_ : ∀ j e, text s i = .no j e → RES = .no j e
  twice : ∀ l j, text s i = .ok l j → ks.any (fun k => decide (k = str l)) = true → RES = .no i 132
  colon : ∀ l j, text s i = .ok l j → ks.any (fun k => decide (k = str l)) = false → ch s (skip s j) ≠ 58 → RES = .no (skip s j) 130
  done : ∀ l j, text s i = .ok l j → ks.any (fun k => decide (k = str l)) = false → ch s (skip s j) = 58 → RES = .ok (str l) (skip s (skip s j + 1))
theorem keyIs {s : ByteArray} {ks : List ByteArray} {i : Nat} (h1 : ch s i = 34) (h2 : ks.length ≠ 256) : KeyIs s ks i (jkey s ks i) := by
  refine ⟨fun j e h => ?_, fun l j h h3 => ?_, fun l j h h3 h4 => ?_, fun l j h h3 h4 => ?_⟩
  all_goals
    unfold jkey
    rw [if_neg (by rw [h1]; simp), if_neg h2, h]
    try simp only
  · rw [if_pos h3]
  · rw [if_neg (by rw [h3]; simp), if_pos h4]
  · rw [if_neg (by rw [h3]; simp), if_neg (by rw [h4]; simp)]
/-- What key leaves. -/
def KeyPost (r : R ByteArray) (b m : Nat) (s : ByteArray) (ks : List ByteArray) (w : World) (e : Ending) (w' : World) : Prop :=
  (∃ w1, w.grownBy w1 (some b) ∧ w1.grownBy w' (some m)) ∧ match r with
    | .ok k j => e = .returned (.string k) ∧ Rd w' b s j ∧ Seen w' m (ks ++ [k])
    | .no j er => e = .panicked (oops j er)
theorem KeyPost.of {r : R ByteArray} {b m : Nat} {s : ByteArray} {ks : List ByteArray} {w w' : World} {j : Nat} {er : Int} (hr : r = .no j er) (h : w.grownBy w' (some b)) : KeyPost r b m s ks w (.panicked (oops j er)) w' := by
  subst hr; exact ⟨⟨w', h, grown_refl _ _⟩, rfl⟩
set_option maxHeartbeats 6400000 in
set_option maxRecDepth 100000 in
theorem key_any (b m i : Nat) (s : ByteArray) (ks : List ByteArray) (w : World) (hr : Rd w b s i) (hS : Seen w m ks) (hs : s.size ≤ 1073741824) (hi : i ≤ s.size) (hT : Lib.Utf8Tabs 1 2 w) (hb : 2 < b) (hne : m ≠ b) (hml : m < w.heap.size) (hkl : ks.length ≤ 256) :
    Calls Tryz.prog 67 #[.pointer (some ⟨b, 0, none⟩), .map (some m)] w (KeyPost (jkey s ks i) b m s ks w) := by
  obtain ⟨RES, hR⟩ : ∃ r, jkey s ks i = r := ⟨_, rfl⟩
  rw [hR]
  have HR := Lib.hid hR
  have Hr := Lib.hid hr
  have HT := Lib.hid hT
  obtain ⟨D, hD, hsz, hhas⟩ := hS
  have HD := Lib.hid hD
  have Hsz := Lib.hid hsz
  have Hhas := Lib.hid hhas
  have HM := Lib.hid hml
  have c1 := hr.i
  clear hR hr hT hD hsz hhas hml
  by_cases h34 : ch s i = 34
  · have hlt := ch_pos (s := s) (i := i) (by omega)
    have H34 := Lib.hid h34
    clear h34
    by_cases h256 : ks.length = 256
    · have HE : Hid (RES = R.no i 3) := Lib.hid (by rw [← HR.out]; unfold jkey; rw [if_neg (by rw [H34.out]; simp), if_pos h256])
      have H256 := Lib.hid h256
      clear h256
      go_enter Tryz.func67, Tryz.ntmps67
      go_wp2_with (first
        | (have _ := w1; at_len; refine wpList_len_own _ rfl _ 81 rfl 9 82 Tryz.underlying81 unitElem m ks.length D rfl (HD.out.kept Hg1.out (by simp)) ?_; rw [Hsz.out, H256.out])
        | (have _ := w1; go_at_call 29; refine (fail_any _ 3 _).mono ?_; rintro e w2 ⟨rfl, rfl⟩)
        | (go_at_call 41; refine (next_any b i s _ Hr.out (by omega) (by omega)).mono ?_; rintro e w1 ⟨rfl, hg1⟩; rw [H34.out]; have Hg1 := Lib.hid hg1; clear hg1))
      exact ⟨rfl, KeyPost.of HE.out (grown_none Hg1.out _)⟩
    · have b256 : ((ks.length : Int) == 256) = false := by simp; omega
      have HI : Hid (KeyIs s ks i RES) := Lib.hid (by rw [← HR.out]; exact keyIs H34.out h256)
      have HNE : Hid (some m ≠ some b) := Lib.hid (by simpa using hne)
      clear h256 HR
      cases hx : text s i with
      | no j e =>
        have HX := Lib.hid hx
        clear hx
        go_enter Tryz.func67, Tryz.ntmps67
        go_wp2_with (first
          | (have _ := w1; go_at_call 44; refine (text_any b i s w1 (Hr.out.grown Hg1.out (by simp)) hs hlt (tabs_grown HT.out Hg1.out (by simp) (by simp)) hb).mono ?_; intro e w2 hd; obtain ⟨rfl, hg⟩ := hd.no HX.out; have Hg2 := Lib.hid hg; clear hg hd)
          | (have _ := w1; at_len; refine wpList_len_own _ rfl _ 81 rfl 9 82 Tryz.underlying81 unitElem m ks.length D rfl (HD.out.kept Hg1.out (by simp)) ?_; rw [Hsz.out])
          | (go_at_call 41; refine (next_any b i s _ Hr.out (by omega) (by omega)).mono ?_; rintro e w1 ⟨rfl, hg1⟩; rw [H34.out]; have Hg1 := Lib.hid hg1; clear hg1))
        exact ⟨rfl, KeyPost.of (HI.out.no_ _ _ HX.out) (grown_trans (grown_none Hg1.out (some b)) Hg2.out)⟩
      | ok l j =>
        obtain ⟨hj1, hj2, hj3⟩ := text_ok hlt hx
        have HX := Lib.hid hx
        obtain ⟨k, hk⟩ : ∃ k, str l = k := ⟨_, rfl⟩
        have hks : k.size ≤ maxLen := by rw [← hk, str_size]; unfold maxLen; omega
        have Hkey : Hid (keyOf Tryz.prog 9 (.string k) = some (.string k.data.toList)) := Lib.hid (WideMaps.keyOf_string_mk Tryz.underlying9 hks)
        have HK := Lib.hid hk
        clear hx hk hks
        cases hdup : ks.any (fun q => decide (q = k)) with
        | true =>
          have HDup := Lib.hid hdup
          clear hdup
          go_enter Tryz.func67, Tryz.ntmps67
          go_wp2_with (first
            | (have _ := w2; go_at_call 29; refine (fail_any _ 132 _).mono ?_; rintro e w3 ⟨rfl, rfl⟩)
            | (have _ := w2; at_lookup; refine wpList_lookup_own_unit _ rfl _ _ 81 rfl 9 82 law9 Tryz.underlying81 (zero79 _) m ks.length D rfl (HD.out.kept Hg2.out HNE.out) _ _ rfl Hkey.out ?_; rw [Hhas.out, HDup.out])
            | (have _ := w1; go_at_call 44; refine (text_any b i s w1 (Hr.out.grown Hg1.out (by simp)) hs hlt (tabs_grown HT.out Hg1.out (by simp) (by simp)) hb).mono ?_; intro e w2 hd; obtain ⟨rfl, hrd, hg⟩ := hd.ok HX.out; have Hg2 := Lib.hid (grown_trans (grown_none Hg1.out (some b)) hg); have Hrd2 := Lib.hid hrd; clear hg hd hrd; rw [HK.out])
            | (have _ := w1; at_len; refine wpList_len_own _ rfl _ 81 rfl 9 82 Tryz.underlying81 unitElem m ks.length D rfl (HD.out.kept Hg1.out (by simp)) ?_; rw [Hsz.out])
            | (go_at_call 41; refine (next_any b i s _ Hr.out (by omega) (by omega)).mono ?_; rintro e w1 ⟨rfl, hg1⟩; rw [H34.out]; have Hg1 := Lib.hid hg1; clear hg1))
          exact ⟨rfl, KeyPost.of (HI.out.twice _ _ HX.out (by rw [HK.out]; exact HDup.out)) (grown_alloc Hg2.out _)⟩
        | false =>
          have HDup := Lib.hid hdup
          clear hdup
          have hup : Hid (∀ {w' : World}, w'.ownsMap Tryz.prog 9 unitElem m (ks.length + 1) (D.put (.string k.data.toList) (.agg [])) → Seen w' m (ks ++ [k])) := Lib.hid (fun h => Seen.add (HD.out.tidy law9) Hsz.out Hhas.out HDup.out h)
          by_cases h58 : ch s (skip s j) = 58
          · have H58 := Lib.hid h58
            have hlt2 := ch_pos (s := s) (i := skip s j) (by omega)
            clear h58
            go_enter Tryz.func67, Tryz.ntmps67
            go_wp2_with (first
              | (have _ := w4; go_at_call 27; refine (skip_any b (skip s j + 1) s _ (Hrd4.out.set (skip s j + 1)) (by omega) (by omega)).mono ?_; rintro e w5 ⟨rfl, hrd5, hg5⟩; have Hrd5 := Lib.hid hrd5; have Hg5 := Lib.hid hg5; clear hrd5 hg5)
              | (have _ := w3; go_at_call 27; refine (skip_any b j s w3 Hrd3.out (by omega) hj2).mono ?_; rintro e w4 ⟨rfl, hrd4, hg4⟩; have Hrd4 := Lib.hid hrd4; have Hg4 := Lib.hid hg4; have c4 := hrd4.i; have d4 := hrd4.free 1; rw [H58.out]; clear hrd4 hg4)
              | (have _ := w2; at_mapUpdate; refine wpList_mapUpdate_own _ rfl _ _ _ 81 rfl 9 82 law9 Tryz.underlying81 (unitElem (H := Unit)) m ks.length D rfl ((HD.out.kept Hg2.out HNE.out).alloc _) (by unfold maxLen; omega) _ _ _ rfl rfl Hkey.out _ [] unitElem_mk ?_; intro w3 hown3 hg3; have Hs3 := Lib.hid (hup.out hown3); have Hrd3 := Lib.hid ((Row.alloc Hrd2.out (.cells #[] 82)).grown hg3 (fun e => HNE.out e.symm)); have Hg3 := Lib.hid hg3; clear hown3 hg3)
              | (have _ := w2; at_lookup; refine wpList_lookup_own_unit _ rfl _ _ 81 rfl 9 82 law9 Tryz.underlying81 (zero79 _) m ks.length D rfl (HD.out.kept Hg2.out HNE.out) _ _ rfl Hkey.out ?_; rw [Hhas.out, HDup.out])
              | (have _ := w1; go_at_call 44; refine (text_any b i s w1 (Hr.out.grown Hg1.out (by simp)) hs hlt (tabs_grown HT.out Hg1.out (by simp) (by simp)) hb).mono ?_; intro e w2 hd; obtain ⟨rfl, hrd, hg⟩ := hd.ok HX.out; have Hg2 := Lib.hid (grown_trans (grown_none Hg1.out (some b)) hg); have Hrd2 := Lib.hid hrd; clear hg hd hrd; rw [HK.out])
              | (have _ := w1; at_len; refine wpList_len_own _ rfl _ 81 rfl 9 82 Tryz.underlying81 unitElem m ks.length D rfl (HD.out.kept Hg1.out (by simp)) ?_; rw [Hsz.out])
              | (go_at_call 41; refine (next_any b i s _ Hr.out (by omega) (by omega)).mono ?_; rintro e w1 ⟨rfl, hg1⟩; rw [H34.out]; have Hg1 := Lib.hid hg1; clear hg1))
            go_ret
            rw [HI.out.done _ _ HX.out (by rw [HK.out]; exact HDup.out) H58.out]
            have hg6 : w3.grownBy w5 (some b) := grown_trans (grown_set Hg4.out (.inl rfl) 1 (.int .i64 ((skip s j + 1 : Nat) : Int))) Hg5.out
            obtain ⟨wx, hx1, hx2⟩ := grown_swap (w := w2) (w1 := w3) (w2 := w5) (b := b) (m := m) hne (by have := HM.out; have := Hg2.out.size; omega) (grown_trans (World.grownBy_alloc w2 _ (some m)) Hg3.out) hg6
            exact ⟨⟨wx, grown_trans Hg2.out hx1, hx2⟩, (by rw [HK.out]; rfl), Hrd5.out, by rw [HK.out]; exact Hs3.out.kept hg6 HNE.out⟩
          · have b58 : (ch s (skip s j) != 58) = true := by simpa using h58
            have H58 := Lib.hid h58
            clear h58
            go_enter Tryz.func67, Tryz.ntmps67
            go_wp2_with (first
              | (have _ := w4; go_at_call 29; refine (fail_any _ 130 _).mono ?_; rintro e w5 ⟨rfl, rfl⟩)
              | (have _ := w3; go_at_call 27; refine (skip_any b j s w3 Hrd3.out (by omega) hj2).mono ?_; rintro e w4 ⟨rfl, hrd4, hg4⟩; have Hrd4 := Lib.hid hrd4; have Hg4 := Lib.hid hg4; have c4 := hrd4.i; clear hrd4 hg4)
              | (have _ := w2; at_mapUpdate; refine wpList_mapUpdate_own _ rfl _ _ _ 81 rfl 9 82 law9 Tryz.underlying81 (unitElem (H := Unit)) m ks.length D rfl ((HD.out.kept Hg2.out HNE.out).alloc _) (by unfold maxLen; omega) _ _ _ rfl rfl Hkey.out _ [] unitElem_mk ?_; intro w3 hown3 hg3; have Hs3 := Lib.hid (hup.out hown3); have Hrd3 := Lib.hid ((Row.alloc Hrd2.out (.cells #[] 82)).grown hg3 (fun e => HNE.out e.symm)); have Hg3 := Lib.hid hg3; clear hown3 hg3)
              | (have _ := w2; at_lookup; refine wpList_lookup_own_unit _ rfl _ _ 81 rfl 9 82 law9 Tryz.underlying81 (zero79 _) m ks.length D rfl (HD.out.kept Hg2.out HNE.out) _ _ rfl Hkey.out ?_; rw [Hhas.out, HDup.out])
              | (have _ := w1; go_at_call 44; refine (text_any b i s w1 (Hr.out.grown Hg1.out (by simp)) hs hlt (tabs_grown HT.out Hg1.out (by simp) (by simp)) hb).mono ?_; intro e w2 hd; obtain ⟨rfl, hrd, hg⟩ := hd.ok HX.out; have Hg2 := Lib.hid (grown_trans (grown_none Hg1.out (some b)) hg); have Hrd2 := Lib.hid hrd; clear hg hd hrd; rw [HK.out])
              | (have _ := w1; at_len; refine wpList_len_own _ rfl _ 81 rfl 9 82 Tryz.underlying81 unitElem m ks.length D rfl (HD.out.kept Hg1.out (by simp)) ?_; rw [Hsz.out])
              | (go_at_call 41; refine (next_any b i s _ Hr.out (by omega) (by omega)).mono ?_; rintro e w1 ⟨rfl, hg1⟩; rw [H34.out]; have Hg1 := Lib.hid hg1; clear hg1))
            refine ⟨rfl, ?_⟩
            rw [HI.out.colon _ _ HX.out (by rw [HK.out]; exact HDup.out) H58.out]
            obtain ⟨wx, hx1, hx2⟩ := grown_swap (w := w2) (w1 := w3) (w2 := w4) (b := b) (m := m) hne (by have := HM.out; have := Hg2.out.size; omega) (grown_trans (World.grownBy_alloc w2 _ (some m)) Hg3.out) Hg4.out
            exact ⟨⟨wx, grown_trans Hg2.out hx1, hx2⟩, rfl⟩
  · have HE : Hid (RES = R.no i 130) := Lib.hid (by rw [← HR.out]; unfold jkey; rw [if_pos h34])
    have b34 : (ch s i != 34) = true := by simpa using h34
    clear h34
    go_enter Tryz.func67, Tryz.ntmps67
    go_wp2_with (first
      | (have _ := w1; go_at_call 29; refine (fail_any _ 130 _).mono ?_; rintro e w2 ⟨rfl, rfl⟩)
      | (go_at_call 41; refine (next_any b i s _ Hr.out (by omega) (by omega)).mono ?_; rintro e w1 ⟨rfl, hg1⟩; have Hg1 := Lib.hid hg1; clear hg1))
    exact ⟨rfl, KeyPost.of HE.out (grown_none Hg1.out _)⟩
end Go.Proofs.YtlbilofnbhhmjaaGreatDoor
