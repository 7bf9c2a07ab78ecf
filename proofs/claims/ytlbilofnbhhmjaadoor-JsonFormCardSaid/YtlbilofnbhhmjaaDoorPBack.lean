/- What is parsed is right, and written no longer; what check lets through and what it counts; a value's text does not turn with its members' order. No program in it. -/
import Derived.Test.YtlbilofnbhhmjaaDoorPSort
namespace Go.Proofs.YtlbilofnbhhmjaaDoor
open Go.Lib
set_option linter.unusedVariables false
set_option linter.unusedSimpArgs false
/-! ### Check -/
/-- What check lets through at a depth is so deep. -/
theorem check_right16 : ∀ (g : Nat) (j : J) (d n : Int), d + g = 17 → (checkJ (g + 1) j d n).1 = 0 → Right g j
  | 0, j, d, n, hd, h => by
    exfalso
    unfold checkJ at h
    split at h
    · rename_i h1; exact h1 h
    · rename_i h1
      have h0 : checkV j d (n + 1) = 0 := by simpa using h1
      unfold checkV at h0
      by_cases a1 : 8192 < n + 1
      · simp [a1] at h0
      · rw [if_neg a1, if_pos (by omega)] at h0; cases h0
  | g + 1, j, d, n, hd, h => by
    unfold checkJ at h
    split at h
    · rename_i h1; exact absurd h h1
    · rename_i h1
      have h0 : checkV j d (n + 1) = 0 := by simpa using h1
      obtain ⟨a, b⟩ := checkItems_right (f := g) (fun v m hv => check_right16 g v (d + 1) m (by omega) hv) h
      unfold checkV at h0
      have a1 : ¬ 8192 < n + 1 := fun a1 => by simp [a1] at h0
      have b1 : ¬ 16 < d := fun b1 => by simp [a1, b1] at h0
      have c1 : shapeV j.kd j.bl j.tx j.ks.length j.ls.length = true := by
        cases hc : shapeV j.kd j.bl j.tx j.ks.length j.ls.length with
        | false => simp [a1, b1, hc] at h0
        | true => rfl
      have e1 : ¬ 256 < j.ls.length := fun e => by simp [a1, b1, c1, e] at h0
      have f1 : ¬ (j.kd = 2 ∧ numB j.tx = false) := fun e => by simp only [a1, b1, c1, e1, if_false, Bool.true_eq_false] at h0; rw [if_pos e] at h0; cases h0
      have g1 : ¬ (j.kd = 3 ∧ validB j.tx = false) := fun e => by simp only [a1, b1, c1, e1, if_false, Bool.true_eq_false] at h0; rw [if_neg f1, if_pos e] at h0; cases h0
      unfold Right
      refine ⟨c1, by omega, fun k2 => ?_, fun k3 => ?_, fun k5 => ?_, a⟩
      · cases hn : numB j.tx with
        | true => rfl
        | false => exact absurd ⟨k2, hn⟩ f1
      · cases hn : validB j.tx with
        | true => rfl
        | false => exact absurd ⟨k3, hn⟩ g1
      · have hl := ((kindIs c1).k5 k5).2
        rw [show decide (j.kd = 5) = true by simpa using k5] at b
        have hk : ∀ i (h : i < j.ks.length), validB j.ks[i] = true ∧ j.ks[i] ∉ j.ks.take i := fun i hi => checkK_zero (b i (Nat.zero_le _) (by omega)) hi
        refine ⟨fun k hm => ?_, nodup_of_take fun i hi => (hk i hi).2⟩
        obtain ⟨i, hi, rfl⟩ := List.getElem_of_mem hm
        exact (hk i hi).1
/-- How many values there are in a value, so deep. -/
def cntJ : Nat → J → Nat
  | 0, _ => 0
  | f + 1, j => 1 + (j.ls.map (cntJ f)).sum
theorem checkItems_ok {rec : J → Int → Int × Int} {obj : Bool} {ks : List ByteArray} {cnt : J → Nat} : ∀ (ls : List J) (i : Nat) (n : Int), (∀ v ∈ ls, ∀ n : Int, n + cnt v ≤ 8192 → rec v n = (0, n + cnt v)) → (∀ k, i ≤ k → k < i + ls.length → checkK obj ks k = 0) → n + ((ls.map cnt).sum : Nat) ≤ 8192 →
    checkItems rec obj ks i ls n = (0, n + ((ls.map cnt).sum : Nat))
  | [], i, n, _, _, _ => by unfold checkItems; simp
  | v :: ls, i, n, h, hk, hn => by
    rw [List.map_cons, List.sum_cons] at hn ⊢
    have h1 := h v (by simp) n (by omega)
    unfold checkItems
    rw [if_neg (by rw [hk i (Nat.le_refl _) (by simp)]; simp), h1, if_neg (by simp)]
    rw [checkItems_ok ls (i + 1) _ (fun x hx => h x (by simp [hx])) (fun k h1 h2 => hk k (by omega) (by simp; omega)) (by omega)]
    congr 1
    omega
theorem take_not_mem {α : Type} {l : List α} (h : l.Nodup) {i : Nat} (hi : i < l.length) : l[i] ∉ l.take i := by
  intro hm
  obtain ⟨k, hk, e⟩ := List.mem_take_iff_getElem.1 hm
  rw [List.nodup_iff_pairwise_ne, List.pairwise_iff_getElem] at h
  exact h k i (by omega) hi (by omega) e
theorem checkK_ok {obj : Bool} {ks : List ByteArray} {k : Nat} (h : obj = true → (∀ q ∈ ks, validB q = true) ∧ ks.Nodup ∧ k < ks.length) : checkK obj ks k = 0 := by
  unfold checkK
  cases obj with
  | false => simp
  | true =>
    obtain ⟨h1, h2, h3⟩ := h rfl
    rw [getD_at h3, if_neg (by rw [h1 _ (List.getElem_mem _)]; simp), if_neg]
    rintro ⟨_, hm⟩
    rw [List.any_eq_true] at hm
    obtain ⟨q, hq, e⟩ := hm
    have : q = ks[k] := by simpa using e
    subst this
    exact take_not_mem h2 h3 hq
/-- What is right, and not too much, check lets through. -/
theorem check_of_right : ∀ (f g : Nat) (j : J) (d n : Int), Right f j → f ≤ g → d + f ≤ 17 → n + (cntJ f j : Nat) ≤ 8192 → checkJ g j d n = (0, n + (cntJ f j : Nat))
  | 0, g, j, d, n, h, _, _, _ => h.elim
  | f + 1, 0, j, d, n, h, hg, _, _ => by omega
  | f + 1, g + 1, j, d, n, h, hg, hd, hn => by
    have hK := right_kind h
    unfold Right at h
    obtain ⟨h1, h2, h3, h4, h5, h6⟩ := h
    unfold cntJ at hn ⊢
    have hV : checkV j d (n + 1) = 0 := by
      unfold checkV
      rw [if_neg (by omega), if_neg (by omega), if_neg (by rw [h1]; simp), if_neg (by omega), if_neg (fun e => by rw [h3 e.1] at e; cases e.2), if_neg (fun e => by rw [h4 e.1] at e; cases e.2)]
    unfold checkJ
    rw [if_neg (by rw [hV]; simp), checkItems_ok (cnt := cntJ f) j.ls 0 (n + 1) (fun v hv m hm => check_of_right f g v (d + 1) m (h6 v hv) (by omega) (by omega) hm) (fun k _ hk => checkK_ok (fun ho => by
      have e5 : j.kd = 5 := by simpa using ho
      obtain ⟨a, b⟩ := h5 e5
      exact ⟨a, b, by have := (hK.k5 e5).2; omega⟩)) (by omega)]
    congr 1
    omega
/-! ### Depth does not matter once it is enough -/
theorem map_congr_mem {α β : Type} {l : List α} {f g : α → β} (h : ∀ x ∈ l, f x = g x) : l.map f = l.map g := List.map_congr_left h
theorem wr_obj {f : Nat} {j : J} (h : j.kd = 5) : writeJ (f + 1) j = 123 :: (joinFrom 0 ((ordOf j.ks).map (membS (writeJ f) j.ks j.ls)) ++ [125]) := by
  rw [writeJ, if_neg (by omega), if_neg (by omega), if_neg (by omega), if_neg (by omega), if_neg (by omega)]
theorem wr_list {f : Nat} {j : J} (h : j.kd = 4) : writeJ (f + 1) j = 91 :: (joinFrom 0 (j.ls.map (writeJ f)) ++ [93]) := by
  rw [writeJ, if_neg (by omega), if_neg (by omega), if_neg (by omega), if_neg (by omega), if_pos h]
theorem wr_flat {f g : Nat} {j k : J} (h : KindIs j) (h4 : j.kd ≠ 4) (h5 : j.kd ≠ 5) (e1 : k.kd = j.kd) (e2 : k.bl = j.bl) (e3 : k.tx = j.tx) : writeJ (f + 1) k = writeJ (g + 1) j := by
  rw [writeJ, writeJ, e1, e2, e3]
  by_cases c0 : j.kd = 0
  · rw [if_pos c0, if_pos c0]
  rw [if_neg c0, if_neg c0]
  by_cases c1 : j.kd = 1
  · rw [if_pos c1, if_pos c1]
  rw [if_neg c1, if_neg c1]
  by_cases c2 : j.kd = 2
  · rw [if_pos c2, if_pos c2]
  rw [if_neg c2, if_neg c2]
  by_cases c3 : j.kd = 3
  · rw [if_pos c3, if_pos c3]
  · exfalso
    rcases h.all with e | e | e | e | e | e
    · exact c0 e
    · exact c1 e
    · exact c2 e
    · exact c3 e
    · exact h4 e
    · exact h5 e
theorem write_mono : ∀ (f g : Nat) (j : J), Right f j → f ≤ g → writeJ g j = writeJ f j
  | 0, g, j, h, _ => h.elim
  | f + 1, 0, j, h, hg => by omega
  | f + 1, g + 1, j, h, hg => by
    have hK := right_kind h
    unfold Right at h
    obtain ⟨h1, h2, h3, h4, h5, h6⟩ := h
    have e1 : j.ls.map (writeJ g) = j.ls.map (writeJ f) := map_congr_mem fun x hx => write_mono f g x (h6 x hx) (by omega)
    by_cases h50 : j.kd = 5
    · have e2 : (ordOf j.ks).map (membS (writeJ g) j.ks j.ls) = (ordOf j.ks).map (membS (writeJ f) j.ks j.ls) := map_congr_mem fun i hi => by
        unfold membS
        rw [write_mono f g _ (h6 _ (getD_mem (by have := ord_mem.1 hi; have := (hK.k5 h50).2; omega))) (by omega)]
      rw [wr_obj h50, wr_obj h50, e2]
    · by_cases h40 : j.kd = 4
      · rw [wr_list h40, wr_list h40, e1]
      · exact wr_flat hK h40 h50 rfl rfl rfl
/-! ### The members' order -/
theorem ord_of_sorted {ks : List ByteArray} (hn : ks.Nodup) : ordOf ((ordOf ks).map fun i => ks.getD i ⟨#[]⟩) = List.range ks.length := by
  have hl : ((ordOf ks).map fun i => ks.getD i ⟨#[]⟩).length = ks.length := by rw [List.length_map, ord_len]
  symm
  refine ord_unique ((ord_keys_perm ks).nodup_iff.2 hn) (by rw [hl]) ?_
  rw [List.pairwise_iff_getElem]
  intro i j hi hj hij
  simp only [List.length_range] at hi hj
  have hs := ord_sorted ks
  rw [List.pairwise_iff_getElem] at hs
  have := hs i j (by rw [ord_len]; omega) (by rw [ord_len]; omega) hij
  unfold keyLt at this ⊢
  rw [List.getElem_range, List.getElem_range, getD_at (by rw [hl]; omega), getD_at (by rw [hl]; omega), List.getElem_map, List.getElem_map]
  exact this
theorem write_sort : ∀ (f : Nat) (j : J), Right f j → writeJ f (sortJ f j) = writeJ f j
  | 0, j, h => h.elim
  | f + 1, j, h => by
    have hK := right_kind h
    obtain ⟨hkd, hbl, htx⟩ := sort_kd (f + 1) j
    unfold Right at h
    obtain ⟨h1, h2, h3, h4, h5, h6⟩ := h
    by_cases h50 : j.kd = 5
    · obtain ⟨e1, e2⟩ := sort_obj (f := f) h50
      have hl := (hK.k5 h50).2
      rw [wr_obj h50, wr_obj (hkd.trans h50), e1, ord_of_sorted (h5 h50).2]
      congr 2
      congr 1
      rw [e2]
      apply List.ext_getElem?
      intro k
      rw [List.getElem?_map, List.getElem?_map]
      by_cases hk : k < j.ks.length
      · rw [List.getElem?_range hk, List.getElem?_eq_getElem (by rw [ord_len]; exact hk)]
        simp only [Option.map_some]
        congr 1
        have hi := ord_mem.1 (List.getElem_mem (l := ordOf j.ks) (n := k) (by rw [ord_len]; exact hk))
        unfold membS
        rw [getD_at (l := (ordOf j.ks).map _) (by rw [List.length_map, ord_len]; exact hk), List.getElem_map, getD_at (l := (ordOf j.ks).map _) (by rw [List.length_map, ord_len]; exact hk), List.getElem_map]
        rw [write_sort f _ (h6 _ (getD_mem (by omega)))]
      · rw [List.getElem?_eq_none (by simp; omega), List.getElem?_eq_none (by rw [ord_len]; omega)]
        rfl
    · obtain ⟨e1, e2⟩ := sort_flat (f := f) h50
      have em : (j.ls.map (sortJ f)).map (writeJ f) = j.ls.map (writeJ f) := by
        rw [List.map_map]
        exact map_congr_mem fun x hx => write_sort f x (h6 x hx)
      by_cases h40 : j.kd = 4
      · rw [wr_list h40, wr_list (hkd.trans h40), e2, em]
      · exact wr_flat hK h40 h50 hkd hbl htx
/-! ### What is parsed -/
theorem join_len : ∀ (l : List (List Int)) (i : Nat), (joinFrom (i + 1) l).length = (l.map fun a => a.length + 1).sum
  | [], i => rfl
  | a :: l, i => by rw [join_succ, List.map_cons, List.sum_cons, List.length_cons, List.length_append, join_len l (i + 1)]; omega
theorem join_len0 {l : List (List Int)} (h : l ≠ []) : (joinFrom 0 l).length + 1 = (l.map fun a => a.length + 1).sum := by
  match l, h with
  | a :: l, _ => rw [join_zero, List.map_cons, List.sum_cons, List.length_append, join_len]; omega
/-- What is known of a value that was read, so deep. -/
structure BackV (s : ByteArray) (f : Nat) (v : J) (i j : Nat) : Prop where
  right : Right f v
  cnt : cntJ f v + i ≤ j
  len : (writeJ f v).length + i ≤ j
  begins : beginsB (ch s i) = true
  le : j ≤ s.size
theorem skip_in {s : ByteArray} {j : Nat} {c : Int} (hj : j ≤ s.size) (h : ch s (skip s j) = c) (hc : c ≠ 0) : j ≤ skip s j ∧ skip s j < s.size := ⟨skip_ge s j, ch_pos (by rw [h]; exact hc)⟩
theorem list_back {s : ByteArray} {val : Nat → R J} {f : Nat} (hv : ∀ i v j, i ≤ s.size → val i = .ok v j → BackV s f v i j) : ∀ (F i : Nat) (ls : List J) (v : J) (j : Nat), i ≤ s.size → ls.length ≤ 256 → itemsN s val false F i [] ls = .ok v j →
    ∃ vs, v = .mk 4 false ⟨#[]⟩ [] (ls ++ vs) ∧ vs ≠ [] ∧ (∀ x ∈ vs, Right f x) ∧ (vs.map (cntJ f)).sum + i ≤ j ∧ (vs.map fun x => (writeJ f x).length + 1).sum + i ≤ j ∧ (ls ++ vs).length ≤ 256 ∧ j ≤ s.size
  | 0, i, ls, v, j, _, _, h => by simp [itemsN] at h
  | F + 1, i, ls, v, j, hi, hl, h => by
    have hL := listIs s val F i ls
    rw [h] at hL
    cases hval : val i with
    | no a e =>
      by_cases hlong : ls.length = 256 ∧ beginsB (ch s i) = true
      · have := hL.long hlong.1 hlong.2; cases this
      · have := hL.no_ hlong _ _ hval; cases this
    | ok x k =>
      have hb := hv i x k hi hval
      have hbg := hb.begins
      have hle := hb.le
      have hlen := hb.len
      have hcnt := hb.cnt
      by_cases hlong : ls.length = 256
      · have := hL.long hlong hbg; cases this
      · by_cases h93 : ch s (skip s k) = 93
        · have e := hL.end_ (fun h => hlong h.1) x k hval h93
          cases e
          obtain ⟨a, b⟩ := skip_in hle h93 (by decide)
          refine ⟨[x], rfl, by simp, fun y hy => by obtain rfl : y = x := by simpa using hy
                                                    exact hb.right, by simp; omega, by simp; omega, by simp; omega, by omega⟩
        · by_cases h44 : ch s (skip s k) = 44
          · have e := hL.more (fun h => hlong h.1) x k hval h44
            obtain ⟨a, b⟩ := skip_in hle h44 (by decide)
            have hs2 := skip_le (s := s) (i := skip s k + 1) (by omega)
            have hs3 := skip_ge s (skip s k + 1)
            obtain ⟨vs, e1, e2, e3, e4, e5, e6, e7⟩ := list_back hv F _ (ls ++ [x]) v j hs2 (by simp; omega) e
            refine ⟨x :: vs, by rw [e1]; simp, by simp, fun y hy => ?_, ?_, ?_, by simpa using e6, e7⟩
            · rcases List.mem_cons.1 hy with rfl | hy
              · exact hb.right
              · exact e3 y hy
            · rw [List.map_cons, List.sum_cons]; omega
            · rw [List.map_cons, List.sum_cons]; omega
          · have := hL.bad (fun h => hlong h.1) x k hval h93 h44; cases this
theorem key_back {s : ByteArray} {ks : List ByteArray} {i j : Nat} {k : ByteArray} (hi : i ≤ s.size) (h : jkey s ks i = .ok k j) : ch s i = 34 ∧ ks.length ≠ 256 ∧ validB k = true ∧ k ∉ ks ∧ (quoteS k).length + 1 + i ≤ j ∧ j ≤ s.size := by
  have h34 : ch s i = 34 := by
    unfold jkey at h
    split at h
    · cases h
    · rename_i e; simpa using e
  have hn : ks.length ≠ 256 := by
    unfold jkey at h
    rw [if_neg (by rw [h34]; simp)] at h
    split at h
    · cases h
    · rename_i e; exact e
  have hK := keyIs h34 hn
  rw [h] at hK
  cases ht : text s i with
  | no a e => have := hK.no_ _ _ ht; cases this
  | ok l m =>
    obtain ⟨b1, b2, b3⟩ := text_back ht
    have hi2 : i < s.size := ch_pos (by rw [h34]; decide)
    have hm := (text_ok hi2 ht).2.1
    cases hany : ks.any (fun k => decide (k = str l)) with
    | true => have := hK.twice _ _ ht hany; cases this
    | false =>
      by_cases h58 : ch s (skip s m) = 58
      · have e := hK.done _ _ ht hany h58
        cases e
        obtain ⟨a, b⟩ := skip_in hm h58 (by decide)
        have hs2 := skip_le (s := s) (i := skip s m + 1) (by omega)
        have hs3 := skip_ge s (skip s m + 1)
        refine ⟨h34, hn, b1, fun hm => ?_, by omega, hs2⟩
        rw [List.any_eq_false] at hany
        exact hany _ hm (by simp)
      · have := hK.colon _ _ ht hany h58; cases this
theorem ob_back {s : ByteArray} {val : Nat → R J} {f : Nat} (hv : ∀ i v j, i ≤ s.size → val i = .ok v j → BackV s f v i j) : ∀ (F i : Nat) (ks : List ByteArray) (ls : List J) (v : J) (j : Nat), i ≤ s.size → ks.length ≤ 256 → ks.Nodup → itemsN s val true F i ks ls = .ok v j →
    ∃ ks2 vs, v = .mk 5 false ⟨#[]⟩ (ks ++ ks2) (ls ++ vs) ∧ vs ≠ [] ∧ ks2.length = vs.length ∧ (∀ x ∈ vs, Right f x) ∧ (∀ q ∈ ks2, validB q = true) ∧ (ks ++ ks2).Nodup ∧ (vs.map (cntJ f)).sum + i ≤ j ∧
      (vs.map fun x => (writeJ f x).length).sum + (ks2.map fun q => (quoteS q).length + 2).sum + i ≤ j ∧ (ks ++ ks2).length ≤ 256 ∧ j ≤ s.size
  | 0, i, ks, ls, v, j, _, _, _, h => by simp [itemsN] at h
  | F + 1, i, ks, ls, v, j, hi, hl, hn, h => by
    have hL := obIs s val F i ks ls
    rw [h] at hL
    cases hkey : jkey s ks i with
    | no a e => have := hL.keyNo _ _ hkey; cases this
    | ok q m =>
      obtain ⟨h34, hn256, hq1, hq2, hq3, hq4⟩ := key_back hi hkey
      cases hval : val m with
      | no a e => have := hL.valNo _ _ hkey _ _ hval; cases this
      | ok x k =>
        have hb := hv m x k hq4 hval
        have hle := hb.le
        have hlen := hb.len
        have hcnt := hb.cnt
        have hnd : (ks ++ [q]).Nodup := by
          rw [List.nodup_append]
          refine ⟨hn, by simp, fun a ha b hb e => ?_⟩
          obtain rfl : b = q := by simpa using hb
          subst e; exact hq2 ha
        by_cases h125 : ch s (skip s k) = 125
        · have e := hL.end_ q m hkey x k hval h125
          cases e
          obtain ⟨a, b⟩ := skip_in hle h125 (by decide)
          refine ⟨[q], [x], rfl, by simp, rfl, fun y hy => by obtain rfl : y = x := by simpa using hy
                                                              exact hb.right, fun y hy => by obtain rfl : y = q := by simpa using hy
                                                                                             exact hq1, hnd, by simp; omega, by simp; omega, by simp; omega, by omega⟩
        · by_cases h44 : ch s (skip s k) = 44
          · have e := hL.more q m hkey x k hval h44
            obtain ⟨a, b⟩ := skip_in hle h44 (by decide)
            have hs2 := skip_le (s := s) (i := skip s k + 1) (by omega)
            have hs3 := skip_ge s (skip s k + 1)
            obtain ⟨ks2, vs, e1, e2, e3, e4, e5, e6, e7, e8, e9, e10⟩ := ob_back hv F _ (ks ++ [q]) (ls ++ [x]) v j hs2 (by simp; omega) hnd e
            refine ⟨q :: ks2, x :: vs, by rw [e1]; simp, by simp, by simp [e3], fun y hy => ?_, fun y hy => ?_, by simpa using e6, ?_, ?_, by simpa using e9, e10⟩
            · rcases List.mem_cons.1 hy with rfl | hy
              · exact hb.right
              · exact e4 y hy
            · rcases List.mem_cons.1 hy with rfl | hy
              · exact hq1
              · exact e5 y hy
            · rw [List.map_cons, List.sum_cons]; omega
            · rw [List.map_cons, List.sum_cons, List.map_cons, List.sum_cons]; omega
          · have := hL.bad q m hkey x k hval h125 h44; cases this
theorem sum_perm {l m : List Nat} (h : l.Perm m) : l.sum = m.sum := by
  induction h with
  | nil => rfl
  | cons x _ ih => simp [ih]
  | swap x y l => simp; omega
  | trans _ _ a b => exact a.trans b
theorem sum_add (l : List Nat) (f g : Nat → Nat) : (l.map fun i => f i + g i).sum = (l.map f).sum + (l.map g).sum := by
  induction l with
  | nil => rfl
  | cons a l ih => simp [ih]; omega
/-- How long an object's text is. -/
theorem ob_len {w : J → List Int} {ks : List ByteArray} {ls : List J} (hl : ks.length = ls.length) (hne : ls ≠ []) :
    (joinFrom 0 ((ordOf ks).map (membS w ks ls))).length + 1 = (ls.map fun x => (w x).length).sum + (ks.map fun q => (quoteS q).length + 2).sum := by
  have hne2 : (ordOf ks).map (membS w ks ls) ≠ [] := fun e => by
    have := congrArg List.length e
    rw [List.length_map, ord_len, hl] at this
    exact hne (List.eq_nil_of_length_eq_zero (by simpa using this))
  rw [join_len0 hne2, List.map_map]
  have e1 := sum_perm ((ord_perm ks).map ((fun a : List Int => a.length + 1) ∘ membS w ks ls))
  rw [e1]
  have e2 : (List.range ks.length).map ((fun a : List Int => a.length + 1) ∘ membS w ks ls) = (List.range ks.length).map fun i => (w (ls.getD i J.zero)).length + ((quoteS (ks.getD i ⟨#[]⟩)).length + 2) := map_congr_mem fun i _ => by
    simp [membS]; omega
  rw [e2, sum_add]
  have e3 : (List.range ks.length).map (fun i => (w (ls.getD i J.zero)).length) = ls.map fun x => (w x).length := by
    rw [hl]
    have := congrArg (List.map fun x => (w x).length) (map_range_getD ls J.zero)
    rwa [List.map_map] at this
  have e4 : (List.range ks.length).map (fun i => (quoteS (ks.getD i ⟨#[]⟩)).length + 2) = ks.map fun q => (quoteS q).length + 2 := by
    have := congrArg (List.map fun q => (quoteS q).length + 2) (map_range_getD ks ⟨#[]⟩)
    rwa [List.map_map] at this
  rw [e3, e4]
theorem right_leaf {f : Nat} {kd : Int} {b : Bool} {t : ByteArray} (h1 : shapeV kd b t 0 0 = true) (h2 : kd = 2 → numB t = true) (h3 : kd = 3 → validB t = true) : Right (f + 1) (.mk kd b t [] []) := by
  unfold Right
  exact ⟨h1, (by show 0 ≤ 256; omega), h2, h3, fun _ => ⟨(fun k hk => by cases hk), List.nodup_nil⟩, (fun v hv => by cases hv)⟩
theorem cnt_leaf (f : Nat) (kd : Int) (b : Bool) (t : ByteArray) : cntJ (f + 1) (.mk kd b t [] []) = 1 := rfl
theorem empty_toList : (⟨#[]⟩ : ByteArray).toList = [] := ByteArray.toList_eq _
theorem value_back {s : ByteArray} : ∀ (f i : Nat) (v : J) (j : Nat), i ≤ s.size → value s f i = .ok v j → BackV s f v i j
  | 0, i, v, j, hi, h => by unfold value at h; split at h <;> cases h
  | f + 1, i, v, j, hi, h => by
    obtain ⟨hlt, hjs⟩ := value_fwd s _ i v j hi h
    cases hb : beginsB (ch s i) with
    | false => rw [value_begins s _ i hb] at h; cases h
    | true =>
      have hV := valueIs (d := f) hb
      rw [h] at hV
      have hrec : ∀ i v j, i ≤ s.size → value s f i = .ok v j → BackV s f v i j := fun i v j => value_back f i v j
      have mk : ∀ {v : J}, Right (f + 1) v → cntJ (f + 1) v + i ≤ j → (writeJ (f + 1) v).length + i ≤ j → BackV s (f + 1) v i j := fun a b c => ⟨a, b, c, hb, hjs⟩
      have hi1 : i < s.size := by omega
      by_cases c1 : ch s i = 123
      · have hm := hV.obj c1
        unfold members at hm
        have hs1 := skip_ge s (i + 1)
        have hs2 := skip_le (s := s) (i := i + 1) (by omega)
        by_cases hc : ch s (skip s (i + 1)) = (if true = true then 125 else 93)
        · rw [if_pos hc] at hm
          cases hm
          refine mk (right_leaf (by simp [shapeV, empty_toList]) (by intro e; cases e) (by intro e; cases e)) (by rw [cnt_leaf]; omega) ?_
          rw [wr_obj rfl]
          have e0 : ordOf (J.mk 5 false ⟨#[]⟩ [] []).ks = [] := List.eq_nil_of_length_eq_zero (by rw [ord_len]; rfl)
          simp only [if_true, e0]
          simp [joinFrom]; omega
        · rw [if_neg hc] at hm
          obtain ⟨ks2, vs, e1, e2, e3, e4, e5, e6, e7, e8, e9, e10⟩ := ob_back hrec _ _ [] [] v j hs2 (by simp) List.nodup_nil hm
          simp only [List.nil_append] at e1 e6 e9
          subst e1
          refine mk ?_ ?_ ?_
          · unfold Right
            refine ⟨by simp [J.kd, J.bl, J.tx, J.ks, J.ls, shapeV, empty_toList, e3], (by show vs.length ≤ 256; omega), (by intro e; cases e), (by intro e; cases e), fun _ => ⟨e5, e6⟩, e4⟩
          · show 1 + (vs.map (cntJ f)).sum + i ≤ j; omega
          · rw [wr_obj rfl]
            have := ob_len (w := writeJ f) e3 e2
            simp only [J.ks, J.ls, List.length_cons, List.length_append, List.length_nil]
            omega
      by_cases c2 : ch s i = 91
      · have hm := hV.list c2
        unfold members at hm
        have hs1 := skip_ge s (i + 1)
        have hs2 := skip_le (s := s) (i := i + 1) (by omega)
        by_cases hc : ch s (skip s (i + 1)) = (if false = true then 125 else 93)
        · rw [if_pos hc] at hm
          cases hm
          refine mk (right_leaf (by simp [shapeV, empty_toList]) (by intro e; cases e) (by intro e; cases e)) (by rw [cnt_leaf]; omega) ?_
          rw [wr_list rfl]
          simp [J.ls, joinFrom]; omega
        · rw [if_neg hc] at hm
          obtain ⟨vs, e1, e2, e3, e4, e5, e6, e7⟩ := list_back hrec _ _ [] v j hs2 (by simp) hm
          simp only [List.nil_append] at e1 e6
          subst e1
          refine mk ?_ ?_ ?_
          · unfold Right
            exact ⟨by simp [J.kd, J.bl, J.tx, J.ks, J.ls, shapeV, empty_toList], e6, (by intro e; cases e), (by intro e; cases e), (by intro e; cases e), e3⟩
          · show 1 + (vs.map (cntJ f)).sum + i ≤ j; omega
          · rw [wr_list rfl]
            have := join_len0 (l := vs.map (writeJ f)) (by simpa using e2)
            rw [List.map_map] at this
            simp only [J.ls, List.length_cons, List.length_append, List.length_nil]
            have e8 : (vs.map ((fun a : List Int => a.length + 1) ∘ writeJ f)).sum = (vs.map fun x => (writeJ f x).length + 1).sum := rfl
            omega
      by_cases c3 : ch s i = 34
      · cases ht : text s i with
        | no a e => have := hV.textNo c3 _ _ ht; cases this
        | ok l m =>
          have e := hV.textOk c3 _ _ ht
          cases e
          obtain ⟨b1, b2, b3⟩ := text_back ht
          exact mk (right_leaf (by simp [shapeV]) (by intro e; cases e) (fun _ => b1)) (by rw [cnt_leaf]; omega) (by show (quoteS (str l)).length + i ≤ _; omega)
      by_cases c4 : ch s i = 116
      · cases ht : word s ⟨#[116, 114, 117, 101]⟩ i with
        | no a e => have := hV.trueNo c4 _ _ ht; cases this
        | ok l m =>
          have e := hV.trueOk c4 _ _ ht
          cases e
          have := (word_ok hzTrue hi ht).1
          have e4 : (⟨#[116, 114, 117, 101]⟩ : ByteArray).size = 4 := rfl
          exact mk (right_leaf (by simp [shapeV, empty_toList]) (by intro e; cases e) (by intro e; cases e)) (by rw [cnt_leaf]; omega) (by show 4 + i ≤ _; omega)
      by_cases c5 : ch s i = 102
      · cases ht : word s ⟨#[102, 97, 108, 115, 101]⟩ i with
        | no a e => have := hV.falseNo c5 _ _ ht; cases this
        | ok l m =>
          have e := hV.falseOk c5 _ _ ht
          cases e
          have := (word_ok hzFalse hi ht).1
          have e4 : (⟨#[102, 97, 108, 115, 101]⟩ : ByteArray).size = 5 := rfl
          exact mk (right_leaf (by simp [shapeV, empty_toList]) (by intro e; cases e) (by intro e; cases e)) (by rw [cnt_leaf]; omega) (by show 5 + i ≤ _; omega)
      by_cases c6 : ch s i = 110
      · cases ht : word s ⟨#[110, 117, 108, 108]⟩ i with
        | no a e => have := hV.nullNo c6 _ _ ht; cases this
        | ok l m =>
          have e := hV.nullOk c6 _ _ ht
          cases e
          have := (word_ok hzNull hi ht).1
          have e4 : (⟨#[110, 117, 108, 108]⟩ : ByteArray).size = 4 := rfl
          exact mk (right_leaf (by simp [shapeV, empty_toList]) (by intro e; cases e) (by intro e; cases e)) (by rw [cnt_leaf]; omega) (by show 4 + i ≤ _; omega)
      · cases ht : num s i with
        | no a e => have := hV.numNo c1 c2 c3 c4 c5 c6 _ _ ht; cases this
        | ok l m =>
          have e := hV.numOk c1 c2 c3 c4 c5 c6 _ _ ht
          cases e
          obtain ⟨b1, b2⟩ := num_cut hjs ht
          have hsz := size_cut (i := i) hjs
          refine mk (right_leaf (by simp [shapeV]) (fun _ => ?_) (by intro e; cases e)) (by rw [cnt_leaf]; omega) ?_
          · unfold numB numV
            rw [b1]; simp
          · show (restAt (s.extract i j) 0).length + i ≤ j
            rw [restAt_len]; omega
/-! ### Every refusal has its reason, and its place -/
def NoErr {α : Type} (s : ByteArray) (r : R α) : Prop := ∀ j e, r = .no j e → e ≠ 0 ∧ j ≤ s.size
theorem fourN_err {s : ByteArray} : ∀ (f : Nat) (v : Int) (i : Nat), i ≤ s.size → NoErr s (fourN s f v i)
  | 0, v, i, hi, j, e, h => by cases h
  | f + 1, v, i, hi, j, e, h => by
    unfold fourN at h
    split at h
    · rename_i d hd
      exact fourN_err f _ _ (ch_pos (hexv_range hd).2.2) j e h
    · cases h; exact ⟨by decide, hi⟩
theorem ch_lt {s : ByteArray} {i : Nat} {c : Int} (h : ch s i = c) (hc : c ≠ 0) : i < s.size := ch_pos (by rw [h]; exact hc)
theorem sign_err {s : ByteArray} {i : Nat} (hi : i + 2 ≤ s.size) : NoErr s (signOf s i) := fun j e h => by
  cases hf : four s (i + 2) with
  | no k x => unfold signOf at h; rw [hf] at h; cases h; exact fourN_err _ _ _ hi _ _ hf
  | ok u k =>
    have his := signIs hf
    rw [h] at his
    by_cases h5 : u < 55296 ∨ 57343 < u
    · have := his.plain h5; cases this
    · by_cases h6 : 56319 < u ∨ ch s k ≠ 92 ∨ ch s (k + 1) ≠ 117
      · have := his.half (by omega) (by omega) h6; cases this; exact ⟨by decide, by omega⟩
      · have hk : k + 2 ≤ s.size := ch_lt (s := s) (i := k + 1) (c := 117) (by omega) (by decide)
        cases hg : four s (k + 2) with
        | no m x => have := his.bad (by omega) (by omega) (by omega) (by omega) _ _ hg; cases this; exact fourN_err _ _ _ hk _ _ hg
        | ok x m =>
          have := his.two (by omega) (by omega) (by omega) (by omega) _ _ hg
          split at this
          · cases this; exact ⟨by decide, by omega⟩
          · cases this
theorem escape_err {s : ByteArray} {i : Nat} (hi : i < s.size) : NoErr s (escape s i) := fun j e h => by
  by_cases h117 : ch s (i + 1) = 117
  · rw [escape_sign h117] at h
    exact sign_err (ch_lt h117 (by decide)) _ _ h
  · unfold escape at h
    repeat' split at h
    all_goals first
      | (exfalso; omega)
      | (cases h; exact ⟨by decide, hi⟩)
      | cases h
theorem textN_err {s : ByteArray} : ∀ (f i : Nat) (acc : List Int), s.size < i + f → i ≤ s.size → NoErr s (textN s f i acc)
  | 0, i, acc, h1, h2, j, e, h => by omega
  | f + 1, i, acc, h1, h2, j, e, h => by
    unfold textN at h
    split at h
    · cases h; exact ⟨by decide, h2⟩
    · rename_i hn
      have hi : i < s.size := by omega
      split at h
      · cases h
      · split at h
        · split at h
          · rename_i v k he
            obtain ⟨a, b, _⟩ := escape_ok hi he
            exact textN_err f k _ (by omega) b _ _ h
          · rename_i k x he
            cases h
            exact escape_err hi _ _ he
        · split at h
          · cases h; exact ⟨by decide, h2⟩
          · rename_i h4
            have hw : wholeAt s i ≠ 0 := fun e => by rw [(runeAt_none hi e).1] at h4; exact h4 rfl
            obtain ⟨a1, a2, a3, a4, a5, _⟩ := runeAt_some hi hw
            rw [a1] at h
            simp only at h
            exact textN_err f _ _ (by omega) a5 _ _ h
theorem text_err {s : ByteArray} {i : Nat} (hi : i < s.size) : NoErr s (text s i) := textN_err _ _ _ (by omega) (by omega)
theorem run1_err {s : ByteArray} {i : Nat} (hi : i ≤ s.size) : NoErr s (run1 s i) := fun j e h => by
  unfold run1 at h
  split at h
  · cases h; exact ⟨by decide, hi⟩
  · cases h
theorem numExp_err {s : ByteArray} {i : Nat} : NoErr s (numExp s i) := fun j e h => by
  unfold numExp at h
  split at h
  · rename_i he
    have hi : i < s.size := by rcases he with he | he <;> exact ch_lt he (by decide)
    refine run1_err ?_ _ _ h
    split
    · rename_i h2
      have : i + 1 < s.size := by rcases h2 with h2 | h2 <;> exact ch_lt h2 (by decide)
      omega
    · omega
  · cases h
theorem numFrac_err {s : ByteArray} {i : Nat} : NoErr s (numFrac s i) := fun j e h => by
  unfold numFrac at h
  split at h
  · rename_i h46
    split at h
    · exact numExp_err _ _ h
    · rename_i hr; cases h; exact run1_err (ch_lt h46 (by decide)) _ _ hr
  · exact numExp_err _ _ h
theorem numInt_err {s : ByteArray} {i : Nat} (hi : i ≤ s.size) : NoErr s (numInt s i) := fun j e h => by
  unfold numInt at h
  split at h
  · exact numFrac_err _ _ h
  · split at h
    · exact numFrac_err _ _ h
    · rename_i hr; cases h; exact run1_err hi _ _ hr
theorem num_err {s : ByteArray} {i : Nat} (hi : i ≤ s.size) : NoErr s (num s i) := numInt_err (by
  split
  · rename_i h; exact ch_lt h (by decide)
  · exact hi)
theorem word_err {s w : ByteArray} {i : Nat} (hz : ∀ k, k < w.size → ch w k ≠ 0) (hi : i ≤ s.size) : NoErr s (word s w i) := by
  have : ∀ (f i : Nat), f ≤ w.size → i ≤ s.size → NoErr s (wordAt s w f i) := by
    intro f
    induction f with
    | zero => intro i _ _ j e h; cases h
    | succ f ih =>
      intro i hf hi j e h
      unfold wordAt at h
      split at h
      · rename_i hc
        exact ih _ (by omega) (ch_lt hc (hz _ (by omega))) _ _ h
      · cases h; exact ⟨by decide, hi⟩
  exact this _ _ (Nat.le_refl _) hi
theorem jkey_err {s : ByteArray} {ks : List ByteArray} {i : Nat} (hi : i ≤ s.size) : NoErr s (jkey s ks i) := fun j e h => by
  unfold jkey at h
  split at h
  · cases h; exact ⟨by decide, hi⟩
  · rename_i h34
    have h34 : ch s i = 34 := by simpa using h34
    have hlt := ch_lt h34 (by decide)
    split at h
    · cases h; exact ⟨by decide, hi⟩
    · split at h
      · rename_i ht; cases h; exact text_err hlt _ _ ht
      · rename_i l m ht
        have hm := (text_ok hlt ht).2.1
        split at h
        · cases h; exact ⟨by decide, hi⟩
        · split at h
          · cases h; exact ⟨by decide, skip_le hm⟩
          · cases h
theorem jkey_at {s : ByteArray} {ks : List ByteArray} {i j : Nat} {k : ByteArray} (hi : i ≤ s.size) (h : jkey s ks i = .ok k j) : i < j ∧ j ≤ s.size := by
  obtain ⟨_, _, _, _, a, b⟩ := key_back hi h
  omega
theorem items_err {s : ByteArray} {val : Nat → R J} (hv : ∀ i v j, i ≤ s.size → val i = .ok v j → i < j ∧ j ≤ s.size) (he : ∀ i, i ≤ s.size → NoErr s (val i)) (obj : Bool) : ∀ (F i : Nat) (ks : List ByteArray) (ls : List J), s.size < i + F → i ≤ s.size → NoErr s (itemsN s val obj F i ks ls)
  | 0, i, ks, ls, h1, h2, j, e, h => by omega
  | F + 1, i, ks, ls, h1, h2, j, e, h => by
    unfold itemsN at h
    have next : ∀ {k : Nat}, i < k → k ≤ s.size → ch s (skip s k) = 44 → s.size < skip s (skip s k + 1) + F ∧ skip s (skip s k + 1) ≤ s.size := fun {k} hk1 hk2 h44 => by
      obtain ⟨a, b⟩ := skip_in hk2 h44 (by decide)
      have := skip_le (s := s) (i := skip s k + 1) (by omega)
      have := skip_ge s (skip s k + 1)
      omega
    split at h
    · split at h
      · rename_i hk; cases h; exact jkey_err h2 _ _ hk
      · rename_i k m hk
        obtain ⟨a, b⟩ := jkey_at h2 hk
        split at h
        · rename_i hval; cases h; exact he _ b _ _ hval
        · rename_i v q hval
          obtain ⟨c, d⟩ := hv _ _ _ b hval
          split at h
          · cases h
          · split at h
            · rename_i h44
              obtain ⟨x, y⟩ := next (by omega) d h44
              exact items_err hv he obj F _ _ _ x y _ _ h
            · cases h; exact ⟨by decide, skip_le d⟩
    · split at h
      · cases h; exact ⟨by decide, h2⟩
      · split at h
        · rename_i hval; cases h; exact he _ h2 _ _ hval
        · rename_i v q hval
          obtain ⟨c, d⟩ := hv _ _ _ h2 hval
          split at h
          · cases h
          · split at h
            · rename_i h44
              obtain ⟨x, y⟩ := next (by omega) d h44
              exact items_err hv he obj F _ _ _ x y _ _ h
            · cases h; exact ⟨by decide, skip_le d⟩
theorem value_err {s : ByteArray} : ∀ (d i : Nat), i ≤ s.size → NoErr s (value s d i)
  | 0, i, hi, j, e, h => by
    unfold value at h
    split at h <;> (cases h; exact ⟨by decide, hi⟩)
  | d + 1, i, hi, j, e, h => by
    have mem : ∀ obj, i < s.size → NoErr s (members s (value s d) obj i) := fun obj hlt j e h => by
      unfold members at h
      by_cases hc : ch s (skip s (i + 1)) = (if obj then 125 else 93)
      · rw [if_pos hc] at h; cases h
      · rw [if_neg hc] at h
        have := skip_le (s := s) (i := i + 1) (by omega)
        exact items_err (fun i v j => value_fwd s d i v j) (fun i hi => value_err d i hi) obj _ _ _ _ (by omega) this _ _ h
    have hlt : ch s i ≠ 0 → i < s.size := ch_pos
    unfold value at h
    split at h
    · cases h; exact ⟨by decide, hi⟩
    split at h
    · rename_i hc; exact mem true (hlt (by rw [hc]; decide)) _ _ h
    split at h
    · rename_i hc; exact mem false (hlt (by rw [hc]; decide)) _ _ h
    split at h
    · rename_i hc
      split at h
      · cases h
      · rename_i ht; cases h; exact text_err (hlt (by rw [hc]; decide)) _ _ ht
    split at h
    · split at h
      · cases h
      · rename_i ht; cases h; exact word_err hzTrue hi _ _ ht
    split at h
    · split at h
      · cases h
      · rename_i ht; cases h; exact word_err hzFalse hi _ _ ht
    split at h
    · split at h
      · cases h
      · rename_i ht; cases h; exact word_err hzNull hi _ _ ht
    · split at h
      · cases h
      · rename_i ht; cases h; exact num_err hi _ _ ht
/-- What is not taken: no value, and a place. -/
theorem parse_no_back {s : ByteArray} {v : J} {at_ : Nat} {e : Int} (h : parse s = (v, at_, e)) (he : e ≠ 0) : v = J.zero ∧ at_ ≤ s.size := by
  unfold parse at h
  split at h
  · simp only [Prod.mk.injEq] at h
    exact ⟨h.1.symm, by omega⟩
  · have h0 := skip_le (s := s) (i := 0) (by omega)
    cases hv : value s 16 (skip s 0) with
    | no j x =>
      rw [hv] at h
      simp only [Prod.mk.injEq] at h
      have := (value_err _ _ h0 _ _ hv).2
      exact ⟨h.1.symm, by omega⟩
    | ok u j =>
      rw [hv] at h
      simp only at h
      have := skip_le (value_fwd s _ _ _ _ h0 hv).2
      split at h
      · simp only [Prod.mk.injEq] at h; exact ⟨h.1.symm, by omega⟩
      · simp only [Prod.mk.injEq] at h; omega
/-- What is parsed is right, and its text no longer. -/
theorem parse_back {s : ByteArray} {v : J} {at_ : Nat} (h : parse s = (v, at_, 0)) (hs : ¬ 8192 < s.size) : (checkJ 17 v 1 0).1 = 0 ∧ Right 16 v ∧ (writeJ 16 v).length ≤ s.size ∧ at_ = 0 := by
  unfold parse at h
  rw [if_neg hs] at h
  have h0 := skip_le (s := s) (i := 0) (by omega)
  cases hv : value s 16 (skip s 0) with
  | no j e =>
    rw [hv] at h
    simp only [Prod.mk.injEq] at h
    exact absurd h.2.2 (value_err _ _ h0 _ _ hv).1
  | ok u j =>
    rw [hv] at h
    simp only at h
    split at h
    · simp only [Prod.mk.injEq] at h; exact absurd h.2.2 (by decide)
    · simp only [Prod.mk.injEq] at h
      obtain ⟨rfl, rfl, _⟩ := h
      have hb := value_back 16 _ _ _ h0 hv
      have hc := hb.cnt
      have hl := hb.len
      have hle := hb.le
      have := check_of_right 16 17 u 1 0 hb.right (by omega) (by omega) (by omega)
      exact ⟨by rw [this], hb.right, by omega, rfl⟩
end Go.Proofs.YtlbilofnbhhmjaaDoor
