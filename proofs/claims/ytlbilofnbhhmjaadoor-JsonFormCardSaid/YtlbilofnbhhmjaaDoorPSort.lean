/- What is written is read as the value with its members by rising keys, and written again it is the same. No program in it. -/
import Derived.Test.YtlbilofnbhhmjaaDoorPVal
namespace Go.Proofs.YtlbilofnbhhmjaaDoor
open Go.Lib
set_option linter.unusedVariables false
set_option linter.unusedSimpArgs false
/-- A value with the members of all its objects by rising keys, so deep. -/
def sortJ : Nat → J → J
  | 0, j => j
  | f + 1, j => if j.kd = 5 then .mk 5 j.bl j.tx ((ordOf j.ks).map fun i => j.ks.getD i ⟨#[]⟩) ((ordOf j.ks).map fun i => sortJ f (j.ls.getD i J.zero)) else .mk j.kd j.bl j.tx j.ks (j.ls.map (sortJ f))
theorem sort_kd (f : Nat) (j : J) : (sortJ f j).kd = j.kd ∧ (sortJ f j).bl = j.bl ∧ (sortJ f j).tx = j.tx := by
  cases f with
  | zero => exact ⟨rfl, rfl, rfl⟩
  | succ f =>
    unfold sortJ
    by_cases h : j.kd = 5
    · rw [if_pos h, h]; exact ⟨rfl, rfl, rfl⟩
    · rw [if_neg h]; exact ⟨rfl, rfl, rfl⟩
theorem sort_flat {f : Nat} {j : J} (h : j.kd ≠ 5) : (sortJ (f + 1) j).ks = j.ks ∧ (sortJ (f + 1) j).ls = j.ls.map (sortJ f) := by
  have e : sortJ (f + 1) j = .mk j.kd j.bl j.tx j.ks (j.ls.map (sortJ f)) := by rw [sortJ, if_neg h]
  rw [e]; exact ⟨rfl, rfl⟩
theorem sort_obj {f : Nat} {j : J} (h : j.kd = 5) : (sortJ (f + 1) j).ks = (ordOf j.ks).map (fun i => j.ks.getD i ⟨#[]⟩) ∧ (sortJ (f + 1) j).ls = (ordOf j.ks).map fun i => sortJ f (j.ls.getD i J.zero) := by
  have e : sortJ (f + 1) j = .mk 5 j.bl j.tx ((ordOf j.ks).map fun i => j.ks.getD i ⟨#[]⟩) ((ordOf j.ks).map fun i => sortJ f (j.ls.getD i J.zero)) := by rw [sortJ, if_pos h]
  rw [e]; exact ⟨rfl, rfl⟩
/-! ### The order of the keys -/
theorem ord_perm (ks : List ByteArray) : (ordOf ks).Perm (List.range ks.length) := List.mergeSort_perm _ _
theorem ord_len (ks : List ByteArray) : (ordOf ks).length = ks.length := by rw [(ord_perm ks).length_eq]; simp
theorem ord_mem {ks : List ByteArray} {i : Nat} : i ∈ ordOf ks ↔ i < ks.length := by rw [(ord_perm ks).mem_iff]; simp
theorem ord_sorted (ks : List ByteArray) : (ordOf ks).Pairwise fun x y => keyLt ks y x = false := by
  have hS := swo_key ks (fun x : Nat => x)
  have : (ordOf ks).Pairwise fun x y => (!keyLt ks y x) = true := by
    refine List.pairwise_mergeSort ?_ ?_ _
    · intro a b c h1 h2
      simp only [Bool.not_eq_true'] at h1 h2 ⊢
      exact hS.ntrans c b a h2 h1
    · intro a b
      cases h : keyLt ks b a with
      | false => simp
      | true => simp [hS.asymmA h]
  exact this.imp (fun h => by simpa using h)
theorem getD_mem {α : Type} {l : List α} {i : Nat} {d : α} (h : i < l.length) : l.getD i d ∈ l := by
  rw [List.getD_eq_getElem?_getD, List.getElem?_eq_getElem h]; exact List.getElem_mem _
theorem getD_at {α : Type} {l : List α} {i : Nat} {d : α} (h : i < l.length) : l.getD i d = l[i] := by
  rw [List.getD_eq_getElem?_getD, List.getElem?_eq_getElem h]; rfl
theorem map_range_getD {α : Type} (l : List α) (d : α) : (List.range l.length).map (fun i => l.getD i d) = l := by
  apply List.ext_getElem?
  intro k
  rw [List.getElem?_map]
  by_cases h : k < l.length
  · rw [List.getElem?_range h, Option.map_some, getD_at h, List.getElem?_eq_getElem h]
  · rw [List.getElem?_eq_none (by simp; omega), List.getElem?_eq_none (by omega)]; rfl
theorem ord_keys_perm (ks : List ByteArray) : ((ordOf ks).map fun i => ks.getD i ⟨#[]⟩).Perm ks := by
  have := (ord_perm ks).map (fun i => ks.getD i ⟨#[]⟩)
  rwa [map_range_getD] at this
/-! ### It is right -/
theorem right_sort : ∀ {f : Nat} {j : J}, Right f j → Right f (sortJ f j)
  | 0, j, h => h.elim
  | f + 1, j, h => by
    have hK := right_kind h
    obtain ⟨hkd, hbl, htx⟩ := sort_kd (f + 1) j
    unfold Right at h ⊢
    obtain ⟨h1, h2, h3, h4, h5, h6⟩ := h
    rw [hkd, hbl, htx]
    by_cases h50 : j.kd = 5
    · obtain ⟨e1, e2⟩ := sort_obj (f := f) h50
      obtain ⟨_, hl⟩ := hK.k5 h50
      obtain ⟨hv, hn⟩ := h5 h50
      rw [e1, e2]
      refine ⟨by simp only [List.length_map, ord_len]; rw [hl] at h1 ⊢; exact h1, by simp only [List.length_map, ord_len]; omega, h3, h4, fun _ => ⟨fun k hk => ?_, ?_⟩, fun v hv => ?_⟩
      · exact hv k ((ord_keys_perm j.ks).mem_iff.1 hk)
      · exact (ord_keys_perm j.ks).nodup_iff.2 hn
      · obtain ⟨i, hi, rfl⟩ := List.mem_map.1 hv
        exact right_sort (h6 _ (getD_mem (by have := ord_mem.1 hi; omega)))
    · obtain ⟨e1, e2⟩ := sort_flat (f := f) h50
      rw [e1, e2]
      refine ⟨by simp only [List.length_map]; exact h1, by simp only [List.length_map]; exact h2, h3, h4, fun e => absurd e h50, fun v hv => ?_⟩
      obtain ⟨x, hx, rfl⟩ := List.mem_map.1 hv
      exact right_sort (h6 x hx)
/-! ### What is written is a text of it -/
theorem bl_nil : Bl [] := fun _ h => by cases h
theorem join_succ (i : Nat) (a : List Int) (l : List (List Int)) : joinFrom (i + 1) (a :: l) = 44 :: (a ++ joinFrom (i + 2) l) := by rw [joinFrom_cons, if_pos (by omega)]; rfl
theorem join_zero (a : List Int) (l : List (List Int)) : joinFrom 0 (a :: l) = a ++ joinFrom 1 l := by rw [joinFrom_cons, if_neg (by omega)]; rfl
theorem list_text {rec : J → List Int → Prop} {w : J → List Int} {g : J → J} : ∀ (vs : List J) (v : J) (i : Nat), (∀ x ∈ v :: vs, rec (g x) (w x)) → ListT rec ((v :: vs).map g) (w v ++ (joinFrom (i + 1) (vs.map w) ++ [93]))
  | [], v, i, h => ⟨w v, [], h v (by simp), bl_nil, by simp [joinFrom]⟩
  | u :: vs, v, i, h => ⟨w v, [], [], w u ++ (joinFrom (i + 2) (vs.map w) ++ [93]), h v (by simp), bl_nil, bl_nil, list_text vs u (i + 1) (fun x hx => h x (by simp at hx ⊢; exact .inr hx)), by rw [List.map_cons, join_succ]; simp⟩
theorem ob_text {rec : J → List Int → Prop} {w : J → List Int} {g : J → J} {ks : List ByteArray} {ls : List J} : ∀ (is : List Nat) (i : Nat) (n : Nat), (∀ x ∈ i :: is, rec (g (ls.getD x J.zero)) (w (ls.getD x J.zero))) →
    ObT rec ((i :: is).map fun x => ks.getD x ⟨#[]⟩) ((i :: is).map fun x => g (ls.getD x J.zero)) (membS w ks ls i ++ (joinFrom (n + 1) (is.map (membS w ks ls)) ++ [125]))
  | [], i, n, h => ⟨[], [], w (ls.getD i J.zero), [], bl_nil, bl_nil, h i (by simp), bl_nil, by simp [joinFrom, membS]⟩
  | u :: is, i, n, h => ⟨[], [], w (ls.getD i J.zero), [], [], membS w ks ls u ++ (joinFrom (n + 2) (is.map (membS w ks ls)) ++ [125]), bl_nil, bl_nil, h i (by simp), bl_nil, bl_nil, ob_text is u (n + 1) (fun x hx => h x (by simp at hx ⊢; exact .inr hx)), by
      rw [List.map_cons, join_succ]; simp [membS]⟩
theorem txt_write : ∀ {f : Nat} {j : J}, Right f j → Txt f (sortJ f j) (writeJ f j)
  | 0, j, h => h.elim
  | f + 1, j, h => by
    have hK := right_kind h
    obtain ⟨hkd, hbl, htx⟩ := sort_kd (f + 1) j
    unfold Right at h
    obtain ⟨h1, h2, h3, h4, h5, h6⟩ := h
    unfold Txt writeJ
    rw [hkd, hbl, htx]
    rcases hK.all with e | e | e | e | e | e
    · exact .inl ⟨e, by rw [if_pos e]⟩
    · exact .inr (.inl ⟨e, by rw [if_neg (by omega), if_pos e]⟩)
    · exact .inr (.inr (.inl ⟨e, by rw [if_neg (by omega), if_neg (by omega), if_pos e]⟩))
    · exact .inr (.inr (.inr (.inl ⟨e, by rw [if_neg (by omega), if_neg (by omega), if_neg (by omega), if_pos e]⟩)))
    · obtain ⟨e1, e2⟩ := sort_flat (f := f) (show j.kd ≠ 5 by omega)
      refine .inr (.inr (.inr (.inr (.inl ⟨e, [], joinFrom 0 (j.ls.map (writeJ f)) ++ [93], bl_nil, by rw [if_neg (by omega), if_neg (by omega), if_neg (by omega), if_neg (by omega), if_pos e]; rfl, ?_⟩))))
      rw [e2]
      match hl : j.ls with
      | [] => exact .inl ⟨rfl, rfl⟩
      | v :: vs =>
        right
        rw [List.map_cons (f := writeJ f), join_zero, List.append_assoc]
        exact list_text vs v 0 (fun x hx => txt_write (h6 x (by rw [hl]; exact hx)))
    · obtain ⟨e1, e2⟩ := sort_obj (f := f) e
      refine .inr (.inr (.inr (.inr (.inr ⟨e, [], joinFrom 0 ((ordOf j.ks).map (membS (writeJ f) j.ks j.ls)) ++ [125], bl_nil, by rw [if_neg (by omega), if_neg (by omega), if_neg (by omega), if_neg (by omega), if_neg (by omega)]; rfl, ?_⟩))))
      rw [e1, e2]
      have hm : ∀ i ∈ ordOf j.ks, i < j.ls.length := fun i hi => by have := ord_mem.1 hi; have := (hK.k5 e).2; omega
      match hl : ordOf j.ks with
      | [] => exact .inl ⟨rfl, rfl⟩
      | i :: is =>
        right
        rw [List.map_cons (f := membS (writeJ f) j.ks j.ls), join_zero, List.append_assoc]
        exact ob_text is i 0 (fun x hx => txt_write (h6 _ (getD_mem (hm x (by rw [hl]; exact hx)))))
/-! ### Its bytes -/
def Bytes (l : List Int) : Prop := ∀ x ∈ l, 0 ≤ x ∧ x < 256
theorem Bytes.append {a b : List Int} (h : Bytes a) (k : Bytes b) : Bytes (a ++ b) := fun x hx => by
  rcases List.mem_append.1 hx with h1 | h1
  · exact h x h1
  · exact k x h1
theorem Bytes.cons {c : Int} {b : List Int} (h0 : 0 ≤ c) (h1 : c < 256) (k : Bytes b) : Bytes (c :: b) := fun x hx => by
  rcases List.mem_cons.1 hx with h | h
  · subst h; exact ⟨h0, h1⟩
  · exact k x h
theorem bytes_nil : Bytes [] := fun _ h => by cases h
theorem bytes_rest (s : ByteArray) (i : Nat) : Bytes (restAt s i) := fun x hx => by
  unfold restAt bytesAt at hx
  obtain ⟨k, _, rfl⟩ := List.mem_map.1 hx
  have := ch_range s (i + k)
  omega
theorem bytes_escB {c : Int} (h0 : 0 ≤ c) (h1 : c < 256) : Bytes (escB c) := by
  unfold escB
  have hx : ∀ n : Int, 0 ≤ n → n < 16 → 0 ≤ hexD n ∧ hexD n < 256 := fun n a b => by unfold hexD; split <;> omega
  repeat' split
  all_goals first
    | exact Bytes.cons (by omega) (by omega) (Bytes.cons (by omega) (by omega) bytes_nil)
    | exact Bytes.cons (by omega) (by omega) (Bytes.cons (by omega) (by omega) (Bytes.cons (by omega) (by omega) (Bytes.cons (by omega) (by omega) (Bytes.cons (hx _ (by omega) (by omega)).1 (hx _ (by omega) (by omega)).2 (Bytes.cons (hx _ (by omega) (by omega)).1 (hx _ (by omega) (by omega)).2 bytes_nil)))))
    | exact Bytes.cons h0 h1 bytes_nil
theorem bytes_quote (s : ByteArray) : Bytes (quoteS s) := by
  unfold quoteS
  refine Bytes.cons (by omega) (by omega) (Bytes.append (fun x hx => ?_) (Bytes.cons (by omega) (by omega) bytes_nil))
  obtain ⟨c, hc, h⟩ := List.mem_flatMap.1 hx
  have := bytes_rest s 0 c hc
  exact bytes_escB this.1 this.2 x h
theorem bytes_join : ∀ (l : List (List Int)) (i : Nat), (∀ a ∈ l, Bytes a) → Bytes (joinFrom i l)
  | [], i, _ => bytes_nil
  | a :: l, i, h => by
    unfold joinFrom
    refine Bytes.append ?_ (Bytes.append (h a (by simp)) (bytes_join l (i + 1) (fun b hb => h b (by simp [hb]))))
    split
    · exact Bytes.cons (by omega) (by omega) bytes_nil
    · exact bytes_nil
theorem bytes_write : ∀ (f : Nat) (j : J), Bytes (writeJ f j)
  | 0, j => bytes_nil
  | f + 1, j => by
    unfold writeJ
    have hm : ∀ i, Bytes (membS (writeJ f) j.ks j.ls i) := fun i => Bytes.append (bytes_quote _) (Bytes.cons (by omega) (by omega) (bytes_write f _))
    split
    · exact fun x hx => by simp at hx; omega
    split
    · split <;> exact fun x hx => by simp at hx; omega
    split
    · exact bytes_rest _ _
    split
    · exact bytes_quote _
    split
    · refine Bytes.cons (by omega) (by omega) (Bytes.append (bytes_join _ _ fun a ha => ?_) (Bytes.cons (by omega) (by omega) bytes_nil))
      obtain ⟨x, _, rfl⟩ := List.mem_map.1 ha
      exact bytes_write f x
    · refine Bytes.cons (by omega) (by omega) (Bytes.append (bytes_join _ _ fun a ha => ?_) (Bytes.cons (by omega) (by omega) bytes_nil))
      obtain ⟨x, _, rfl⟩ := List.mem_map.1 ha
      exact hm x
/-- A text that is a right value's is parsed as the value. -/
theorem parse_txt {f : Nat} {j : J} {a l b : List Int} (hf : f ≤ 16) (hr : Right f j) (ht : Txt f j l) (ha : Bl a) (hb : Bl b) (hl : Bytes (a ++ (l ++ b))) (hn : (a ++ (l ++ b)).length ≤ 8192) : parse (str (a ++ (l ++ b))) = (j, 0, 0) := by
  have hat := at_str hl
  have hsz : (str (a ++ (l ++ b))).size = (a ++ (l ++ b)).length := Go.strOfNums_size _
  generalize str (a ++ (l ++ b)) = s at hat hsz
  obtain ⟨c, m, hc, hbg⟩ := txt_begins hr ht
  have h0 : skip s 0 = 0 + a.length := by
    rw [hc] at hat
    exact (skip_to hat ha (begins_blank hbg)).1
  obtain ⟨_, h1⟩ := At.append.1 hat
  obtain ⟨h2, h3⟩ := At.append.1 h1
  have hend : ch s (0 + a.length + l.length + b.length) = 0 := ch_out (by simp at hsz; omega)
  have hst : stopC (ch s (0 + a.length + l.length)) := by
    cases hbb : b with
    | nil => rw [hbb] at hend; simp only [List.length_nil, Nat.add_zero] at hend; rw [hend]; exact ⟨rfl, by decide, by decide, by decide⟩
    | cons x y => rw [hbb] at h3; rw [h3.head]; exact stop_blank (hb x (by rw [hbb]; simp))
  have hv := value_read f j l 16 s _ hf hr ht h2 hst
  have h4 := skip_bl b _ h3 hb (by rw [hend]; rfl)
  unfold parse
  rw [if_neg (by omega), h0, hv]
  simp only
  rw [h4, if_neg (by simp at hsz; omega)]
theorem parse_write {f : Nat} {j : J} (hf : f ≤ 16) (hr : Right f j) (hn : (writeJ f j).length ≤ 8192) : parse (str (writeJ f j)) = (sortJ f j, 0, 0) := by
  have := parse_txt (a := []) (b := []) hf (right_sort hr) (txt_write hr) bl_nil bl_nil (by simpa using bytes_write f j) (by simpa using hn)
  simpa using this
end Go.Proofs.YtlbilofnbhhmjaaDoor
