/- The statements' own: a value that is not too great is small, and so is its text. -/
import Derived.Test.YtlbilofnbhhmjaaGreatDoorLeft
import Derived.Test.YtlbilofnbhhmjaaGreatDoorPSize
import Derived.Test.YtlbilofnbhhmjaaGreatDoorPVal
namespace Go.Proofs.YtlbilofnbhhmjaaGreatDoor
open Go.RowKit
set_option linter.unusedVariables false
set_option linter.unusedSimpArgs false
mutual
def costJ : J → Nat
  | .mk kd b t ks ls => 1 + t.size + ks.length + (ks.map ByteArray.size).sum + costsJ ls
def costsJ : List J → Nat
  | [] => 0
  | j :: js => costJ j + costsJ js
end
theorem keysV_cost : ∀ (ks : List ByteArray) (n : Int), n ≤ 65536 → 0 ≤ keysV ks n → (((ks.map ByteArray.size).sum : Nat) : Int) + keysV ks n ≤ n ∧ ∀ k ∈ ks, k.size ≤ 65536
  | [], n, h1, h2 => ⟨by simp [keysV], by simp⟩
  | k :: ks, n, h1, h2 => by
    unfold keysV at h2 ⊢
    split at h2
    · omega
    · rename_i hn
      rw [if_neg hn]
      have hc : cap17 k.size = min (k.size : Int) 131072 := rfl
      have hr := cap17_range k.size
      obtain ⟨a, b⟩ := keysV_cost ks (n - cap17 k.size) (by omega) h2
      have hk : (k.size : Int) ≤ 65536 := by omega
      rw [List.map_cons, List.sum_cons]
      refine ⟨by omega, fun q hq => ?_⟩
      rcases List.mem_cons.1 hq with rfl | hq
      · omega
      · exact b q hq
mutual
theorem leftV_cost : ∀ (j : J) (d n : Int), n ≤ 65536 → 0 ≤ n → 0 ≤ leftV j d n → (costJ j : Int) + leftV j d n ≤ n ∧ JAll (JSz 65536) j
  | .mk kd b t ks ls, d, n, h1, h0, h2 => by
    unfold leftV at h2 ⊢
    split at h2
    · omega
    · rename_i hd
      rw [if_neg hd]
      have ht : cap17 t.size = min (t.size : Int) 131072 := rfl
      have hk : cap17 ks.length = min (ks.length : Int) 131072 := rfl
      have r1 := cap17_range t.size
      have r2 := cap17_range ks.length
      have hkr := keysV_range ks (n - 1 - cap17 t.size - cap17 ks.length) (by omega) (by omega)
      have hlr := leftsV_range ls d _ hkr.1 (by omega)
      obtain ⟨a, b⟩ := keysV_cost ks (n - 1 - cap17 t.size - cap17 ks.length) (by omega) (by omega)
      obtain ⟨c, e, f⟩ := leftsV_cost ls d _ (by omega) h2
      unfold costJ JAll
      refine ⟨by omega, ⟨?_, ?_, ?_, b⟩, e⟩
      · show t.size ≤ 65536; omega
      · show ks.length ≤ 65536; omega
      · show ls.length ≤ 65536; omega
theorem leftsV_cost : ∀ (ls : List J) (d n : Int), n ≤ 65536 → 0 ≤ leftsV ls d n → (costsJ ls : Int) + leftsV ls d n ≤ n ∧ JsAll (JSz 65536) ls ∧ ls.length ≤ costsJ ls
  | [], d, n, h1, h2 => by unfold leftsV costsJ JsAll at *; simp
  | j :: js, d, n, h1, h2 => by
    unfold leftsV at h2 ⊢
    split at h2
    · omega
    · rename_i hn
      rw [if_neg hn]
      have hjr := leftV_range j (d + 1) n (by omega) h1
      have hlr := leftsV_range js d _ hjr.1 (by omega)
      obtain ⟨a, b⟩ := leftV_cost j (d + 1) n h1 (by omega) (by omega)
      obtain ⟨c, e, f⟩ := leftsV_cost js d _ (by omega) h2
      unfold costsJ JsAll
      have h1j : 1 ≤ costJ j := by cases j; unfold costJ; omega
      refine ⟨by omega, ⟨b, e⟩, by simp only [List.length_cons]; omega⟩
end
theorem costs_sum : ∀ ls : List J, costsJ ls = (ls.map costJ).sum
  | [] => rfl
  | j :: js => by unfold costsJ; rw [costs_sum js, List.map_cons, List.sum_cons]
theorem quote_len (k : ByteArray) : (quoteS k).length ≤ 6 * k.size + 2 := by
  have : ∀ l : List Int, (escS l).length ≤ 6 * l.length := by
    intro l
    induction l with
    | nil => exact Nat.le_refl _
    | cons c l ih =>
      have := escB_le c
      show (escB c ++ escS l).length ≤ _
      simp only [List.length_append, List.length_cons] at *
      omega
  have h := this (restAt k 0)
  rw [restAt_len] at h
  unfold quoteS
  simp only [List.length_cons, List.length_append, List.length_nil]
  omega
theorem sum_le {α : Type} {f g : α → Nat} : ∀ {l : List α}, (∀ x ∈ l, f x ≤ g x) → (l.map f).sum ≤ (l.map g).sum
  | [], _ => Nat.le_refl _
  | a :: l, h => by
    have := h a (by simp)
    have := sum_le (l := l) (fun x hx => h x (by simp [hx]))
    simp only [List.map_cons, List.sum_cons]
    omega
theorem sum_mul8 {α : Type} (f : α → Nat) (c : Nat) : ∀ (l : List α), (l.map fun x => c * f x).sum = c * (l.map f).sum
  | [] => rfl
  | a :: l => by rw [List.map_cons, List.sum_cons, sum_mul8 f c l, List.map_cons, List.sum_cons, Nat.mul_add]
theorem write_cost : ∀ (f : Nat) (j : J), Right f j → (writeJ f j).length + 1 ≤ 8 * costJ j
  | 0, j, h => h.elim
  | f + 1, j, h => by
    have hK := right_kind h
    unfold Right at h
    obtain ⟨h1, h2, h3, h4, h5, h6⟩ := h
    have hc : costJ j = 1 + j.tx.size + j.ks.length + (j.ks.map ByteArray.size).sum + costsJ j.ls := by cases j; unfold costJ; rfl
    have hs := costs_sum j.ls
    have hsub : (j.ls.map fun x => (writeJ f x).length + 1).sum ≤ 8 * costsJ j.ls := by
      rw [hs, ← sum_mul8]
      exact sum_le fun x hx => write_cost f x (h6 x hx)
    rcases hK.all with e | e | e | e | e | e
    · rw [writeJ, if_pos e, hc]; simp; omega
    · rw [writeJ, if_neg (by omega), if_pos e, hc]; split <;> (simp; omega)
    · rw [writeJ, if_neg (by omega), if_neg (by omega), if_pos e, hc, restAt_len]; omega
    · rw [writeJ, if_neg (by omega), if_neg (by omega), if_neg (by omega), if_pos e, hc]
      have := quote_len j.tx; omega
    · rw [wr_list e, hc]
      by_cases hn : j.ls = []
      · rw [hn]; simp [joinFrom]; omega
      · have hj := join_len0 (l := j.ls.map (writeJ f)) (by simpa using hn)
        rw [List.map_map] at hj
        have e8 : (j.ls.map ((fun a : List Int => a.length + 1) ∘ writeJ f)).sum = (j.ls.map fun x => (writeJ f x).length + 1).sum := rfl
        simp only [List.length_cons, List.length_append, List.length_nil]
        omega
    · rw [wr_obj e, hc]
      obtain ⟨_, hl⟩ := hK.k5 e
      by_cases hn : j.ls = []
      · have e0 : ordOf j.ks = [] := List.eq_nil_of_length_eq_zero (by rw [ord_len, hl, hn]; rfl)
        rw [e0]; simp [joinFrom]; omega
      · have hj := ob_len (w := writeJ f) hl hn
        have hq : (j.ks.map fun q => (quoteS q).length + 2).sum ≤ 6 * (j.ks.map ByteArray.size).sum + 4 * j.ks.length := by
          have : ∀ l : List ByteArray, (l.map fun q => (quoteS q).length + 2).sum ≤ 6 * (l.map ByteArray.size).sum + 4 * l.length := by
            intro l
            induction l with
            | nil => exact Nat.le_refl _
            | cons a l ih =>
              have := quote_len a
              simp only [List.map_cons, List.sum_cons, List.length_cons]
              omega
          exact this _
        have hw : (j.ls.map fun x => (writeJ f x).length).sum + j.ls.length = (j.ls.map fun x => (writeJ f x).length + 1).sum := by
          have : ∀ l : List J, (l.map fun x => (writeJ f x).length).sum + l.length = (l.map fun x => (writeJ f x).length + 1).sum := by
            intro l
            induction l with
            | nil => rfl
            | cons a l ih => simp only [List.map_cons, List.sum_cons, List.length_cons]; omega
          exact this _
        simp only [List.length_cons, List.length_append, List.length_nil]
        omega
/-- A value that is not vast. -/
structure Small (j : J) : Prop where
  sz : JAll (JSz 65536) j
  room : (checkJ 17 j 1 0).1 = 0 → 6 * (writeJ 17 j).length ≤ 1073741824
theorem small_of {j : J} (h : 0 ≤ leftV j 1 65536) : Small j := by
  obtain ⟨a, b⟩ := leftV_cost j 1 65536 (by omega) (by omega) h
  refine ⟨b, fun hc => ?_⟩
  have := write_cost 17 j (check_right (d := 1) (n := 0) (by omega) (by omega) hc)
  omega
set_option maxHeartbeats 3200000 in
set_option maxRecDepth 100000 in
theorem vast_any (j : J) (cs : List Value) (w : World) (hj : JR w j cs) (hsz : JAll (JSz 140737488355328) j) : Calls Tryz.prog 4 #[.agg cs.toArray] w fun e w' => e = .returned (.bool (decide (leftV j 1 65536 < 0))) ∧ Below w.heap.size w w' := by
  obtain ⟨p0, p1, p2, p3, p4, rfl⟩ := five_of hj.five
  have Hj := Lib.hid hj
  have Hsz := Lib.hid hsz
  obtain ⟨z, hz⟩ : ∃ z, leftV j 1 65536 = z := ⟨_, rfl⟩
  rw [hz]
  have Hz := Lib.hid hz
  clear hj hsz hz
  go_enter Tryz.func4, Tryz.ntmps4
  go_upto_region 1 with (refine wpList_box_abs rfl 26 (.tmp 0) rfl [p0, p1, p2, p3, p4] rfl ?_; intro w1 hr1 hg1 hs1; simp only [Act.put, List.setIfInBounds_toArray, List.set_cons_zero, List.set_cons_succ])
  have HX := Lib.hid hr1
  have HB := Lib.hid (below_of_grown hg1)
  clear hr1 hg1 hs1
  have hcl := left_any w j [p0, p1, p2, p3, p4] 1 65536 w1 Hj.out Hsz.out HB.out (by omega) (by omega) (by omega) (by omega)
  rw [Hz.out] at hcl
  have Hcl := Lib.hid hcl
  clear hcl
  go_wp2_with (first
    | (go_at_call 13; refine Hcl.out.mono ?_; rintro e w2 ⟨rfl, hg2⟩; have HG2 := Lib.hid hg2; clear hg2)
    | (refine wpList_load_Row rfl 26 _ rfl w.heap.size rfl [p0, p1, p2, p3, p4] 26 HX.out _ Tryz.underlying26 rfl size29 ?_; simp only [Act.put, List.setIfInBounds_toArray, List.set_cons_zero, List.set_cons_succ]))
  go_ret
  exact ⟨rfl, below_step HB.out HG2.out⟩
end Go.Proofs.YtlbilofnbhhmjaaGreatDoor
