/- json's clone of a value: it lies in memory of its own. Condition: the value is not too great. -/
import Derived.Test.YtlbilofnbhhmjaaGreatDoorCopy
import Derived.Test.YtlbilofnbhhmjaaGreatDoorApp
namespace Go.Proofs.YtlbilofnbhhmjaaGreatDoor
open Go.RowKit
set_option linter.unusedVariables false
set_option linter.unusedSimpArgs false
/-- A clone under way: the argument's box with the new keys, the result's; so many values are cloned. -/
structure ClAt (W wr : World) (Ba Br N : Nat) (kd : Int) (bb : Bool) (t : ByteArray) (lst : Value) (ks : List ByteArray) (ls : List J) (vk vl : Value) (xs : List Value) (G : List Nat) : Prop where
  arg : Row wr Ba 26 [.int .i8 kd, .bool bb, .string t, vk, lst]
  res : Row wr Br 26 zero5
  grown : W.grownBy wr none
  big : N ≤ wr.heap.size
  rows : Rows_ wr N ls vl xs G
  keys : wr.ownsRow N 9 1 vk ks.length (ks.map Value.string)
  apart : ∀ g, vk.ownBlock = some g → g ∉ obs vl ++ G
section
variable {W wr : World} {Ba Br N : Nat} {kd : Int} {bb : Bool} {t : ByteArray} {lst : Value} {ks : List ByteArray} {ls : List J} {vk vl : Value} {xs : List Value} {G : List Nat}
theorem ClAt.quiet {w2 : World} (h : ClAt W wr Ba Br N kd bb t lst ks ls vk vl xs G) (hg : wr.grownBy w2 none) : ClAt W w2 Ba Br N kd bb t lst ks ls vk vl xs G :=
  ⟨h.arg.grown hg (by simp), h.res.grown hg (by simp), grown_own h.grown hg (by simp), Nat.le_trans h.big hg.size, h.rows.kept hg (fun g h1 h2 => by simp), World.ownsRow.kept h.keys hg (own_none (w := wr) vk), h.apart⟩
/-- One value more. -/
theorem ClAt.step {w2 w3 w4 : World} {vl' : Value} {v : J} {cs : List Value} {F : List Nat} (h : ClAt W wr Ba Br N kd bb t lst ks ls vk vl xs G) (hg2 : wr.grownBy w2 none) (hj : JAt w2 wr.heap.size v cs F) (hg3 : w2.grownBy w3 none)
    (ho : w4.ownsRow N 26 5 vl' (ls.length + 1) (xs ++ cs)) (hg4 : w3.grownBy w4 vl.ownBlock) (hl : ∀ k, vl'.ownBlock = some k → vl.ownBlock = some k ∨ w3.heap.size ≤ k) (h1 : Ba < Br) (h2 : Br < N) (hW : W.heap.size ≤ Ba) :
    ClAt W w4 Ba Br N kd bb t lst ks (ls ++ [v]) vk vl' (xs ++ cs) (G ++ F) := by
  have hv : ∀ k, vl.ownBlock = some k → N ≤ k ∧ k < wr.heap.size := World.ownsRow.lt h.rows.1
  have hne : ∀ x, x < N → some x ≠ vl.ownBlock := fun x hx e => by have := hv x e.symm; omega
  have hk : ∀ g, vk.ownBlock = some g → N ≤ g ∧ g < wr.heap.size := World.ownsRow.lt h.keys
  have s2 := hg2.size
  have s3 := hg3.size
  have s4 := hg4.size
  have sN := h.big
  have hR := h.rows.snoc sN (b := Ba) (by omega) (grown_none hg2 _) hj hg3 ho hg4 hl
  refine ⟨((h.arg.grown hg2 (by simp)).grown hg3 (by simp)).grown hg4 (hne Ba (by omega)), ((h.res.grown hg2 (by simp)).grown hg3 (by simp)).grown hg4 (hne Br h2),
    grown_own (grown_own (grown_own h.grown hg2 (by simp)) hg3 (by simp)) hg4 (fun x hx => .inr (by have := hv x hx; omega)), by omega, hR, ?_, fun g hg hm => ?_⟩
  · refine World.ownsRow.kept (World.ownsRow.kept (World.ownsRow.kept h.keys hg2 (own_none (w := wr) vk)) hg3 (own_none (w := wr) vk)) hg4 ?_
    cases hb2 : vk.ownBlock with
    | none => exact .inl rfl
    | some g => right; intro e; exact h.apart g hb2 (by simp [obs_mem.2 e.symm])
  · have hgk := hk g hg
    have hF := hj.lt
    rcases List.mem_append.1 hm with hm | hm
    · rcases hl g (obs_mem.1 hm) with e | e
      · exact h.apart g hg (by simp [obs_mem.2 e])
      · omega
    · rcases List.mem_append.1 hm with hm | hm
      · exact h.apart g hg (by simp [hm])
      · have := hF g hm; omega
theorem ClAt.shut (h : ClAt W wr Ba Br N kd bb t lst ks ls vk vl xs G) : JAt wr N (.mk kd bb t ks ls) [.int .i8 kd, .bool bb, .string t, vk, vl] (obs vk ++ (obs vl ++ G)) := by
  obtain ⟨h1, h2, h3⟩ := h.rows
  unfold JAt
  refine ⟨vk, vl, xs, G, rfl, h.keys, h1, h2, rfl, ?_⟩
  rw [List.nodup_append]
  refine ⟨by unfold obs; cases vk.ownBlock <;> simp, h3, fun a ha c hc e => ?_⟩
  subst e
  exact h.apart a (obs_mem.1 ha) hc
end
def CloneIs (w0 : World) (j : J) : Prop := ∀ (cs : List Value) (w : World), JR w0 j cs → JAll (JSz 1000000) j → Below w0.heap.size w0 w → Calls Tryz.prog 17 #[.agg cs.toArray] w (CopyPost j w)
set_option maxHeartbeats 12800000 in
set_option maxRecDepth 100000 in
theorem clone_step (w0 : World) (kd : Int) (bb : Bool) (t : ByteArray) (ks : List ByteArray) (ls : List J) (IH : ∀ x ∈ ls, CloneIs w0 x) : CloneIs w0 (.mk kd bb t ks ls) := by
  intro cs w hj hsz hb
  unfold JR at hj
  obtain ⟨A1, c1, B1, d1, rfl, hkc1, hlc1, hA1, hB1⟩ := hj
  unfold JAll at hsz
  obtain ⟨⟨hts, hkl, hll, hks⟩, hall⟩ := hsz
  simp only [J.tx, J.ks, J.ls] at hts hkl hll hks
  have IH := Lib.hid IH
  have HB1 := Lib.hid hB1
  have HAll := Lib.hid hall
  have Hb := Lib.hid hb
  have HA1 := Lib.hid hA1
  clear hB1 hall hb hks hts hkc1 hlc1 hA1
  go_enter Tryz.func17, Tryz.ntmps17
  go_upto_region 1 with (first
    | (have _ := w1; refine wpList_alloc_abs rfl 26 rfl zero5 _ (zero29 _) rfl ?_; intro w2 hr2 hg2 hs2; simp only [Act.put, List.setIfInBounds_toArray, List.set_cons_zero, List.set_cons_succ])
    | (refine wpList_box_abs rfl 26 (.tmp 0) rfl [.int .i8 kd, .bool bb, .string t, .slice A1 ks.length c1, .slice B1 ls.length d1] rfl ?_; intro w1 hr1 hg1 hs1; simp only [Act.put, List.setIfInBounds_toArray, List.set_cons_zero, List.set_cons_succ]))
  obtain ⟨Ba, ha⟩ : ∃ x, w.heap.size = x := ⟨_, rfl⟩
  obtain ⟨Br, hbr⟩ : ∃ x, w1.heap.size = x := ⟨_, rfl⟩
  rw [ha] at hr1 ⊢
  rw [hbr] at hr2 ⊢
  have HD : Hid (w.heap.size = Ba ∧ Ba < Br ∧ w2.heap.size = Br + 1) := Lib.hid ⟨ha, by omega, by omega⟩
  have HG2 : Hid (w.grownBy w2 none) := Lib.hid (grown_own hg1 hg2 (by simp))
  have HX2 : Hid (Row w2 Ba 26 [.int .i8 kd, .bool bb, .string t, .slice A1 ks.length c1, .slice B1 ls.length d1]) := Lib.hid (hr1.grown hg2 (by simp))
  have HR2 := Lib.hid hr2
  have c3 := HX2.out.at_ (j := 3) rfl
  have hA2 : StrAt w2 A1 ks := HA1.out.below (grown_below0 Hb.out HG2.out (by simp))
  have HA2 := Lib.hid hA2
  have hN2 : Br + 1 ≤ w2.heap.size := by have := HD.out; omega
  clear ha hbr hr1 hr2 hg1 hg2 hs1 hs2 hA2
  go_upto_region 2 with (refine wpList_append9_nil rfl (.const (.slice none 0 0)) (.tmp 7) rfl (Br + 1) rfl A1 c1 ks rfl HA2.out (by omega) hN2 ?_
                         intro vk w6 ho6 hg6
                         have HO6 := Lib.hid ho6; have HG6 := Lib.hid hg6; have HC6 := Lib.hid (HX2.out.grown hg6 (by simp))
                         have c6 := HC6.out.at_ (j := 3) rfl; have d6 := HC6.out.frozen 3
                         obtain ⟨Ak, ck, rfl, -, -⟩ := ownsRow_val ho6
                         clear ho6 hg6; simp only [Act.put, List.setIfInBounds_toArray, List.set_cons_zero, List.set_cons_succ])
  have HI : Hid (ClAt w (w6.setCell ⟨Ba, 3, none⟩ (.slice Ak ks.length ck)) Ba Br (Br + 1) kd bb t (.slice B1 ls.length d1) ks [] (.slice Ak ks.length ck) (.slice none 0 0) [] []) := Lib.hid (by
    have hd := HD.out
    have hgs : w6.grownBy (w6.setCell ⟨Ba, 3, none⟩ (.slice Ak ks.length ck)) (some Ba) := grown_set (grown_refl w6 (some Ba)) (.inl rfl) 3 _
    have hs6 := HG6.out.size
    exact ⟨HC6.out.set 3 _, (HR2.out.grown HG6.out (by simp)).grown hgs (by simp; omega), grown_own (grown_own HG2.out HG6.out (by simp)) hgs (fun i hi => .inr (by have := Option.some.inj hi; omega)), by simp; omega, rows_nil _ _, World.ownsRow.kept HO6.out hgs (own_ne HO6.out (by omega)), fun g hg hm => by simp [obs, Value.ownBlock] at hm⟩)
  have e4 := HI.out.arg.at_ (j := 4) rfl
  generalize hw7 : w6.setCell ⟨Ba, 3, none⟩ (.slice Ak ks.length ck) = w7 at HI e4 ⊢
  clear hw7 HC6 c6 d6 HO6 HG6 HX2 HR2 c3 hN2
  go_wp2_with fail
  go_loopw [3, 13] (fun v i wr => ∃ (L : List J) (xs : List Value) (G : List Nat), L.length ≤ ls.length ∧ i = .int .i64 (L.length : Int) ∧ Hid (L = ls.take L.length) ∧ Hid (ClAt w wr Ba Br (Br + 1) kd bb t (.slice B1 ls.length d1) ks L (.slice Ak ks.length ck) v xs G)) (fun _ i _ => ls.length - (intOf i).toNat)
  case atStart => exact ⟨[], _, _, by simp, rfl, Lib.hid rfl, HI⟩
  case round =>
    clear HI e4
    obtain ⟨L, xs, G, hi, rfl, HL, HC⟩ := hrel
    by_cases hlt : L.length < ls.length
    · obtain ⟨jv, hjv⟩ : ∃ jv, ls[L.length]? = some jv := ⟨_, List.getElem?_eq_getElem hlt⟩
      obtain ⟨m1, f1, cj, rfl, hJ1, hcx⟩ := HB1.out.get hjv
      obtain ⟨p0, p1, p2, p3, p4, rfl⟩ := five_of hJ1.five
      have hB := grown_below0 Hb.out HC.out.grown (by simp)
      have x0 : wr.cell? ⟨m1, f1 + L.length * 5, none⟩ = some p0 := by have := below_cell hB (hcx 0 _ rfl); rwa [show f1 + (0 + L.length * 5 + 0) = f1 + L.length * 5 by omega] at this
      have x1 : wr.cell? ⟨m1, f1 + L.length * 5 + 1, none⟩ = some p1 := by have := below_cell hB (hcx 1 _ rfl); rwa [show f1 + (0 + L.length * 5 + 1) = f1 + L.length * 5 + 1 by omega] at this
      have x2 : wr.cell? ⟨m1, f1 + L.length * 5 + 2, none⟩ = some p2 := by have := below_cell hB (hcx 2 _ rfl); rwa [show f1 + (0 + L.length * 5 + 2) = f1 + L.length * 5 + 2 by omega] at this
      have x3 : wr.cell? ⟨m1, f1 + L.length * 5 + 3, none⟩ = some p3 := by have := below_cell hB (hcx 3 _ rfl); rwa [show f1 + (0 + L.length * 5 + 3) = f1 + L.length * 5 + 3 by omega] at this
      have x4 : wr.cell? ⟨m1, f1 + L.length * 5 + 4, none⟩ = some p4 := by have := below_cell hB (hcx 4 _ rfl); rwa [show f1 + (0 + L.length * 5 + 4) = f1 + L.length * 5 + 4 by omega] at this
      have e1 : (L.length : Int) < (ls.length : Int) := by omega
      have Htk : Hid (L ++ [jv] = ls.take (L ++ [jv]).length) := Lib.hid (by rw [List.length_append, List.length_singleton, List.take_add_one, hjv, ← HL.out]; rfl)
      have Hcell : Hid (∀ v ∈ [p0, p1, p2, p3, p4], v.oneCell' = true) := Lib.hid hJ1.cells
      have HJ1 := Lib.hid hJ1
      have HIH := Lib.hid (IH.out jv (List.mem_of_getElem? hjv))
      have HAj := Lib.hid (HAll.out.get hjv)
      have HBb := Lib.hid hB
      obtain ⟨B5, d5, rfl, -, -⟩ := ownsRow_val HC.out.rows.1
      have hln : L.length ≤ 1073741824 := by omega
      clear hJ1 hcx hB hjv
      go_wp2_with (first
        | (have _ := w4; refine wpList_append29 rfl (.tmp 17) (.tmp 20) rfl (Br + 1) (.slice B5 L.length d5) L.length xs rfl (HC3.out.quiet hg4).rows.1 w3.heap.size [q0, q1, q2, q3, q4] rfl hr4 HJ3.out.five.1 HJ3.out.cells hln (Nat.le_trans HC3.out.big hg4.size) ?_
           intro v5 w5 ho5 hg5 hl5
           have Hst := Lib.hid (HC.out.step HG3.out HJ3.out hg4 ho5 hg5 hl5 HD.out.2.1 (Nat.lt_succ_self Br) (Nat.le_of_eq HD.out.1))
           clear ho5 hg5 hl5; simp only [Act.put, List.setIfInBounds_toArray, List.set_cons_zero, List.set_cons_succ])
        | (have _ := w3; refine wpList_build29 rfl (.tmp 19) rfl [q0, q1, q2, q3, q4] rfl rfl ?_; intro w4 hr4 hg4; simp only [Act.put, List.setIfInBounds_toArray, List.set_cons_zero, List.set_cons_succ])
        | (go_at_call 17; refine (HIH.out [p0, p1, p2, p3, p4] w2 HJ1.out HAj.out (grown_below0 HBb.out HG2.out (by simp))).mono ?_
           rintro e w3 ⟨hg3, cs3, F3, rfl, hj3⟩
           obtain ⟨q0, q1, q2, q3, q4, rfl⟩ := five_of hj3.five.1
           have HG3 : Hid (wr.grownBy w3 none) := Lib.hid (grown_own HG2.out hg3 (by simp))
           have HJ3 : Hid (JAt w3 wr.heap.size jv [q0, q1, q2, q3, q4] F3) := Lib.hid (hj3.mono HG2.out.size)
           have HC3 := Lib.hid (HC.out.quiet HG3.out); clear hg3 hj3)
        | (have _ := w2; refine wpList_load_Row rfl 26 _ rfl wr.heap.size rfl [p0, p1, p2, p3, p4] 26 HV2.out _ Tryz.underlying26 rfl size29 ?_; simp only [Act.put, List.setIfInBounds_toArray, List.set_cons_zero, List.set_cons_succ])
        | (have _ := w1; refine wpList_store_Row rfl 26 _ _ rfl wr.heap.size [p0, p1, p2, p3, p4] rfl rfl 26 zero5 hr1 size29 rfl Hcell.out ?_; intro w2 hr2 hg2 hs2
           have HG2 : Hid (wr.grownBy w2 none) := Lib.hid (grown_own hg1 hg2 (fun i hi => .inr (by have := Option.some.inj hi; omega)))
           have HV2 := Lib.hid hr2; clear hr2 hg2 hs2 hr1 hg1 hs1; simp only [Act.put, List.setIfInBounds_toArray, List.set_cons_zero, List.set_cons_succ])
        | (refine wpList_alloc_abs rfl 26 rfl zero5 _ (zero29 _) rfl ?_; intro w1 hr1 hg1 hs1; simp only [Act.put, List.setIfInBounds_toArray, List.set_cons_zero, List.set_cons_succ]))
      go_roundw
      case rel => exact ⟨L ++ [jv], _, _, by simp; omega, by simp, Htk, Hst⟩
      case measure => simp [intOf]; omega
    · have e1 : ¬ (L.length : Int) < (ls.length : Int) := by omega
      have hLs : L = ls := by
        have h := HL.out
        rw [show L.length = ls.length by omega, List.take_length] at h
        exact h
      obtain ⟨B5, d5, rfl, -, -⟩ := ownsRow_val HC.out.rows.1
      have c4 := HC.out.arg.at_ (j := 4) rfl
      have f4 := HC.out.arg.frozen 4
      have HLs := Lib.hid hLs
      clear hLs hlt hi
      go_upto_region 9 with fail
      have HA9 : Hid (Row (wr.setCell ⟨Ba, 4, none⟩ (.slice B5 L.length d5)) Ba 26 [.int .i8 kd, .bool bb, .string t, .slice Ak ks.length ck, .slice B5 L.length d5]) := Lib.hid (HC.out.arg.set 4 _)
      have hgs : wr.grownBy (wr.setCell ⟨Ba, 4, none⟩ (.slice B5 L.length d5)) (some Ba) := grown_set (grown_refl wr (some Ba)) (.inl rfl) 4 _
      have HR9 := Lib.hid (HC.out.res.grown hgs (by have := HD.out; simp; omega))
      have HF := Lib.hid (HC.out.shut.kept hgs (fun g hg e => by have := HC.out.shut.lt g hg; have := Option.some.inj e; have := HD.out; omega))
      have HG9 : Hid (w.grownBy (wr.setCell ⟨Ba, 4, none⟩ (.slice B5 L.length d5)) none) := Lib.hid (grown_own HC.out.grown hgs (fun i hi => .inr (by have := Option.some.inj hi; have := HD.out; omega)))
      generalize wr.setCell ⟨Ba, 4, none⟩ (.slice B5 L.length d5) = w8 at HA9 HR9 HF HG9 ⊢
      clear hgs c4 f4
      go_wp2_with (first
        | (have _ := HF; refine wpList_store_Row rfl 26 _ _ rfl Br [.int .i8 kd, .bool bb, .string t, .slice Ak ks.length ck, .slice B5 L.length d5] rfl rfl 26 zero5 HR9.out size29 rfl (by intro u hu; simp at hu; rcases hu with rfl | rfl | rfl | rfl | rfl <;> rfl) ?_; intro w9 hr9 hg9 hs9; simp only [Act.put, List.setIfInBounds_toArray, List.set_cons_zero, List.set_cons_succ])
        | (refine wpList_load_Row rfl 26 _ rfl Ba rfl [.int .i8 kd, .bool bb, .string t, .slice Ak ks.length ck, .slice B5 L.length d5] 26 HA9.out _ Tryz.underlying26 rfl size29 ?_; simp only [Act.put, List.setIfInBounds_toArray, List.set_cons_zero, List.set_cons_succ]))
      have hr10 : Row w9 Br 26 (J5 kd bb t (.slice Ak ks.length ck) (.slice B5 L.length d5)) := hr9
      refine bodyPost_ret (v := .agg (J5 kd bb t (.slice Ak ks.length ck) (.slice B5 L.length d5)).toArray) (results_cell_row (p := 2) (ty := 26) rfl _ _ Br 26 (J5 kd bb t (.slice Ak ks.length ck) (.slice B5 L.length d5)).toArray (0, 0) _ rfl hr10 Tryz.underlying26 rfl size29) rfl ?_
      refine ⟨grown_own HG9.out hg9 (fun i hi => .inr (by have := HD.out; have := Option.some.inj hi; omega)), _, obs (.slice Ak ks.length ck) ++ (obs (.slice B5 L.length d5) ++ G), rfl, ?_⟩
      rw [← HLs.out]
      refine JAt.mono (lo := Br + 1) (by have := HD.out; omega) (HF.out.kept hg9 (fun g hg e => ?_))
      have := HF.out.lt g hg
      have := Option.some.inj e
      have := HD.out
      omega
mutual
theorem clone_any (w0 : World) : ∀ j : J, CloneIs w0 j
  | .mk kd b t ks ls => clone_step w0 kd b t ks ls (clones_any w0 ls)
theorem clones_any (w0 : World) : ∀ ls : List J, ∀ x ∈ ls, CloneIs w0 x
  | [], x, h => absurd h (by simp)
  | j :: js, x, h => by
    rcases List.mem_cons.1 h with e | e
    · rw [e]; exact clone_any w0 j
    · exact clones_any w0 js x e
end
end Go.Proofs.YtlbilofnbhhmjaaGreatDoor
