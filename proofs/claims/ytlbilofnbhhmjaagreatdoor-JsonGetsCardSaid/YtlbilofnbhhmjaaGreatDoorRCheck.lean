/- The reference's shape, Number and within: what they compute. Conditions: the value is read where it lies, its texts have room. -/
import Derived.Test.YtlbilofnbhhmjaaGreatDoorCheck
import Derived.Test.YtlbilofnbhhmjaaGreatDoorRWhole
import Derived.Test.YtlbilofnbhhmjaaGreatDoorPText
import Derived.Test.YtlbilofnbhhmjaaGreatDoorSort
namespace Go.Proofs.YtlbilofnbhhmjaaGreatDoor
open Go.RowKit
set_option linter.unusedVariables false
set_option linter.unusedSimpArgs false
theorem cast_beq (n m : Nat) : ((n : Int) == (m : Int)) = (n == m) := by
  rw [Bool.eq_iff_iff]; simp; omega
set_option maxHeartbeats 6400000 in
set_option maxRecDepth 100000 in
theorem rshape_any (kd : Int) (b : Bool) (t : ByteArray) (A B : Option Addr) (n c m d : Nat) (w : World) :
    Calls Tryz.prog 52 #[.agg #[.int .i8 kd, .bool b, .string t, .slice A n c, .slice B m d]] w fun e w' => e = .returned (.bool (shapeV kd b t n m)) ∧ w.grownBy w' none := by
  obtain ⟨V, hV⟩ : ∃ V, shapeV kd b t n m = V := ⟨_, rfl⟩
  rw [hV]
  have HV := Lib.hid hV
  clear hV
  have hu29 := Tryz.underlying26
  by_cases h0 : kd = 0
  · subst h0
    go_enter Tryz.func52, Tryz.ntmps52
    go_wp2
    all_goals go_ret
    all_goals refine ⟨ret_bool ?_, by first | exact grown_alloc (grown_refl _ _) _ | exact grown_set (grown_alloc (grown_refl _ _) _) (.inr (by simp)) _ _⟩
    all_goals (rw [← HV.out]; clear HV; first | (simp [shapeV, cast_beq0, cast_bne, cast_beq, *]; done) | exact sh5a (by assumption) (by assumption) | exact sh5b (by assumption) | (simp [shapeV, cast_beq0, cast_bne, cast_beq, *] at *; done) | (simp [shapeV, cast_beq0, cast_bne, cast_beq, *] at *; omega))
  by_cases h1 : kd = 1
  · subst h1
    go_enter Tryz.func52, Tryz.ntmps52
    go_wp2
    all_goals go_ret
    all_goals refine ⟨ret_bool ?_, by first | exact grown_alloc (grown_refl _ _) _ | exact grown_set (grown_alloc (grown_refl _ _) _) (.inr (by simp)) _ _⟩
    all_goals (rw [← HV.out]; clear HV; first | (simp [shapeV, cast_beq0, cast_bne, cast_beq, *]; done) | exact sh5a (by assumption) (by assumption) | exact sh5b (by assumption) | (simp [shapeV, cast_beq0, cast_bne, cast_beq, *] at *; done) | (simp [shapeV, cast_beq0, cast_bne, cast_beq, *] at *; omega))
  by_cases h2 : kd = 2
  · subst h2
    go_enter Tryz.func52, Tryz.ntmps52
    go_wp2
    all_goals go_ret
    all_goals refine ⟨ret_bool ?_, by first | exact grown_alloc (grown_refl _ _) _ | exact grown_set (grown_alloc (grown_refl _ _) _) (.inr (by simp)) _ _⟩
    all_goals (rw [← HV.out]; clear HV; first | (simp [shapeV, cast_beq0, cast_bne, cast_beq, *]; done) | exact sh5a (by assumption) (by assumption) | exact sh5b (by assumption) | (simp [shapeV, cast_beq0, cast_bne, cast_beq, *] at *; done) | (simp [shapeV, cast_beq0, cast_bne, cast_beq, *] at *; omega))
  by_cases h3 : kd = 3
  · subst h3
    go_enter Tryz.func52, Tryz.ntmps52
    go_wp2
    all_goals go_ret
    all_goals refine ⟨ret_bool ?_, by first | exact grown_alloc (grown_refl _ _) _ | exact grown_set (grown_alloc (grown_refl _ _) _) (.inr (by simp)) _ _⟩
    all_goals (rw [← HV.out]; clear HV; first | (simp [shapeV, cast_beq0, cast_bne, cast_beq, *]; done) | exact sh5a (by assumption) (by assumption) | exact sh5b (by assumption) | (simp [shapeV, cast_beq0, cast_bne, cast_beq, *] at *; done) | (simp [shapeV, cast_beq0, cast_bne, cast_beq, *] at *; omega))
  by_cases h4 : kd = 4
  · subst h4
    go_enter Tryz.func52, Tryz.ntmps52
    go_wp2
    all_goals go_ret
    all_goals refine ⟨ret_bool ?_, by first | exact grown_alloc (grown_refl _ _) _ | exact grown_set (grown_alloc (grown_refl _ _) _) (.inr (by simp)) _ _⟩
    all_goals (rw [← HV.out]; clear HV; first | (simp [shapeV, cast_beq0, cast_bne, cast_beq, *]; done) | exact sh5a (by assumption) (by assumption) | exact sh5b (by assumption) | (simp [shapeV, cast_beq0, cast_bne, cast_beq, *] at *; done) | (simp [shapeV, cast_beq0, cast_bne, cast_beq, *] at *; omega))
  by_cases h5 : kd = 5
  · subst h5
    go_enter Tryz.func52, Tryz.ntmps52
    go_wp2
    all_goals go_ret
    all_goals refine ⟨ret_bool ?_, by first | exact grown_alloc (grown_refl _ _) _ | exact grown_set (grown_alloc (grown_refl _ _) _) (.inr (by simp)) _ _⟩
    all_goals (rw [← HV.out]; clear HV; first | (simp [shapeV, cast_beq0, cast_bne, cast_beq, *]; done) | exact sh5a (by assumption) (by assumption) | exact sh5b (by assumption) | (simp [shapeV, cast_beq0, cast_bne, cast_beq, *] at *; done) | (simp [shapeV, cast_beq0, cast_bne, cast_beq, *] at *; omega))
  · have HE : Hid (V = false) := Lib.hid (by rw [← HV.out]; simp [shapeV, h0, h1, h2, h3, h4, h5])
    have hk : kd < 0 ∨ 5 < kd := by omega
    clear h0 h1 h2 h3 h4 h5
    rcases hk with hk | hk
    · go_enter Tryz.func52, Tryz.ntmps52
      go_wp2
      all_goals go_ret
      all_goals refine ⟨ret_bool HE.out.symm, by first | exact grown_alloc (grown_refl _ _) _ | exact grown_set (grown_alloc (grown_refl _ _) _) (.inr (by simp)) _ _⟩
    · have hk0 : ¬ kd < 0 := by omega
      go_enter Tryz.func52, Tryz.ntmps52
      go_wp2
      all_goals go_ret
      all_goals refine ⟨ret_bool HE.out.symm, by first | exact grown_alloc (grown_refl _ _) _ | exact grown_set (grown_alloc (grown_refl _ _) _) (.inr (by simp)) _ _⟩
set_option maxHeartbeats 3200000 in
set_option maxRecDepth 100000 in
theorem rutf_any (s : ByteArray) (w : World) (hs : s.size ≤ 1099511627776) : Calls Tryz.prog 53 #[.string s] w fun e w' => e = .returned (.bool (utfFrom s 0)) ∧ w = w' := by
  obtain ⟨U, hU⟩ : ∃ u, utfFrom s 0 = u := ⟨_, rfl⟩
  rw [hU]
  have HU := Lib.hid hU
  clear hU
  go_enter Tryz.func53, Tryz.ntmps53
  go_wp2_with fail
  go_loop [3] (fun v => ∃ i : Nat, i ≤ s.size ∧ v = .int .i64 (i : Int) ∧ Hid (utfFrom s i = U)) (fun v => s.size - (intOf v).toNat)
  case atStart => exact ⟨0, by omega, rfl, HU⟩
  case round =>
    obtain ⟨i, hi, rfl, HI⟩ := hrel
    by_cases hlt : i < s.size
    · have hst := utfFrom_step hlt
      have hw := rune_spec hlt
      obtain ⟨W, hW⟩ : ∃ x, wholeAt s i = x := ⟨_, rfl⟩
      rw [hW] at hst hw
      have hw2 : W = 0 ∨ (0 < W ∧ i + W ≤ s.size) := by
        rcases hw with h | h
        · exact .inl h.1
        · exact .inr ⟨h.1, h.2.2.2.1⟩
      have HW := Lib.hid hW
      have Hst := Lib.hid hst
      have e1 : (i : Int) < (s.size : Int) := by omega
      clear hw hW hst
      by_cases h0 : W = 0
      · subst h0
        go_wp2_with (go_at_call 78; refine (rwhole_any i s w (by omega) (by omega)).mono ?_; rw [HW.out]; rintro e w' ⟨rfl, rfl⟩)
        go_ret
        rw [← HI.out, Hst.out]
        exact ⟨rfl, rfl⟩
      · have hpos : 0 < W := by omega
        have hle : i + W ≤ s.size := by omega
        have e2 : ((W : Int) == 0) = false := by simpa using h0
        have HN : Hid (utfFrom s (i + W) = U) := Lib.hid (by rw [← HI.out, Hst.out, if_neg h0])
        clear hw2 h0
        go_wp2_with (go_at_call 78; refine (rwhole_any i s w (by omega) (by omega)).mono ?_; rw [HW.out]; rintro e w' ⟨rfl, rfl⟩)
        go_round
        case rel => exact ⟨i + W, hle, by go_num, HN⟩
        case measure => simp [intOf]; omega
    · have e1 : ¬ (i : Int) < (s.size : Int) := by omega
      have HF : Hid (U = true) := Lib.hid (by rw [← HI.out]; exact utfFrom_end (by omega))
      go_wp2_with fail
      go_ret
      rw [HF.out]
      exact ⟨rfl, rfl⟩
theorem numP_numB (s : ByteArray) : numB s = ((numP (num s 0)).2 && ((numP (num s 0)).1 == (s.size : Int))) := by
  unfold numB
  cases num s 0 with
  | ok a j => simp [numV, numP]
  | no j e => simp only [numV, numP, Bool.false_and]; simp; omega
set_option maxHeartbeats 3200000 in
theorem rNumber_any (s : ByteArray) (w : World) (hs : s.size ≤ 1099511627776) : Calls Tryz.prog 24 #[.string s] w fun e w' => e = .returned (.bool (numB s)) ∧ w = w' := by
  rw [numP_numB]
  have hn := rnumber_any 0 s w hs (Nat.zero_le _)
  obtain ⟨P, hP⟩ : ∃ P, numP (num s 0) = P := ⟨_, rfl⟩
  rw [hP] at hn ⊢
  obtain ⟨a, b⟩ := P
  have Hn : Hid (Calls Tryz.prog 40 #[.string s, .int .i64 0] w fun e w' => e = .returned (.tuple #[.int .i64 a, .bool b]) ∧ w = w') := Lib.hid hn
  clear hn hP
  cases b with
  | false =>
    go_enter Tryz.func24, Tryz.ntmps24
    go_wp2_with (go_at_call 40; refine Hn.out.mono ?_; rintro e w' ⟨rfl, rfl⟩)
    go_ret
    exact ⟨rfl, rfl⟩
  | true =>
    go_enter Tryz.func24, Tryz.ntmps24
    go_wp2_with (go_at_call 40; refine Hn.out.mono ?_; rintro e w' ⟨rfl, rfl⟩)
    all_goals go_ret
    all_goals exact ⟨rfl, rfl⟩
def WiPost (r : Int × Int) (w : World) (e : Ending) (w' : World) : Prop := e = .returned (.tuple #[.int .i64 r.2, .int .i64 r.1]) ∧ w.grownBy w' none
/-- The argument's box, what has grown. -/
structure WiAt (w0 w wr : World) (Bb : Nat) (cs : List Value) : Prop where
  box : Row wr Bb 26 cs
  grown : w.grownBy wr none
  below : Below w0.heap.size w0 wr
theorem WiAt.keep {w0 w wr w2 : World} {Bb : Nat} {cs : List Value} (h : WiAt w0 w wr Bb cs) (hg : wr.grownBy w2 none) : WiAt w0 w w2 Bb cs :=
  ⟨h.box.grown hg (by simp), grown_own h.grown hg (by simp), grown_below0 h.below hg (by simp)⟩
def WiIs (w0 : World) (f : Nat) (j : J) (cs : List Value) (d n : Int) (w : World) : Prop := JR w0 j cs → JAll (JSz 1099511627776) j → Below w0.heap.size w0 w →
    0 ≤ n → n ≤ 8192 → 1 ≤ d → d ≤ 17 → 18 ≤ (f : Int) + d → Calls Tryz.prog 32 #[.agg cs.toArray, .int .i64 d, .int .i64 n] w (WiPost (checkJ f j d n) w)
set_option maxHeartbeats 12800000 in
set_option maxRecDepth 100000 in
theorem within_step (w0 : World) (f : Nat) (IH : ∀ (j : J) (cs : List Value) (d n : Int) (w : World), WiIs w0 f j cs d n w) (j : J) (cs : List Value) (d n : Int) (w : World) : WiIs w0 (f + 1) j cs d n w := by
    obtain ⟨kd, bb, t, ks, ls⟩ := j
    intro hj hsz hb hn0 hn1 hd0 hd1 hf
    have IH := Lib.hid IH
    obtain ⟨RES, hR⟩ : ∃ r, checkJ (f + 1) (.mk kd bb t ks ls) d n = r := ⟨_, rfl⟩
    rw [hR]
    unfold JR at hj
    obtain ⟨A, c, B, dd, rfl, hkc, hlc, hA, hB⟩ := hj
    unfold JAll at hsz
    obtain ⟨⟨hts, hkl, hll, hks⟩, hall⟩ := hsz
    simp only [J.tx, J.ks, J.ls] at hts hkl hll hks
    have HRV : Hid ((if checkV (.mk kd bb t ks ls) d (n + 1) ≠ 0 then (checkV (.mk kd bb t ks ls) d (n + 1), n + 1) else checkItems (fun v m => checkJ f v (d + 1) m) (decide (kd = 5)) ks 0 ls (n + 1)) = RES) := Lib.hid (by rw [← hR]; rfl)
    have HA := Lib.hid hA
    have HB := Lib.hid hB
    have HKS := Lib.hid hks
    have HAll := Lib.hid hall
    have Hb := Lib.hid hb
    have Hf := Lib.hid hf
    obtain ⟨cs, hcs⟩ : ∃ cs : List Value, [Value.int .i8 kd, .bool bb, .string t, .slice A ks.length c, .slice B ls.length dd] = cs := ⟨_, rfl⟩
    have Hcs := Lib.hid hcs
    have hcz : cs.length = 5 := by rw [← hcs]; rfl
    rw [hcs]
    have hsh : Hid (∀ W, Calls Tryz.prog 52 #[.agg cs.toArray] W fun e w' => e = .returned (.bool (shapeV kd bb t ks.length ls.length)) ∧ W.grownBy w' none) := Lib.hid (fun W => by rw [← Hcs.out]; exact rshape_any kd bb t A B ks.length c ls.length dd W)
    clear hR hA hB hks hall hb hf hkc hlc hcs
    go_enter Tryz.func32, Tryz.ntmps32
    go_upto_region 2 with (refine wpList_box_abs rfl 26 (.tmp 0) rfl cs rfl ?_; intro w1 hr1 hg1 hs1; simp only [Act.put, List.setIfInBounds_toArray, List.set_cons_zero, List.set_cons_succ])
    obtain ⟨Bb, hBb⟩ : ∃ x, w.heap.size = x := ⟨_, rfl⟩
    have HW1 : Hid (WiAt w0 w w1 Bb cs) := Lib.hid ⟨by rw [← hBb]; exact hr1, hg1, grown_below0 Hb.out hg1 (by simp)⟩
    rw [hBb]
    obtain ⟨n1, hn⟩ : ∃ m, n + 1 = m := ⟨_, rfl⟩
    rw [hn] at HRV ⊢
    have hm0 : 1 ≤ n1 := by omega
    have hm1 : n1 ≤ 8193 := by omega
    have Hn := Lib.hid hn
    have HbB := Lib.hid hBb
    clear hn hr1 hg1 hs1 hBb
    by_cases h1 : 8192 < n1
    · have HE : Hid (RES = (3, n1)) := Lib.hid (by
        have hv : checkV (.mk kd bb t ks ls) d n1 = 3 := by unfold checkV; simp only [J.kd, J.bl, J.tx, J.ks, J.ls]; rw [if_pos h1]
        rw [← HRV.out, hv]; rfl)
      go_wp2_with fail
      go_ret2
      rw [HE.out]
      exact ⟨rfl, HW1.out.grown⟩
    by_cases h2 : 16 < d
    · have HE : Hid (RES = (133, n1)) := Lib.hid (by
        have hv : checkV (.mk kd bb t ks ls) d n1 = 133 := by unfold checkV; simp only [J.kd, J.bl, J.tx, J.ks, J.ls]; rw [if_neg h1, if_pos h2]
        rw [← HRV.out, hv]; rfl)
      go_wp2_with fail
      go_ret2
      rw [HE.out]
      exact ⟨rfl, HW1.out.grown⟩
    obtain ⟨SH, hS⟩ : ∃ b, shapeV kd bb t ks.length ls.length = b := ⟨_, rfl⟩
    rw [hS] at hsh
    cases SH with
    | false =>
      have HE : Hid (RES = (134, n1)) := Lib.hid (by
        have hv : checkV (.mk kd bb t ks ls) d n1 = 134 := by unfold checkV; simp only [J.kd, J.bl, J.tx, J.ks, J.ls]; simp [h1, h2, hS]
        rw [← HRV.out, hv]; rfl)
      clear hS
      go_wp2_with (first
        | (go_at_call 52; refine (hsh.out w1).mono ?_; rintro e w3 ⟨rfl, hg3⟩; have HW3 := Lib.hid (HW1.out.keep hg3); clear hg3)
        | (refine wpList_load_Row rfl 26 _ rfl Bb rfl cs 26 HW1.out.box _ Tryz.underlying26 rfl (by rw [hcz]; exact size29) ?_; simp only [Act.put, List.setIfInBounds_toArray, List.set_cons_zero, List.set_cons_succ]))
      go_ret2
      rw [HE.out]
      exact ⟨rfl, HW3.out.grown⟩
    | true =>
    have HS := Lib.hid hS
    clear hS
    go_upto_region 8 with (first
        | (go_at_call 52; refine (hsh.out w1).mono ?_; rintro e w3 ⟨rfl, hg3⟩; have HW3 := Lib.hid (HW1.out.keep hg3); clear hg3)
        | (refine wpList_load_Row rfl 26 _ rfl Bb rfl cs 26 HW1.out.box _ Tryz.underlying26 rfl (by rw [hcz]; exact size29) ?_; simp only [Act.put, List.setIfInBounds_toArray, List.set_cons_zero, List.set_cons_succ]))
    have cl : w3.cell? ⟨Bb, 4, none⟩ = some (.slice B ls.length dd) := HW3.out.box.at_ (by rw [← Hcs.out]; rfl)
    by_cases h4 : 256 < ls.length
    · have HE : Hid (RES = (3, n1)) := Lib.hid (by
        have hv : checkV (.mk kd bb t ks ls) d n1 = 3 := by unfold checkV; simp only [J.kd, J.bl, J.tx, J.ks, J.ls]; simp [h1, h2, HS.out, h4]
        rw [← HRV.out, hv]; rfl)
      go_wp2_with fail
      go_ret2
      rw [HE.out]
      exact ⟨rfl, HW3.out.grown⟩
    have hcv : Hid (checkV (.mk kd bb t ks ls) d n1 = if kd = 2 ∧ numB t = false then 130 else if kd = 3 ∧ validB t = false then 131 else 0) := Lib.hid (by
      show (if 8192 < n1 then 3 else if 16 < d then 133 else if shapeV kd bb t ks.length ls.length = false then 134 else if 256 < ls.length then 3 else if kd = 2 ∧ numB t = false then 130 else if kd = 3 ∧ validB t = false then 131 else 0) = _
      rw [if_neg (by omega), if_neg (by omega), HS.out, if_neg (by simp), if_neg h4])
    have d4 : decide ((256 : Int) < (ls.length : Int)) = false := by simp; omega
    go_upto_region 10 with fail
    have ck : w3.cell? ⟨Bb, 0, none⟩ = some (.int .i8 kd) := HW3.out.box.at_ (by rw [← Hcs.out]; rfl)
    have ct : w3.cell? ⟨Bb, 2, none⟩ = some (.string t) := HW3.out.box.at_ (by rw [← Hcs.out]; rfl)
    clear cl
    have NUM : Hid (Calls Tryz.prog 24 #[.string t] w3 fun e w' => e = .returned (.bool (numB t)) ∧ w3 = w') := Lib.hid (rNumber_any t w3 hts)
    have UTF : Hid (Calls Tryz.prog 53 #[.string t] w3 fun e w' => e = .returned (.bool (validB t)) ∧ w3 = w') := Lib.hid (by have := rutf_any t w3 hts; unfold utfFrom at this; rwa [List.drop_zero] at this)
    obtain ⟨NB, hNB⟩ : ∃ b, numB t = b := ⟨_, rfl⟩
    obtain ⟨VB, hVB⟩ : ∃ b, validB t = b := ⟨_, rfl⟩
    rw [hNB] at NUM hcv
    rw [hVB] at UTF hcv
    clear hNB hVB
    by_cases bad2 : kd = 2 ∧ NB = false
    · have HE : Hid (RES = (130, n1)) := Lib.hid (by rw [← HRV.out, hcv.out, if_pos bad2]; rfl)
      obtain ⟨k2, rfl⟩ := bad2
      have b2 : (kd == 2) = true := by simpa using k2
      have K2 := Lib.hid k2
      clear k2
      go_wp2_with (go_at_call 24; refine NUM.out.mono ?_; rintro e w4 ⟨rfl, rfl⟩)
      go_ret2
      rw [HE.out]
      exact ⟨rfl, HW3.out.grown⟩
    by_cases bad3 : kd = 3 ∧ VB = false
    · have HE : Hid (RES = (131, n1)) := Lib.hid (by rw [← HRV.out, hcv.out, if_neg bad2, if_pos bad3]; rfl)
      obtain ⟨k2, rfl⟩ := bad3
      have b2 : (kd == 2) = false := by rw [k2]; rfl
      have b3 : (kd == 3) = true := by simpa using k2
      have K2 := Lib.hid k2
      clear k2 bad2
      go_wp2_with (go_at_call 53; refine UTF.out.mono ?_; rintro e w4 ⟨rfl, rfl⟩)
      go_ret2
      rw [HE.out]
      exact ⟨rfl, HW3.out.grown⟩
    have HV0 : Hid (checkV (.mk kd bb t ks ls) d n1 = 0) := Lib.hid (by rw [hcv.out, if_neg bad2, if_neg bad3])
    have key : ((kd == 2) = true ∧ (kd == 3) = false ∧ NB = true) ∨ ((kd == 2) = false ∧ (kd == 3) = true ∧ VB = true) ∨ ((kd == 2) = false ∧ (kd == 3) = false) := by
      by_cases k2 : kd = 2
      · left; subst k2; cases NB <;> simp_all
      · by_cases k3 : kd = 3
        · right; left; subst k3; cases VB <;> simp_all
        · right; right; simp [k2, k3]
    clear bad2 bad3 hcv
    have HK : Hid (checkItems (fun v m => checkJ f v (d + 1) m) (decide (kd = 5)) ks 0 ls n1 = RES) := Lib.hid (by rw [← HRV.out, HV0.out]; rfl)
    have hn8 : n1 ≤ 8192 := by omega
    have hd16 : d ≤ 16 := by omega
    clear HRV HV0 HW1 h1 h2 h4 hm1
    rcases key with ⟨b2, b3, rfl⟩ | ⟨b2, b3, rfl⟩ | ⟨b2, b3⟩
    all_goals
      go_upto_region 14 with (first | (go_at_call 24; refine NUM.out.mono ?_; rintro e w4 ⟨rfl, rfl⟩) | (go_at_call 53; refine UTF.out.mono ?_; rintro e w4 ⟨rfl, rfl⟩))
      clear ck ct b2 b3 NUM UTF d4
      go_wp2_with fail
      go_loopw [2, 8] (fun u v wr => ∃ (i : Nat) (nn : Int), i ≤ ls.length ∧ v = .int .i64 i ∧ u = .int .i64 nn ∧ 1 ≤ nn ∧ nn ≤ 8192 ∧ Hid (WiAt w0 w wr Bb cs) ∧ Hid (checkItems (fun v m => checkJ f v (d + 1) m) (decide (kd = 5)) ks i (ls.drop i) nn = RES)) (fun _ v _ => ls.length - (intOf v).toNat)
      case atStart => exact ⟨0, n1, by omega, rfl, rfl, hm0, hn8, HW3, HK⟩
      case round =>
        obtain ⟨i, nn, hi, rfl, rfl, hnn0, hnn1, HW, HI⟩ := hrel
        clear HK HW3
        have cl : wr.cell? ⟨Bb, 4, none⟩ = some (.slice B ls.length dd) := HW.out.box.at_ (by rw [← Hcs.out]; rfl)
        have ck : wr.cell? ⟨Bb, 0, none⟩ = some (.int .i8 kd) := HW.out.box.at_ (by rw [← Hcs.out]; rfl)
        have ca : wr.cell? ⟨Bb, 3, none⟩ = some (.slice A ks.length c) := HW.out.box.at_ (by rw [← Hcs.out]; rfl)
        by_cases hlt : i < ls.length
        · have e1 : (i : Int) < (ls.length : Int) := by omega
          go_upto_if 58 with fail
          obtain ⟨jv, hjv⟩ : ∃ jv, ls[i]? = some jv := ⟨_, List.getElem?_eq_getElem hlt⟩
          have HI2 : Hid ((if checkK (decide (kd = 5)) ks i ≠ 0 then (checkK (decide (kd = 5)) ks i, nn) else if (checkJ f jv (d + 1) nn).1 ≠ 0 then checkJ f jv (d + 1) nn else checkItems (fun v m => checkJ f v (d + 1) m) (decide (kd = 5)) ks (i + 1) (ls.drop (i + 1)) (checkJ f jv (d + 1) nn).2) = RES) := Lib.hid (by
            rw [← HI.out, List.drop_eq_getElem_cons hlt]
            have : ls[i] = jv := by rw [List.getElem?_eq_getElem hlt] at hjv; exact Option.some.inj hjv
            rw [this]; rfl)
          have Hjv := Lib.hid hjv
          clear hjv HI
          go_cut [] (fun wx => Hid (WiAt w0 w wx Bb cs) ∧ Hid (checkK (decide (kd = 5)) ks i = 0))
          case first =>
            by_cases k5 : kd = 5
            · have b5 : (kd == 5) = true := by simpa using k5
              have hlen : ks.length = ls.length := by
                have := HS.out
                rw [k5] at this
                simp [shapeV] at this
                exact this.1.1
              obtain ⟨key, hkey⟩ : ∃ key, ks[i]? = some key := ⟨_, List.getElem?_eq_getElem (by omega)⟩
              obtain ⟨ab, ao, rfl, hac⟩ := HA.out (by omega)
              have hac2 : Hid (∀ W, Below w0.heap.size w0 W → ∀ k q, ks[k]? = some q → W.cell? ⟨ab, ao + k, none⟩ = some (.string q)) := Lib.hid (fun W hW k q hq => below_cell hW (hac k q hq))
              have ckey : wr.cell? ⟨ab, ao + i, none⟩ = some (.string key) := hac2.out wr HW.out.below i key hkey
              have hksz : key.size ≤ 1099511627776 := HKS.out key (List.mem_of_getElem? hkey)
              have hkd : ks.getD i ⟨#[]⟩ = key := by rw [List.getD_eq_getElem?_getD, hkey]; rfl
              have e3 : (i : Int) < (ks.length : Int) := by omega
              have hki : i < ks.length := by omega
              have HCK : Hid (checkK (decide (kd = 5)) ks i = if validB key = false then 131 else if (ks.take i).any (fun q => decide (q = key)) = true then 132 else 0) := Lib.hid (by unfold checkK; rw [hkd, show decide (kd = 5) = true by simpa using k5]; simp only [true_and])
              have Hkey := Lib.hid hkey
              have K5 := Lib.hid k5
              have Hlen := Lib.hid hlen
              clear hac hkey hkd k5 hlen
              cases hv : validB key with
              | false =>
                have HE : Hid (RES = (131, nn)) := Lib.hid (by rw [← HI2.out, HCK.out]; simp [hv])
                have H5 : Hid (utfFrom key 0 = false) := Lib.hid (by unfold utfFrom; rw [List.drop_zero]; exact hv)
                clear hv
                go_wp2_with (go_at_call 53; refine (rutf_any key wr hksz).mono ?_; rintro e w4 ⟨rfl, rfl⟩; rw [H5.out])
                go_ret2
                rw [HE.out]
                exact ⟨rfl, HW.out.grown⟩
              | true =>
                have H5 := Lib.hid (valid_utf hv)
                have Hv := Lib.hid hv
                clear hv
                go_upto_region 20 with (go_at_call 53; refine (rutf_any key wr hksz).mono ?_; rintro e w4 ⟨rfl, rfl⟩; rw [H5.out])
                clear cl ck ca ckey
                go_wp2_with fail
                go_loopw [9] (fun v wx => ∃ k : Nat, k ≤ i ∧ v = .int .i64 (k : Int) ∧ Hid (WiAt w0 w wx Bb cs) ∧ Hid ((ks.take k).any (fun q => decide (q = key)) = false)) (fun v _ => i - (intOf v).toNat)
                case atStart => exact ⟨0, by omega, rfl, HW, Lib.hid rfl⟩
                case round =>
                  obtain ⟨k, hk, rfl, HWx, HN⟩ := hrel
                  clear HW
                  by_cases hkl2 : k < i
                  · obtain ⟨q, hq⟩ : ∃ q, ks[k]? = some q := ⟨_, List.getElem?_eq_getElem (by omega)⟩
                    have ca : wr.cell? ⟨Bb, 3, none⟩ = some (.slice (some ⟨ab, ao, none⟩) ks.length c) := HWx.out.box.at_ (by rw [← Hcs.out]; rfl)
                    have c1 := hac2.out wr HWx.out.below k q hq
                    have c2 := hac2.out wr HWx.out.below i key Hkey.out
                    have e4 : (k : Int) < (i : Int) := by omega
                    have e5 : (k : Int) < (ks.length : Int) := by omega
                    have Hq := Lib.hid hq
                    clear hq
                    have HT1 : Hid ((ks.take (k + 1)).any (fun q => decide (q = key)) = decide (q = key)) := Lib.hid (by rw [List.take_add_one, Hq.out, List.any_append, HN.out]; simp)
                    cases hqk : decide (q = key) with
                    | true =>
                      have HE : Hid (RES = (132, nn)) := Lib.hid (by
                        have hany : (ks.take i).any (fun q => decide (q = key)) = true := List.any_eq_true.2 ⟨q, by
                          rw [List.mem_iff_getElem?]; exact ⟨k, by rw [List.getElem?_take, if_pos hkl2]; exact Hq.out⟩, hqk⟩
                        rw [← HI2.out, HCK.out, Hv.out, hany]; simp)
                      have hqe : q = key := by simpa using hqk
                      subst hqe
                      clear hqk
                      go_wp2_with fail
                      go_quiet (fail)
                      have HG := Lib.hid (HWx.out.keep (grown_drewN (grown_refl _ none) nq))
                      generalize hw : wr.drewN nq = w5 at HG
                      clear hw c1 c2 ca
                      go_wp2_with fail
                      go_ret2
                      rw [HE.out]
                      exact ⟨rfl, HG.out.grown⟩
                    | false =>
                      have hqe : ¬ q = key := by simpa using hqk
                      have hq2 : (q.toList == key.toList) = false := by rw [beq_eq_false_iff_ne]; exact fun h => hqe (toList_inj h)
                      rw [hqk] at HT1
                      go_wp2_with fail
                      go_quiet (fail)
                      have HG := Lib.hid (HWx.out.keep (grown_drewN (grown_refl _ none) nq))
                      generalize hw : wr.drewN nq = w5 at HG
                      clear hw c1 c2 ca
                      go_wp2_with fail
                      go_roundw
                      case rel => exact ⟨k + 1, by omega, by go_num, HG, HT1⟩
                      case measure => simp [intOf]; omega
                  · obtain rfl : k = i := by omega
                    go_wp2_with fail
                    go_meet
                    case rel => exact ⟨HWx, Lib.hid (by rw [HCK.out, Hv.out, HN.out]; simp)⟩
            · have b5 : (kd == 5) = false := by simpa using k5
              have K5 := Lib.hid k5
              clear k5
              go_wp2_with fail
              go_meet
              case rel => exact ⟨HW, Lib.hid (by unfold checkK; simp [K5.out])⟩
          case rest =>
          obtain ⟨HWc, HK0⟩ := hcut
          clear HW cl ck ca
          have cl : wc.cell? ⟨Bb, 4, none⟩ = some (.slice B ls.length dd) := HWc.out.box.at_ (by rw [← Hcs.out]; rfl)
          obtain ⟨b, fo, cj, rfl, hJ, hcell⟩ := HB.out.get Hjv.out
          obtain ⟨p0, p1, p2, p3, p4, rfl⟩ := five_of hJ.five
          have HJ := Lib.hid hJ
          have hB := HWc.out.below
          have q0 : wc.cell? ⟨b, fo + i * 5, none⟩ = some p0 := by have := below_cell hB (hcell 0 _ rfl); rwa [show fo + (0 + i * 5 + 0) = fo + i * 5 by omega] at this
          have q1 : wc.cell? ⟨b, fo + i * 5 + 1, none⟩ = some p1 := by have := below_cell hB (hcell 1 _ rfl); rwa [show fo + (0 + i * 5 + 1) = fo + i * 5 + 1 by omega] at this
          have q2 : wc.cell? ⟨b, fo + i * 5 + 2, none⟩ = some p2 := by have := below_cell hB (hcell 2 _ rfl); rwa [show fo + (0 + i * 5 + 2) = fo + i * 5 + 2 by omega] at this
          have q3 : wc.cell? ⟨b, fo + i * 5 + 3, none⟩ = some p3 := by have := below_cell hB (hcell 3 _ rfl); rwa [show fo + (0 + i * 5 + 3) = fo + i * 5 + 3 by omega] at this
          have q4 : wc.cell? ⟨b, fo + i * 5 + 4, none⟩ = some p4 := by have := below_cell hB (hcell 4 _ rfl); rwa [show fo + (0 + i * 5 + 4) = fo + i * 5 + 4 by omega] at this
          clear hJ hcell hB
          rw [HK0.out] at HI2
          simp only [ne_eq, not_true_eq_false, if_false] at HI2
          cases hres : checkJ f jv (d + 1) nn with
          | mk e5 n5 =>
          rw [hres] at HI2
          have Hres := Lib.hid hres
          clear hres
          by_cases he5 : e5 = 0
          · have hle := checkJ_le (f := f) (j := jv) (d := d + 1) (n := nn) (by omega) (by rw [Hres.out]; exact he5)
            rw [Hres.out] at hle
            obtain ⟨hle1, hle2⟩ := hle
            simp only at hle1 hle2
            have HI3 : Hid (checkItems (fun v m => checkJ f v (d + 1) m) (decide (kd = 5)) ks (i + 1) (ls.drop (i + 1)) n5 = RES) := Lib.hid (by rw [← HI2.out]; simp [he5])
            subst he5
            go_wp2_with (go_at_call 32; refine (IH.out jv [p0, p1, p2, p3, p4] (d + 1) nn wc HJ.out (HAll.out.get Hjv.out) HWc.out.below (by omega) (by omega) (by omega) (by omega) (by have := Hf.out; omega)).mono ?_; rw [Hres.out]; rintro e w5 ⟨rfl, hg5⟩; have HW5 := Lib.hid (HWc.out.keep hg5); clear hg5)
            go_roundw
            case rel => exact ⟨i + 1, n5, by omega, by go_num, rfl, by omega, by omega, HW5, HI3⟩
            case measure => simp [intOf]; omega
          · have HE : Hid (RES = (e5, n5)) := Lib.hid (by rw [← HI2.out]; simp [he5])
            have be5 : (e5 != 0) = true := by simpa using he5
            go_wp2_with (go_at_call 32; refine (IH.out jv [p0, p1, p2, p3, p4] (d + 1) nn wc HJ.out (HAll.out.get Hjv.out) HWc.out.below (by omega) (by omega) (by omega) (by omega) (by have := Hf.out; omega)).mono ?_; rw [Hres.out]; rintro e w5 ⟨rfl, hg5⟩; have HW5 := Lib.hid (HWc.out.keep hg5); clear hg5)
            go_ret2
            rw [HE.out]
            exact ⟨rfl, HW5.out.grown⟩
        · obtain rfl : i = ls.length := by omega
          have HE : Hid (RES = (0, nn)) := Lib.hid (by rw [← HI.out, List.drop_length]; rfl)
          go_wp2_with fail
          go_ret2
          rw [HE.out]
          exact ⟨rfl, HW.out.grown⟩
theorem within_any (w0 : World) : ∀ (f : Nat) (j : J) (cs : List Value) (d n : Int) (w : World), WiIs w0 f j cs d n w
  | 0, j, cs, d, n, w => fun _ _ _ _ _ _ hd1 hf => absurd hf (by omega)
  | f + 1, j, cs, d, n, w => within_step w0 f (within_any w0 f) j cs d n w
end Go.Proofs.YtlbilofnbhhmjaaGreatDoor
