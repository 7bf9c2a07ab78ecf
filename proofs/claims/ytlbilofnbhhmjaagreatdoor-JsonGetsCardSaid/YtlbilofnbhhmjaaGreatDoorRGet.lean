/- An object's member, the reference's way: it comes to the same member as json's Get. Condition: the value is not too great. -/
import Derived.Test.YtlbilofnbhhmjaaGreatDoorGet
namespace Go.Proofs.YtlbilofnbhhmjaaGreatDoor
open Go.RowKit
set_option linter.unusedVariables false
set_option linter.unusedSimpArgs false
set_option maxHeartbeats 6400000 in
set_option maxRecDepth 100000 in
theorem rget_any (j : J) (key : ByteArray) (cs : List Value) (w : World) (hj : JR w j cs) (hz : JAll (JSz 65536) j) (hroom : (checkJ 17 j 1 0).1 = 0 → (writeJ 17 j).length ≤ 16777216) :
    Calls Tryz.prog 8 #[.agg cs.toArray, .string key] w (GetPost (getJ j key) w) := by
  obtain ⟨kd, bb, t, ks, ls⟩ := j
  have hjo := hj
  unfold JR at hj
  obtain ⟨A1, c1, B1, d1, rfl, hkc1, hlc1, hA1, hB1⟩ := hj
  obtain ⟨E, hE⟩ : ∃ e, printE (.mk kd bb t ks ls) = e := ⟨_, rfl⟩
  have Hj := Lib.hid hjo
  have HA1 := Lib.hid hA1
  have HB1 := Lib.hid hB1
  have Hroom := Lib.hid hroom
  have HE := Lib.hid hE
  have Hz := Lib.hid hz
  have hkn : ks.length ≤ 65536 := by unfold JAll JSz at hz; exact hz.1.2.1
  have hln : ls.length ≤ 65536 := by unfold JAll JSz at hz; exact hz.1.2.2.1
  clear hjo hA1 hB1 hroom hE hz hkc1 hlc1
  go_enter Tryz.func8, Tryz.ntmps8
  go_upto_region 1 with (first
    | (have _ := w1; refine wpList_alloc_abs rfl 26 rfl zero5 _ (zero29 _) rfl ?_; intro w2 hr2 hg2 hs2; simp only [Act.put, List.setIfInBounds_toArray, List.set_cons_zero, List.set_cons_succ])
    | (refine wpList_box_abs rfl 26 (.tmp 0) rfl [.int .i8 kd, .bool bb, .string t, .slice A1 ks.length c1, .slice B1 ls.length d1] rfl ?_; intro w1 hr1 hg1 hs1; simp only [Act.put, List.setIfInBounds_toArray, List.set_cons_zero, List.set_cons_succ]))
  obtain ⟨Ba, ha⟩ : ∃ x, w.heap.size = x := ⟨_, rfl⟩
  obtain ⟨Br, hbr⟩ : ∃ x, w1.heap.size = x := ⟨_, rfl⟩
  rw [ha] at hr1 ⊢
  rw [hbr] at hr2 ⊢
  have HD : Hid (w.heap.size = Ba ∧ Ba < Br ∧ w2.heap.size = Br + 1) := Lib.hid ⟨ha, by omega, by omega⟩
  have HB2 := Lib.hid (below_of_grown (grown_own hg1 hg2 (by simp)))
  have HX2 : Hid (Row w2 Ba 26 [.int .i8 kd, .bool bb, .string t, .slice A1 ks.length c1, .slice B1 ls.length d1]) := Lib.hid (hr1.grown hg2 (by simp))
  have HR2 := Lib.hid hr2
  have Hfin : Hid (∀ w3 : World, Below w.heap.size w w3 → Row w3 Br 26 zero5 → getJ (.mk kd bb t ks ls) key = none → ∀ w4, w3.grownBy w4 (some Br) → GetPost (getJ (.mk kd bb t ks ls) key) w (.returned (.tuple #[.agg zero5.toArray, .bool false])) w4) := Lib.hid (fun w3 hb hr hn w4 hg => by
    rw [hn]
    exact ⟨grown_own (grown_of_below hb none) hg (fun i hi => .inr (by have := Option.some.inj hi; have := HD.out; omega)), zero5, [], rfl, zeroJ_at _ _⟩)
  clear ha hbr hr1 hr2 hg1 hg2 hs1 hs2
  by_cases hE0 : E = 0
  · subst hE0
    by_cases h5 : kd = 5
    · subst h5
      have hkl := print_len rfl HE.out
      have Hkl := Lib.hid hkl
      have Hget : Hid (getJ (.mk 5 bb t ks ls) key = findK key ks ls) := Lib.hid (by unfold getJ; rw [if_pos ⟨rfl, HE.out⟩]; rfl)
      clear hkl
      go_upto_region 3 with (first
       | (go_at_call 18; refine (rcheckP_any _ [.int .i8 5, .bool bb, .string t, .slice A1 ks.length c1, .slice B1 ls.length d1] w2 (Hj.out.below HB2.out) (Hz.out.imp (JSz.mono (by omega))) Hroom.out).mono ?_; rw [HE.out]; rintro e w3 ⟨rfl, hb3⟩; have HB3 := Lib.hid (below_trans2 HB2.out (below_of_grown hb3)); have HX3 := Lib.hid (HX2.out.grown hb3 (by simp)); have HR3 := Lib.hid (HR2.out.grown hb3 (by simp)); have c0 := HX3.out.at_ (j := 0) rfl; have c3 := HX3.out.at_ (j := 3) rfl; have c4 := HX3.out.at_ (j := 4) rfl; clear hb3)
       | (refine wpList_load_Row rfl 26 _ rfl Ba rfl [.int .i8 5, .bool bb, .string t, .slice A1 ks.length c1, .slice B1 ls.length d1] 26 HX2.out _ Tryz.underlying26 rfl size29 ?_; simp only [Act.put, List.setIfInBounds_toArray, List.set_cons_zero, List.set_cons_succ]))
      have HA3 := Lib.hid (HA1.out.below HB3.out)
      have HB13 := Lib.hid (HB1.out.below HB3.out)
      go_wp2_with fail
      go_loop [6] (fun v => ∃ i : Nat, i ≤ ks.length ∧ v = .int .i64 (i : Int) ∧ Hid (getJ (.mk 5 bb t ks ls) key = findK key (ks.drop i) (ls.drop i))) (fun v => ks.length - (intOf v).toNat)
      case atStart => exact ⟨0, by omega, rfl, by simpa using Hget⟩
      case round =>
        obtain ⟨i, hi, rfl, HI⟩ := hrel
        by_cases hlt : i < ks.length
        · obtain ⟨k, hk⟩ : ∃ k, ks[i]? = some k := ⟨_, List.getElem?_eq_getElem hlt⟩
          obtain ⟨l, hl⟩ : ∃ l, ls[i]? = some l := ⟨_, List.getElem?_eq_getElem (by have := Hkl.out; omega)⟩
          obtain ⟨b1, o1, rfl, hc1⟩ := HA3.out (by omega)
          have x1 := hc1 i k hk
          have HF := Lib.hid (findK_drop (key := key) hk hl)
          have Hl := Lib.hid hl
          have e1 : (i : Int) < (ks.length : Int) := by omega
          clear hc1 hk hl
          by_cases hkk : k = key
          · have e2 : (k.toList == key.toList) = true := by rw [str_eq_list]; simpa using hkk
            have HG : Hid (getJ (.mk 5 bb t ks ls) key = some l) := Lib.hid (by rw [HI.out, HF.out, if_pos hkk])
            obtain ⟨b2, o2, cl, rfl, hJl, hcx⟩ := HB13.out.get Hl.out
            obtain ⟨p0, p1, p2, p3, p4, rfl⟩ := five_of hJl.five
            have y0 : w3.cell? ⟨b2, o2 + i * 5, none⟩ = some p0 := by have := hcx 0 _ rfl; rwa [show o2 + (0 + i * 5 + 0) = o2 + i * 5 by omega] at this
            have y1 : w3.cell? ⟨b2, o2 + i * 5 + 1, none⟩ = some p1 := by have := hcx 1 _ rfl; rwa [show o2 + (0 + i * 5 + 1) = o2 + i * 5 + 1 by omega] at this
            have y2 : w3.cell? ⟨b2, o2 + i * 5 + 2, none⟩ = some p2 := by have := hcx 2 _ rfl; rwa [show o2 + (0 + i * 5 + 2) = o2 + i * 5 + 2 by omega] at this
            have y3 : w3.cell? ⟨b2, o2 + i * 5 + 3, none⟩ = some p3 := by have := hcx 3 _ rfl; rwa [show o2 + (0 + i * 5 + 3) = o2 + i * 5 + 3 by omega] at this
            have y4 : w3.cell? ⟨b2, o2 + i * 5 + 4, none⟩ = some p4 := by have := hcx 4 _ rfl; rwa [show o2 + (0 + i * 5 + 4) = o2 + i * 5 + 4 by omega] at this
            have hil : (i : Int) < (ls.length : Int) := by have := (List.getElem?_eq_some_iff.1 Hl.out).1; omega
            have HJl := Lib.hid hJl
            have HZl : Hid (JAll (JSz 1000000) l) := Lib.hid (by have h := Hz.out; unfold JAll at h; exact (h.2.get Hl.out).imp (JSz.mono (by omega)))
            clear hJl hcx hkk
            go_wp2_with (first
              | (have _ := w4; refine wpList_store_Row rfl 26 _ _ rfl Br [q0, q1, q2, q3, q4] rfl rfl 26 zero5 HR4.out size29 rfl HJ4.out.cells ?_; intro w5 hr5 hg5 hs5; have HG5 := Lib.hid hg5; have HR5 := Lib.hid hr5; clear hr5 hg5 hs5; simp only [Act.put, List.setIfInBounds_toArray, List.set_cons_zero, List.set_cons_succ])
              | (go_at_call 6; refine (copy_any w3 l [p0, p1, p2, p3, p4] w3 HJl.out HZl.out (below_of_grown (grown_refl w3 none))).mono ?_
                 rintro e w4 ⟨hg4, cs4, F4, rfl, hj4⟩
                 obtain ⟨q0, q1, q2, q3, q4, rfl⟩ := five_of hj4.five.1
                 have HR4 := Lib.hid (HR3.out.grown hg4 (by simp)); have HJ4 := Lib.hid hj4; have HG4 := Lib.hid hg4; clear hg4 hj4 y0 y1 y2 y3 y4))
            refine bodyPost_ret (v := .tuple #[.agg #[q0, q1, q2, q3, q4], .bool true]) (results_two (p := 4) (q := 5) (ty := 26) rfl _ _ Br 26 [q0, q1, q2, q3, q4] _ rfl HR5.out Tryz.underlying26 rfl size29 _ rfl) rfl ?_
            rw [HG.out]
            have hs := HB3.out.size
            have hd := HD.out
            refine ⟨grown_own (grown_own (grown_of_below HB3.out none) HG4.out (by simp)) HG5.out (fun x hx => .inr (by have := Option.some.inj hx; omega)), _, F4, rfl, ?_⟩
            refine JAt.mono (lo := w3.heap.size) hs (HJ4.out.kept HG5.out (fun g hg e => ?_))
            have := HJ4.out.lt g hg
            have := Option.some.inj e
            have := HR3.out.lt
            omega
          · have e2 : (k.toList == key.toList) = false := by rw [str_eq_list]; simpa using hkk
            have HN : Hid (getJ (.mk 5 bb t ks ls) key = findK key (ks.drop (i + 1)) (ls.drop (i + 1))) := Lib.hid (by rw [HI.out, HF.out, if_neg hkk])
            clear hkk
            go_wp2_with fail
            go_round
            case rel => exact ⟨i + 1, by omega, by go_num, HN⟩
            case measure => simp [intOf]; omega
        · have e1 : ¬ (i : Int) < (ks.length : Int) := by omega
          have HN : Hid (getJ (.mk 5 bb t ks ls) key = none) := Lib.hid (by rw [HI.out]; exact findK_end (by omega))
          go_wp2_with (have _ := HN; refine wpList_store_Row rfl 26 _ _ rfl Br zero5 rfl rfl 26 zero5 HR3.out size29 rfl (by intro u hu; simp [zero5] at hu; rcases hu with rfl | rfl | rfl | rfl | rfl <;> rfl) ?_; intro w5 hr5 hg5 hs5; have HG5 := Lib.hid hg5; have HR5 := Lib.hid hr5; clear hr5 hg5 hs5; simp only [Act.put, List.setIfInBounds_toArray, List.set_cons_zero, List.set_cons_succ])
          refine bodyPost_ret (v := .tuple #[.agg zero5.toArray, .bool false]) (results_two (p := 4) (q := 5) (ty := 26) rfl _ _ Br 26 zero5 _ rfl HR5.out Tryz.underlying26 rfl size29 _ rfl) rfl ?_
          exact Hfin.out w3 HB3.out HR3.out HN.out _ HG5.out
    · have HN : Hid (getJ (.mk kd bb t ks ls) key = none) := Lib.hid (getJ_no (.inl h5))
      have e1 : (kd != 5) = true := by simpa using h5
      clear h5
      go_wp2_with (first
       | (have _ := HB3; refine wpList_store_Row rfl 26 _ _ rfl Br zero5 rfl rfl 26 zero5 HR3.out size29 rfl (by intro u hu; simp [zero5] at hu; rcases hu with rfl | rfl | rfl | rfl | rfl <;> rfl) ?_; intro w5 hr5 hg5 hs5; have HG5 := Lib.hid hg5; have HR5 := Lib.hid hr5; clear hr5 hg5 hs5; simp only [Act.put, List.setIfInBounds_toArray, List.set_cons_zero, List.set_cons_succ])
       | (go_at_call 18; refine (rcheckP_any _ [.int .i8 kd, .bool bb, .string t, .slice A1 ks.length c1, .slice B1 ls.length d1] w2 (Hj.out.below HB2.out) (Hz.out.imp (JSz.mono (by omega))) Hroom.out).mono ?_; rw [HE.out]; rintro e w3 ⟨rfl, hb3⟩; have HB3 := Lib.hid (below_trans2 HB2.out (below_of_grown hb3)); have HX3 := Lib.hid (HX2.out.grown hb3 (by simp)); have HR3 := Lib.hid (HR2.out.grown hb3 (by simp)); have c0 := HX3.out.at_ (j := 0) rfl; have c3 := HX3.out.at_ (j := 3) rfl; have c4 := HX3.out.at_ (j := 4) rfl; clear hb3)
       | (refine wpList_load_Row rfl 26 _ rfl Ba rfl [.int .i8 kd, .bool bb, .string t, .slice A1 ks.length c1, .slice B1 ls.length d1] 26 HX2.out _ Tryz.underlying26 rfl size29 ?_; simp only [Act.put, List.setIfInBounds_toArray, List.set_cons_zero, List.set_cons_succ]))
      refine bodyPost_ret (v := .tuple #[.agg zero5.toArray, .bool false]) (results_two (p := 4) (q := 5) (ty := 26) rfl _ _ Br 26 zero5 _ rfl HR5.out Tryz.underlying26 rfl size29 _ rfl) rfl ?_
      exact Hfin.out w3 HB3.out HR3.out HN.out _ HG5.out
  · have HN : Hid (getJ (.mk kd bb t ks ls) key = none) := Lib.hid (getJ_no (.inr (by rw [HE.out]; exact hE0)))
    have e1 : (E != 0) = true := by simpa using hE0
    clear hE0
    go_wp2_with (first
       | (have _ := HB3; refine wpList_store_Row rfl 26 _ _ rfl Br zero5 rfl rfl 26 zero5 HR3.out size29 rfl (by intro u hu; simp [zero5] at hu; rcases hu with rfl | rfl | rfl | rfl | rfl <;> rfl) ?_; intro w5 hr5 hg5 hs5; have HG5 := Lib.hid hg5; have HR5 := Lib.hid hr5; clear hr5 hg5 hs5; simp only [Act.put, List.setIfInBounds_toArray, List.set_cons_zero, List.set_cons_succ])
       | (go_at_call 18; refine (rcheckP_any _ [.int .i8 kd, .bool bb, .string t, .slice A1 ks.length c1, .slice B1 ls.length d1] w2 (Hj.out.below HB2.out) (Hz.out.imp (JSz.mono (by omega))) Hroom.out).mono ?_; rw [HE.out]; rintro e w3 ⟨rfl, hb3⟩; have HB3 := Lib.hid (below_trans2 HB2.out (below_of_grown hb3)); have HX3 := Lib.hid (HX2.out.grown hb3 (by simp)); have HR3 := Lib.hid (HR2.out.grown hb3 (by simp)); have c0 := HX3.out.at_ (j := 0) rfl; have c3 := HX3.out.at_ (j := 3) rfl; have c4 := HX3.out.at_ (j := 4) rfl; clear hb3)
       | (refine wpList_load_Row rfl 26 _ rfl Ba rfl [.int .i8 kd, .bool bb, .string t, .slice A1 ks.length c1, .slice B1 ls.length d1] 26 HX2.out _ Tryz.underlying26 rfl size29 ?_; simp only [Act.put, List.setIfInBounds_toArray, List.set_cons_zero, List.set_cons_succ]))
    refine bodyPost_ret (v := .tuple #[.agg zero5.toArray, .bool false]) (results_two (p := 4) (q := 5) (ty := 26) rfl _ _ Br 26 zero5 _ rfl HR5.out Tryz.underlying26 rfl size29 _ rfl) rfl ?_
    exact Hfin.out w3 HB3.out HR3.out HN.out _ HG5.out
end Go.Proofs.YtlbilofnbhhmjaaGreatDoor
