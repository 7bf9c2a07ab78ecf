/- JsonGets: the walk. Conditions: the value is read where it lies; the tables and strconv.ErrRange lie. -/
import Derived.Test.YtlbilofnbhhmjaaGreatDoorRGet
import Derived.Test.YtlbilofnbhhmjaaGreatDoorRInt
import Derived.Test.YtlbilofnbhhmjaaGreatDoorVast
import Derived.Test.YtlbilofnbhhmjaaGreatDoorSpoil
import Derived.Test.YtlbilofnbhhmjaaGreatDoorWorks
import Derived.Test.YtlbilofnbhhmjaaGreatDoorSame
namespace Go.Proofs.YtlbilofnbhhmjaaGreatDoor
open Go.RowKit
set_option linter.unusedVariables false
set_option linter.unusedSimpArgs false
theorem findK_sz {P : J → Prop} {key : ByteArray} : ∀ {ks : List ByteArray} {ls : List J} {l : J}, JsAll P ls → findK key ks ls = some l → JAll P l
  | [], _, _, _, h => by simp [findK] at h
  | _ :: _, [], _, _, h => by simp [findK] at h
  | k :: ks, a :: ls, l, hp, h => by
    unfold JsAll at hp
    unfold findK at h
    split at h
    · cases h; exact hp.1
    · exact findK_sz hp.2 h
theorem zeroJ_sz (M : Nat) : JAll (JSz M) zeroJ := leaf_sz (t := ⟨#[]⟩) (Nat.zero_le _)
theorem getJ_sz {M : Nat} {j : J} (h : JAll (JSz M) j) (key : ByteArray) : JAll (JSz M) ((getJ j key).getD zeroJ) := by
  cases e : getJ j key with
  | none => exact zeroJ_sz M
  | some l =>
    unfold getJ at e
    split at e
    · obtain ⟨kd, b, t, ks, ls⟩ := j
      unfold JAll at h
      exact findK_sz h.2 e
    · cases e
/-- A value that was made is put into a new block. -/
theorem put_new {wA wB wC : World} {B lo : Nat} {j : J} {cs : List Value} {F : List Nat} (hj : JAt wA lo j cs F) (hgb : wA.grownBy wB none) (hgc : wB.grownBy wC (some B)) (hB : wA.heap.size = B) (hs : wB.heap.size = wA.heap.size + 1) :
    wA.grownBy wC none ∧ JAt wC lo j cs F ∧ wC.heap.size ≥ B + 1 :=
  ⟨grown_own hgb hgc (fun i hi => .inr (by have := Option.some.inj hi; omega)), (hj.kept hgb (by simp)).kept hgc (fun g hg e => by have := hj.lt g hg; have := Option.some.inj e; omega), by have := hgc.size; omega⟩
set_option maxHeartbeats 12800000 in
set_option maxRecDepth 100000 in
theorem gets_any (j : J) (key : ByteArray) (b : Addr) (cs : List Value) (w : World) (hj : JR w j cs) (hsz : JAll (JSz 140737488355328) j) (hT : Lib.Utf8Tabs 1 2 w) (hw : 2 < w.heap.size) (hE : rangeAt w b) :
    Calls Tryz.prog 3 #[.agg cs.toArray, .string key] w fun e w' => e = .returned (.bool true) ∧ Below w.heap.size w w' := by
  obtain ⟨p0, p1, p2, p3, p4, rfl⟩ := five_of hj.five
  have Hj := Lib.hid hj
  have Hsz := Lib.hid hsz
  have HT := Lib.hid hT
  have Hw := Lib.hid hw
  have HE := Lib.hid hE
  clear hj hsz hT hw hE
  go_enter Tryz.func3, Tryz.ntmps3
  go_upto_region 1 with (refine wpList_box_abs rfl 26 (.tmp 0) rfl [p0, p1, p2, p3, p4] rfl ?_; intro w1 hr1 hg1 hs1; simp only [Act.put, List.setIfInBounds_toArray, List.set_cons_zero, List.set_cons_succ])
  obtain ⟨Ba, hBa⟩ : ∃ x, w.heap.size = x := ⟨_, rfl⟩
  have HBa := Lib.hid hBa
  rw [hBa] at hr1 ⊢
  have HX1 := Lib.hid hr1
  have HB1 := Lib.hid (below_of_grown hg1)
  clear hr1 hg1 hs1 hBa
  by_cases hv : leftV j 1 65536 < 0
  · have hd : decide (leftV j 1 65536 < 0) = true := by simpa using hv
    have Hd := Lib.hid hd
    clear hd hv
    go_wp2_with (first
      | (go_at_call 5; refine (works_any _ (tabs_below HT.out HB2.out) (Nat.lt_of_lt_of_le Hw.out HB2.out.size)).mono ?_; rintro e w12 ⟨rfl, hb12⟩; have HB12 := Lib.hid hb12; clear hb12)
      | (go_at_call 4; refine (vast_any j [p0, p1, p2, p3, p4] w1 (Hj.out.below HB1.out) Hsz.out).mono ?_; rintro e w2 ⟨rfl, hb2⟩; rw [Hd.out]; have HB2 := Lib.hid (below_trans2 HB1.out hb2); clear hb2)
      | (refine wpList_load_Row rfl 26 _ rfl Ba rfl [p0, p1, p2, p3, p4] 26 HX1.out _ Tryz.underlying26 rfl size29 ?_; simp only [Act.put, List.setIfInBounds_toArray, List.set_cons_zero, List.set_cons_succ]))
    go_ret
    exact ⟨rfl, below_trans2 HB2.out HB12.out⟩
  · have hd : decide (leftV j 1 65536 < 0) = false := by simpa using hv
    have Hd := Lib.hid hd
    have hcost := (leftV_cost j 1 65536 (by omega) (by omega) (by omega)).1
    have Hcost : Hid (costJ j ≤ 65536) := Lib.hid (by omega)
    have HSm := Lib.hid (small_of (j := j) (by omega))
    clear hcost
    have HZ1 := Lib.hid (HSm.out.sz.imp (JSz.mono (N := 1000000) (by omega)))
    clear hd hv
    obtain ⟨r, hr⟩ : ∃ r, getJ j key = r := ⟨_, rfl⟩
    have Hr := Lib.hid hr
    obtain ⟨X, hX⟩ : ∃ x, r.getD zeroJ = x := ⟨_, rfl⟩
    have HX := Lib.hid hX
    obtain ⟨bs, hbs⟩ : ∃ x, r.isSome = x := ⟨_, rfl⟩
    have Hbs := Lib.hid hbs
    have HXz : Hid (JAll (JSz 1073741824) X) := Lib.hid (by rw [← hX, ← hr]; exact (getJ_sz HSm.out.sz key).imp (JSz.mono (by omega)))
    obtain ⟨⟨N, E⟩, hNE⟩ : ∃ x, intJ j = x := ⟨_, rfl⟩
    have HNE := Lib.hid hNE
    clear hr hX hbs hNE
    have Hrm : Hid ((checkJ 17 j 1 0).1 = 0 → (writeJ 17 j).length ≤ 16777216) := Lib.hid (fun h => by
      have := write_cost 17 j (check_right (d := 1) (n := 0) (by omega) (by omega) h)
      have := Hcost.out
      omega)
    -- own := Copy(j)
    go_upto_region 4 with (first
      | (have _ := w4; refine wpList_store_Row rfl 26 _ _ rfl w3.heap.size [q0, q1, q2, q3, q4] rfl rfl 26 zero5 hra size29 rfl hj3.cells ?_; intro w5 hrc hgc hsc; simp only [Act.put, List.setIfInBounds_toArray, List.set_cons_zero, List.set_cons_succ])
      | (have _ := w3; refine wpList_alloc_abs rfl 26 rfl zero5 _ (zero29 _) rfl ?_; intro w4 hra hga hsa; simp only [Act.put, List.setIfInBounds_toArray, List.set_cons_zero, List.set_cons_succ])
      | (go_at_call 6; refine (copy_any w j [p0, p1, p2, p3, p4] w2 Hj.out HZ1.out HB2.out).mono ?_; rintro e w3 ⟨hg3, cs3, F3, rfl, hj3⟩; obtain ⟨q0, q1, q2, q3, q4, rfl⟩ := five_of hj3.five.1)
      | (have _ := w2; refine wpList_load_Row rfl 26 _ rfl Ba rfl [p0, p1, p2, p3, p4] 26 HX2.out _ Tryz.underlying26 rfl size29 ?_; simp only [Act.put, List.setIfInBounds_toArray, List.set_cons_zero, List.set_cons_succ])
      | (go_at_call 4; refine (vast_any j [p0, p1, p2, p3, p4] w1 (Hj.out.below HB1.out) Hsz.out).mono ?_; rintro e w2 ⟨rfl, hb2⟩; rw [Hd.out]; have HB2 := Lib.hid (below_trans2 HB1.out hb2); have HX2 := Lib.hid (HX1.out.grown (grown_of_below hb2 none) (by simp)); clear hb2)
      | (refine wpList_load_Row rfl 26 _ rfl Ba rfl [p0, p1, p2, p3, p4] 26 HX1.out _ Tryz.underlying26 rfl size29 ?_; simp only [Act.put, List.setIfInBounds_toArray, List.set_cons_zero, List.set_cons_succ]))
    obtain ⟨B5, hB5⟩ : ∃ x, w3.heap.size = x := ⟨_, rfl⟩
    rw [hB5] at hra hrc hgc ⊢
    obtain ⟨g5, hj5, hs5⟩ := put_new hj3 hga hgc hB5 hsa
    have hl5 := hj3.lt
    rw [hB5] at hl5
    have g25 := grown_own hg3 g5 (by simp)
    have HB5 := Lib.hid (below_step HB2.out g25)
    have HX5 := Lib.hid (HX2.out.grown g25 (by simp))
    have HO5 := Lib.hid hrc
    have HJ5 := Lib.hid hj5
    have HF5 : Hid ((∀ g ∈ F3, w2.heap.size ≤ g ∧ g < B5) ∧ B5 + 1 ≤ w5.heap.size ∧ w.heap.size ≤ w2.heap.size ∧ w2.heap.size ≤ B5) := Lib.hid ⟨hl5, hs5, HB2.out.size, by have := hg3.size; omega⟩
    clear hra hga hsa hrc hgc hsc hB5 g5 hj5 hs5 hl5 g25 hg3 hj3
    -- x, is := Get(own, key)
    go_upto_region 5 with (first
      | (have _ := w7; refine wpList_store_Row rfl 26 _ _ rfl w6.heap.size [x0, x1, x2, x3, x4] rfl rfl 26 zero5 hra size29 rfl hj6.cells ?_; intro w8 hrc hgc hsc; simp only [Act.put, List.setIfInBounds_toArray, List.set_cons_zero, List.set_cons_succ])
      | (have _ := w6; refine wpList_alloc_abs rfl 26 rfl zero5 _ (zero29 _) rfl ?_; intro w7 hra hga hsa; simp only [Act.put, List.setIfInBounds_toArray, List.set_cons_zero, List.set_cons_succ])
      | (go_at_call 7; refine (get_any j key [q0, q1, q2, q3, q4] w5 HJ5.out.rd HSm.out.sz (tabs_below HT.out HB5.out) HSm.out.room).mono ?_; rw [Hr.out]; rintro e w6 ⟨hg6, cs6, F6, rfl, hj6⟩; rw [HX.out] at hj6; rw [Hbs.out]; obtain ⟨x0, x1, x2, x3, x4, rfl⟩ := five_of hj6.five.1)
      | (refine wpList_load_Row rfl 26 _ rfl B5 rfl [q0, q1, q2, q3, q4] 26 HO5.out _ Tryz.underlying26 rfl size29 ?_; simp only [Act.put, List.setIfInBounds_toArray, List.set_cons_zero, List.set_cons_succ]))
    obtain ⟨B8, hB8⟩ : ∃ x, w6.heap.size = x := ⟨_, rfl⟩
    rw [hB8] at hra hrc hgc ⊢
    obtain ⟨g8, hj8, hs8⟩ := put_new hj6 hga hgc hB8 hsa
    have hl8 := hj6.lt
    rw [hB8] at hl8
    have g58 := grown_own hg6 g8 (by simp)
    have HB8 := Lib.hid (below_step HB5.out g58)
    have HX8 := Lib.hid (HX5.out.grown g58 (by simp))
    have HO8 := Lib.hid (HO5.out.grown g58 (by simp))
    have HJ8 := Lib.hid (HJ5.out.kept g58 (by simp))
    have HP8 := Lib.hid hrc
    have HK8 := Lib.hid hj8
    have HF8 : Hid ((∀ g ∈ F6, w5.heap.size ≤ g ∧ g < B8) ∧ B8 + 1 ≤ w8.heap.size ∧ w5.heap.size ≤ B8) := Lib.hid ⟨hl8, hs8, by have := hg6.size; omega⟩
    clear hra hga hsa hrc hgc hsc hB8 g8 hj8 hs8 hl8 g58 hg6 hj6
    -- y, in := Get(j, key)
    go_upto_region 6 with (first
      | (have _ := w10; refine wpList_store_Row rfl 26 _ _ rfl w9.heap.size [y0, y1, y2, y3, y4] rfl rfl 26 zero5 hra size29 rfl hj9.cells ?_; intro w11 hrc hgc hsc; simp only [Act.put, List.setIfInBounds_toArray, List.set_cons_zero, List.set_cons_succ])
      | (have _ := w9; refine wpList_alloc_abs rfl 26 rfl zero5 _ (zero29 _) rfl ?_; intro w10 hra hga hsa; simp only [Act.put, List.setIfInBounds_toArray, List.set_cons_zero, List.set_cons_succ])
      | (go_at_call 8; refine (rget_any j key [p0, p1, p2, p3, p4] w8 (Hj.out.below HB8.out) HSm.out.sz Hrm.out).mono ?_; rw [Hr.out]; rintro e w9 ⟨hg9, cs9, F9, rfl, hj9⟩; rw [HX.out] at hj9; rw [Hbs.out]; obtain ⟨y0, y1, y2, y3, y4, rfl⟩ := five_of hj9.five.1)
      | (refine wpList_load_Row rfl 26 _ rfl Ba rfl [p0, p1, p2, p3, p4] 26 HX8.out _ Tryz.underlying26 rfl size29 ?_; simp only [Act.put, List.setIfInBounds_toArray, List.set_cons_zero, List.set_cons_succ]))
    obtain ⟨Bb, hBb⟩ : ∃ x, w9.heap.size = x := ⟨_, rfl⟩
    rw [hBb] at hra hrc hgc ⊢
    obtain ⟨g11, hj11, hs11⟩ := put_new hj9 hga hgc hBb hsa
    have hl11 := hj9.lt
    rw [hBb] at hl11
    have g811 := grown_own hg9 g11 (by simp)
    have HB11 := Lib.hid (below_step HB8.out g811)
    have HX11 := Lib.hid (HX8.out.grown g811 (by simp))
    have HO11 := Lib.hid (HO8.out.grown g811 (by simp))
    have HP11 := Lib.hid (HP8.out.grown g811 (by simp))
    have HJ11 := Lib.hid (HJ8.out.kept g811 (by simp))
    have HK11 := Lib.hid (HK8.out.kept g811 (by simp))
    have HQ11 := Lib.hid hrc
    have HL11 := Lib.hid hj11
    have HF11 : Hid ((∀ g ∈ F9, w8.heap.size ≤ g ∧ g < Bb) ∧ Bb + 1 ≤ w11.heap.size ∧ w8.heap.size ≤ Bb) := Lib.hid ⟨hl11, hs11, by have := hg9.size; omega⟩
    clear hra hga hsa hrc hgc hsc hBb g11 hj11 hs11 hl11 g811 hg9 hj9
    have s0 := HP11.out.at_ (j := 0) rfl
    have s1 := HP11.out.at_ (j := 1) rfl
    have s2 := HP11.out.at_ (j := 2) rfl
    have s3 := HP11.out.at_ (j := 3) rfl
    have s4 := HP11.out.at_ (j := 4) rfl
    have t0 := HQ11.out.at_ (j := 0) rfl
    have t1 := HQ11.out.at_ (j := 1) rfl
    have t2 := HQ11.out.at_ (j := 2) rfl
    have t3 := HQ11.out.at_ (j := 3) rfl
    have t4 := HQ11.out.at_ (j := 4) rfl
    have ebb : (bs != bs) = false := by simp
    have HS11 := Lib.hid (same_any w11 X [x0, x1, x2, x3, x4] [y0, y1, y2, y3, y4] w11 HK11.out.rd HL11.out.rd HXz.out (below_of_grown (grown_refl w11 none)))
    go_upto_region 8 with (go_at_call 9; refine HS11.out.mono ?_; rintro e w12 ⟨rfl, hb12⟩; have HB12 := Lib.hid hb12; clear hb12 s0 s1 s2 s3 s4 t0 t1 t2 t3 t4)
    have hg12 := grown_of_below HB12.out none
    have HBc := Lib.hid (below_trans2 HB11.out HB12.out)
    have HX12 := Lib.hid (HX11.out.grown hg12 (by simp))
    have HO12 := Lib.hid (HO11.out.grown hg12 (by simp))
    have HP12 := Lib.hid (HP11.out.grown hg12 (by simp))
    have HQ12 := Lib.hid (HQ11.out.grown hg12 (by simp))
    have HJ12 := Lib.hid (HJ11.out.kept hg12 (by simp))
    have HK12 := Lib.hid (HK11.out.kept hg12 (by simp))
    have HL12 := Lib.hid (HL11.out.kept hg12 (by simp))
    clear hg12 ebb
    -- the numbers
    go_upto_region 9 with (first
      | (go_at_call 10; refine (int_any j [q0, q1, q2, q3, q4] w12 b HJ12.out.rd HSm.out.sz (below_cell HBc.out HE.out)).mono ?_; rw [HNE.out]; rintro e w13 ⟨rfl, hb13⟩; have HB13 := Lib.hid hb13; clear hb13)
      | (refine wpList_load_Row rfl 26 _ rfl B5 rfl [q0, q1, q2, q3, q4] 26 HO12.out _ Tryz.underlying26 rfl size29 ?_; simp only [Act.put, List.setIfInBounds_toArray, List.set_cons_zero, List.set_cons_succ]))
    go_upto_region 12 with (first
      | (go_at_call 11; refine (rint_any j [p0, p1, p2, p3, p4] w13 (Hj.out.below (below_trans2 HBc.out HB13.out)) HSm.out.sz).mono ?_; rw [HNE.out]; rintro e w14 ⟨rfl, hg14⟩; have HG14 : Hid (w12.grownBy w14 none) := Lib.hid (grown_own (grown_of_below HB13.out none) hg14 (by simp)); clear hg14)
      | (refine wpList_load_Row rfl 26 _ rfl Ba rfl [p0, p1, p2, p3, p4] 26 (HX12.out.grown (grown_of_below HB13.out none) (by simp)) _ Tryz.underlying26 rfl size29 ?_; simp only [Act.put, List.setIfInBounds_toArray, List.set_cons_zero, List.set_cons_succ]))
    have HBe : Hid (Below w.heap.size w w14) := Lib.hid (below_step HBc.out HG14.out)
    have HX14 := Lib.hid (HX12.out.grown HG14.out (by simp))
    have HO14 := Lib.hid (HO12.out.grown HG14.out (by simp))
    have HP14 := Lib.hid (HP12.out.grown HG14.out (by simp))
    have HQ14 := Lib.hid (HQ12.out.grown HG14.out (by simp))
    have HJ14 := Lib.hid (HJ12.out.kept HG14.out (by simp))
    have HK14 := Lib.hid (HK12.out.kept HG14.out (by simp))
    have HL14 := Lib.hid (HL12.out.kept HG14.out (by simp))
    have HS14 : Hid (w11.heap.size ≤ w14.heap.size) := Lib.hid (Nat.le_trans HB12.out.size HG14.out.size)
    -- spoil(x)
    go_upto_region 13 with (first
      | (go_at_call 12; refine (spoil_any X [x0, x1, x2, x3, x4] F6 w5.heap.size w14 HK14.out HXz.out (by have := HF8.out; have := HF11.out; have := HS14.out; omega)).mono ?_; rintro e w15 ⟨rfl, hO⟩; have HO := Lib.hid hO; clear hO)
      | (refine wpList_load_Row rfl 26 _ rfl B8 rfl [x0, x1, x2, x3, x4] 26 HP14.out _ Tryz.underlying26 rfl size29 ?_; simp only [Act.put, List.setIfInBounds_toArray, List.set_cons_zero, List.set_cons_succ]))
    have hfb : ∀ g, g ∈ F6 → w5.heap.size ≤ g ∧ g < B8 := HF8.out.1
    have hwb : w.heap.size ≤ w5.heap.size := HB5.out.size
    have HB15 : Hid (Below w.heap.size w w15) := Lib.hid (only_below HBe.out HO.out (fun g hg => by have := hfb g hg; omega))
    have HX15 : Hid (Row w15 Ba 26 [p0, p1, p2, p3, p4]) := Lib.hid (HO.out.row HX14.out (fun h => by have := hfb _ h; have := HX5.out.lt; omega))
    have HO15 : Hid (Row w15 B5 26 [q0, q1, q2, q3, q4]) := Lib.hid (HO.out.row HO14.out (fun h => by have := hfb _ h; have := HO5.out.lt; omega))
    have HQ15 : Hid (Row w15 Bb 26 [y0, y1, y2, y3, y4]) := Lib.hid (HO.out.row HQ14.out (fun h => by have := hfb _ h; have := HF8.out; have := HF11.out; omega))
    have HJ15 : Hid (JAt w15 w2.heap.size j [q0, q1, q2, q3, q4] F3) := Lib.hid (HJ14.out.only HO.out (fun g hg h => by have := hfb _ h; have := HF5.out.1 g hg; have := HF5.out; omega))
    have HL15 : Hid (JAt w15 w8.heap.size X [y0, y1, y2, y3, y4] F9) := Lib.hid (HL14.out.only HO.out (fun g hg h => by have := hfb _ h; have := HF11.out.1 g hg; have := HF8.out; omega))
    clear hfb hwb HX14 HO14 HP14 HQ14 HJ14 HK14 HL14 HX12 HO12 HP12 HQ12 HJ12 HK12 HL12 HX11 HO11 HP11 HQ11 HJ11 HK11 HL11 HX8 HO8 HP8 HJ8 HK8 HX5 HO5 HJ5
    -- again
    go_upto_region 14 with (first
      | (have _ := w17; refine wpList_store_Row rfl 26 _ _ rfl w16.heap.size [z0, z1, z2, z3, z4] rfl rfl 26 zero5 hra size29 rfl hj16.cells ?_; intro w18 hrc hgc hsc; simp only [Act.put, List.setIfInBounds_toArray, List.set_cons_zero, List.set_cons_succ])
      | (have _ := w16; refine wpList_alloc_abs rfl 26 rfl zero5 _ (zero29 _) rfl ?_; intro w17 hra hga hsa; simp only [Act.put, List.setIfInBounds_toArray, List.set_cons_zero, List.set_cons_succ])
      | (go_at_call 7; refine (get_any j key [q0, q1, q2, q3, q4] w15 HJ15.out.rd HSm.out.sz (tabs_below HT.out HB15.out) HSm.out.room).mono ?_; rw [Hr.out]; rintro e w16 ⟨hg16, cs16, F16, rfl, hj16⟩; rw [HX.out] at hj16; rw [Hbs.out]; obtain ⟨z0, z1, z2, z3, z4, rfl⟩ := five_of hj16.five.1)
      | (refine wpList_load_Row rfl 26 _ rfl B5 rfl [q0, q1, q2, q3, q4] 26 HO15.out _ Tryz.underlying26 rfl size29 ?_; simp only [Act.put, List.setIfInBounds_toArray, List.set_cons_zero, List.set_cons_succ]))
    obtain ⟨Bz, hBz⟩ : ∃ x, w16.heap.size = x := ⟨_, rfl⟩
    rw [hBz] at hra hrc hgc ⊢
    obtain ⟨g18, hj18, hs18⟩ := put_new hj16 hga hgc hBz hsa
    have g158 := grown_own hg16 g18 (by simp)
    have HB18 := Lib.hid (below_step HB15.out g158)
    have HX18 := Lib.hid (HX15.out.grown g158 (by simp))
    have HO18 := Lib.hid (HO15.out.grown g158 (by simp))
    have HQ18 := Lib.hid (HQ15.out.grown g158 (by simp))
    have HJ18 := Lib.hid (HJ15.out.kept g158 (by simp))
    have HL18 := Lib.hid (HL15.out.kept g158 (by simp))
    have HZ18 := Lib.hid hrc
    have HM18 := Lib.hid hj18
    clear hra hga hsa hrc hgc hsc hBz g18 hj18 hs18 g158 hg16 hj16
    have HS1 := Lib.hid (same_any w18 j [q0, q1, q2, q3, q4] [p0, p1, p2, p3, p4] w18 HJ18.out.rd (Hj.out.below HB18.out) (HSm.out.sz.imp (JSz.mono (by omega))) (below_of_grown (grown_refl w18 none)))
    have s0 := HZ18.out.at_ (j := 0) rfl
    have s1 := HZ18.out.at_ (j := 1) rfl
    have s2 := HZ18.out.at_ (j := 2) rfl
    have s3 := HZ18.out.at_ (j := 3) rfl
    have s4 := HZ18.out.at_ (j := 4) rfl
    have t0 := HQ18.out.at_ (j := 0) rfl
    have t1 := HQ18.out.at_ (j := 1) rfl
    have t2 := HQ18.out.at_ (j := 2) rfl
    have t3 := HQ18.out.at_ (j := 3) rfl
    have t4 := HQ18.out.at_ (j := 4) rfl
    go_wp2_with (first
      | (go_at_call 5; refine (works_any _ (tabs_below HT.out HB20.out) (Nat.lt_of_lt_of_le Hw.out HB20.out.size)).mono ?_; rintro e w21 ⟨rfl, hb21⟩; have HB21 := Lib.hid (below_trans2 HB20.out hb21); clear hb21)
      | (have _ := w19; go_at_call 9; refine HS2.out.mono ?_; rintro e w20 ⟨rfl, hb20⟩; have HB20 := Lib.hid (below_trans2 HB19.out hb20); clear hb20 u0 u1 u2 u3 u4 v0 v1 v2 v3 v4)
      | (go_at_call 9; refine HS1.out.mono ?_; rintro e w19 ⟨rfl, hb19⟩; have HB19 := Lib.hid (below_trans2 HB18.out hb19)
         have HS2 := Lib.hid (same_any w19 X [z0, z1, z2, z3, z4] [y0, y1, y2, y3, y4] w19 (HM18.out.rd.below hb19) (HL18.out.rd.below hb19) HXz.out (below_of_grown (grown_refl w19 none)))
         have u0 := below_cell hb19 s0; have u1 := below_cell hb19 s1; have u2 := below_cell hb19 s2; have u3 := below_cell hb19 s3; have u4 := below_cell hb19 s4
         have v0 := below_cell hb19 t0; have v1 := below_cell hb19 t1; have v2 := below_cell hb19 t2; have v3 := below_cell hb19 t3; have v4 := below_cell hb19 t4
         clear hb19 s0 s1 s2 s3 s4 t0 t1 t2 t3 t4)
      | (have _ := HS1; refine wpList_load_Row rfl 26 _ rfl B5 rfl [q0, q1, q2, q3, q4] 26 HO18.out _ Tryz.underlying26 rfl size29 ?_; simp only [Act.put, List.setIfInBounds_toArray, List.set_cons_zero, List.set_cons_succ])
      | (refine wpList_load_Row rfl 26 _ rfl Ba rfl [p0, p1, p2, p3, p4] 26 HX18.out _ Tryz.underlying26 rfl size29 ?_; simp only [Act.put, List.setIfInBounds_toArray, List.set_cons_zero, List.set_cons_succ]))
    go_ret
    exact ⟨rfl, HB21.out⟩
end Go.Proofs.YtlbilofnbhhmjaaGreatDoor
