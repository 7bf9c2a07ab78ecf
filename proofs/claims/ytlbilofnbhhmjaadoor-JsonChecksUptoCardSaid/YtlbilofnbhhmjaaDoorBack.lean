/- JsonBack: the walk. -/
import Derived.Test.YtlbilofnbhhmjaaDoorForm
import Derived.Test.YtlbilofnbhhmjaaDoorVast
import Derived.Test.YtlbilofnbhhmjaaDoorRise
namespace Go.Proofs.YtlbilofnbhhmjaaDoor
open Go.RowKit
set_option linter.unusedVariables false
set_option linter.unusedSimpArgs false
theorem printE_zero {j : J} (h : printE j = 0) : (checkJ 17 j 1 0).1 = 0 ∧ (writeJ 17 j).length ≤ 8192 := by
  unfold printE at h
  split at h
  · rename_i h1; exact absurd h h1
  · rename_i h1
    split at h
    · cases h
    · exact ⟨by simpa using h1, by omega⟩
theorem prints_zero {j : J} (h : printE j = 0) : Prints j := by
  obtain ⟨a, b⟩ := printE_zero h
  have hr := check_right16 16 j 1 0 (by omega) a
  exact prints_of hr a (by rw [← write_mono 16 17 j hr (by omega)]; exact b)
/-- What was printed, read again. -/
theorem Prints.sort {j : J} (h : Prints j) : Prints (sortJ 16 j) ∧ writeJ 16 (sortJ 16 j) = writeJ 16 j ∧ JAll (JSz 40000) (sortJ 16 j) := by
  have ha := h.again
  have hl := h.len
  have hb := parse_back ha (by rw [Go.strOfNums_size]; omega)
  have hw := write_sort 16 j h.right
  have hz := parse_sz (strOfNums (writeJ 16 j))
  rw [ha] at hz
  exact ⟨prints_of hb.2.1 hb.1 (by rw [hw]; exact hl), hw, hz⟩
theorem sz_up {j : J} (h : JAll (JSz 65536) j) : JAll (JSz 140737488355328) j ∧ JAll (JSz 1000000) j := ⟨h.imp (JSz.mono (by omega)), h.imp (JSz.mono (by omega))⟩
set_option maxHeartbeats 6400000 in
set_option maxRecDepth 100000 in
theorem back_any (j : J) (cs : List Value) (w : World) (hj : JR w j cs) (hsz : JAll (JSz 140737488355328) j) (hT : Lib.Utf8Tabs 0 1 w) (hw : 1 < w.heap.size) :
    Calls Tryd.prog 7 #[.agg cs.toArray] w fun e w' => e = .returned (.bool true) ∧ Below w.heap.size w w' := by
  obtain ⟨p0, p1, p2, p3, p4, rfl⟩ := five_of hj.five
  have Hj := Lib.hid hj
  have Hsz := Lib.hid hsz
  have HT := Lib.hid hT
  have Hw := Lib.hid hw
  clear hj hsz hT hw
  go_enter Tryd.func7, Tryd.ntmps7
  go_upto_region 1 with (refine wpList_box_abs rfl 29 (.tmp 0) rfl [p0, p1, p2, p3, p4] rfl ?_; intro w1 hr1 hg1 hs1; simp only [Act.put, List.setIfInBounds_toArray, List.set_cons_zero, List.set_cons_succ])
  obtain ⟨Ba, hBa⟩ : ∃ x, w.heap.size = x := ⟨_, rfl⟩
  rw [hBa] at hr1 ⊢
  have HX1 := Lib.hid hr1
  have HB1 := Lib.hid (below_of_grown hg1)
  clear hr1 hg1 hs1 hBa
  by_cases hv : leftV j 1 65536 < 0
  · have hd : decide (leftV j 1 65536 < 0) = true := by simpa using hv
    have Hd := Lib.hid hd
    clear hd hv
    go_wp2_with (first
      | (go_at_call 9; refine (works_any _ (tabs_below HT.out HB2.out) (Nat.lt_of_lt_of_le Hw.out HB2.out.size)).mono ?_; rintro e w12 ⟨rfl, hb12⟩; have HB12 := Lib.hid hb12; clear hb12)
      | (go_at_call 16; refine (vast_any j [p0, p1, p2, p3, p4] w1 (Hj.out.below HB1.out) Hsz.out).mono ?_; rintro e w2 ⟨rfl, hb2⟩; rw [Hd.out]; have HB2 := Lib.hid (below_trans2 HB1.out hb2); clear hb2)
      | (refine wpList_load_Row rfl 29 _ rfl Ba rfl [p0, p1, p2, p3, p4] 29 HX1.out _ Tryd.underlying29 rfl size29 ?_; simp only [Act.put, List.setIfInBounds_toArray, List.set_cons_zero, List.set_cons_succ]))
    go_ret
    exact ⟨rfl, below_trans2 HB2.out HB12.out⟩
  · have hd : decide (leftV j 1 65536 < 0) = false := by simpa using hv
    have Hd := Lib.hid hd
    have HSm := Lib.hid (small_of (j := j) (by omega))
    clear hd hv
    obtain ⟨E, hE⟩ : ∃ e, printE j = e := ⟨_, rfl⟩
    have HE := Lib.hid hE
    clear hE
    go_upto_region 4 with (first
      | (go_at_call 17; refine (print_any j [q0, q1, q2, q3, q4] w3 HJ3.out.rd (sz_up HSm.out.sz).1 (tabs_below HT.out HB3.out) HSm.out.room).mono ?_; rintro e w4 ⟨⟨v4, rfl, ho4, hn4⟩, hb4⟩; rw [HE.out] at hn4 ⊢
         have HB4 := Lib.hid (below_trans2 HB3.out hb4); have HX4 := Lib.hid (HX3.out.grown (grown_of_below hb4 none) (by simp)); have HO4 := Lib.hid ho4; have HN4 := Lib.hid hn4; clear ho4 hn4 hb4)
      | (go_at_call 18; refine (copy_any w j [p0, p1, p2, p3, p4] w2 Hj.out (sz_up HSm.out.sz).2 HB2.out).mono ?_; rintro e w3 ⟨hg3, cs3, F3, rfl, hj3⟩; obtain ⟨q0, q1, q2, q3, q4, rfl⟩ := five_of hj3.five.1
         have HB3 := Lib.hid (below_step HB2.out hg3); have HX3 := Lib.hid (HX2.out.grown hg3 (by simp)); have HJ3 := Lib.hid hj3; clear hg3 hj3)
      | (have _ := w2; refine wpList_load_Row rfl 29 _ rfl Ba rfl [p0, p1, p2, p3, p4] 29 HX2.out _ Tryd.underlying29 rfl size29 ?_; simp only [Act.put, List.setIfInBounds_toArray, List.set_cons_zero, List.set_cons_succ])
      | (go_at_call 16; refine (vast_any j [p0, p1, p2, p3, p4] w1 (Hj.out.below HB1.out) Hsz.out).mono ?_; rintro e w2 ⟨rfl, hb2⟩; rw [Hd.out]; have HB2 := Lib.hid (below_trans2 HB1.out hb2); have HX2 := Lib.hid (HX1.out.grown (grown_of_below hb2 none) (by simp)); clear hb2)
      | (refine wpList_load_Row rfl 29 _ rfl Ba rfl [p0, p1, p2, p3, p4] 29 HX1.out _ Tryd.underlying29 rfl size29 ?_; simp only [Act.put, List.setIfInBounds_toArray, List.set_cons_zero, List.set_cons_succ]))
    by_cases hE0 : E = 0
    · subst hE0
      have HPr := Lib.hid (prints_zero HE.out)
      obtain ⟨hKp, hKw, hKz⟩ := HPr.out.sort
      obtain ⟨L, hL⟩ : ∃ l, writeJ 16 j = l := ⟨_, rfl⟩
      have hag := HPr.out.again
      have hln := HPr.out.len
      obtain ⟨K, hK⟩ : ∃ k, sortJ 16 j = k := ⟨_, rfl⟩
      rw [hK] at hKp hKw hKz hag
      rw [hL] at hKw hag hln
      obtain ⟨A4, c4, rfl, hA4, hc4, hs4, _⟩ := own_slice HO4.out
      rw [HPr.out.t, hL] at hs4 hA4 ⊢
      have HL := Lib.hid hL
      have HK := Lib.hid hK
      have HKp := Lib.hid hKp
      have HKw := Lib.hid hKw
      have HKz := Lib.hid hKz
      have Hag := Lib.hid hag
      have HS4 := Lib.hid hs4
      have HA4 := Lib.hid hA4
      have hl8 : ¬ (8192 : Int) < (L.length : Int) := by omega
      clear hL hK hKp hKw hKz hag hs4 hA4 HN4 HO4 hc4
      have HT4 := Lib.hid (tabs_below HT.out HB4.out)
      have Hw4 := Lib.hid (Nat.lt_of_lt_of_le Hw.out HB4.out.size)
      go_wp2_with fail
      refine (parse_any A4 c4 L w4 HA4.out HS4.out (by omega) HT4.out Hw4.out).mono ?_
      rw [Hag.out]
      rintro e w5 ⟨hg, cs5, F5, rfl, hj⟩
      obtain ⟨r0, r1, r2, r3, r4, rfl⟩ := five_of hj.five.1
      obtain ⟨B5, hB⟩ : ∃ x, w5.heap.size = x := ⟨_, rfl⟩
      have HBn := Lib.hid hB
      have HJ := Lib.hid hj
      have HG := Lib.hid hg
      clear hg hj hB
      go_upto_region 7 with (first
        | (have _ := w6; refine wpList_store_Row rfl 29 _ _ rfl B5 [r0, r1, r2, r3, r4] (by rw [← HBn.out]; rfl) rfl 29 zero5 (HR.out) size29 rfl HJ.out.cells ?_; intro w7 hrc hgc hsc; have HKp2 := Lib.hid (read_kept HG.out HQ.out.1 hgc HBn.out HQ.out.2 hsc); have HR7 := Lib.hid hrc; clear HR hrc hgc hsc; simp only [Act.put, List.setIfInBounds_toArray, List.set_cons_zero, List.set_cons_succ])
        | (refine wpList_alloc_abs rfl 29 rfl zero5 _ (zero29 _) rfl ?_; intro w6 hrb hgb hsb; rw [HBn.out] at hrb; have HR := Lib.hid hrb; have HQ := Lib.hid (And.intro hgb hsb); clear hrb hgb hsb; rw [HBn.out]; simp only [Act.put, List.setIfInBounds_toArray, List.set_cons_zero, List.set_cons_succ]))
      have HJ7 := Lib.hid (HJ.out.kept HKp2.out.2.1 (by simp))
      have HB7 := Lib.hid (below_step HB4.out HKp2.out.1)
      have HX7 := Lib.hid (HX4.out.grown HKp2.out.1 (by simp))
      have HS7 := Lib.hid (src_below HS4.out (below_of_grown HKp2.out.1))
      have Hs20 : Hid (Calls Tryd.prog 20 #[.agg #[p0, p1, p2, p3, p4], .agg #[r0, r1, r2, r3, r4]] w7 fun e w' => e = .returned (.bool true) ∧ Below w7.heap.size w7 w') := Lib.hid (alike_sort w7 16 j HPr.out.right [p0, p1, p2, p3, p4] [r0, r1, r2, r3, r4] w7 (Hj.out.below HB7.out) (by rw [HK.out]; exact HJ7.out.rd) (below_of_grown (grown_refl w7 none)))
      clear HKp2 HG HJ HQ HBn HX4 HS4 HB4 HT4 Hw4
      have a0 := HX7.out.at_ (j := 0) rfl
      have a1 := HX7.out.at_ (j := 1) rfl
      have a2 := HX7.out.at_ (j := 2) rfl
      have a3 := HX7.out.at_ (j := 3) rfl
      have a4 := HX7.out.at_ (j := 4) rfl
      have b0 := HR7.out.at_ (j := 0) rfl
      have b1 := HR7.out.at_ (j := 1) rfl
      have b2 := HR7.out.at_ (j := 2) rfl
      have b3 := HR7.out.at_ (j := 3) rfl
      have b4 := HR7.out.at_ (j := 4) rfl
      go_upto_region 9 with (first
        | (have _ := HB8; go_at_call 21; refine Hs21.out.mono ?_; rintro e w9 ⟨rfl, hb9⟩; have HB9 := Lib.hid (below_trans2 HB8.out hb9); have HR9 := Lib.hid (HR8.out.grown (grown_of_below hb9 none) (by simp)); have HJ9 := Lib.hid (HJ8.out.kept (grown_of_below hb9 none) (by simp)); have HS9 := Lib.hid (src_below HS8.out hb9); clear hb9 d0 d1 d2 d3 d4)
        | (go_at_call 20; refine Hs20.out.mono ?_; rintro e w8 ⟨rfl, hb8⟩; have HB8 := Lib.hid (below_trans2 HB7.out hb8); have HR8 := Lib.hid (HR7.out.grown (grown_of_below hb8 none) (by simp)); have HJ8 := Lib.hid (HJ7.out.kept (grown_of_below hb8 none) (by simp)); have HS8 := Lib.hid (src_below HS7.out hb8)
           have Hs21 : Hid (Calls Tryd.prog 21 #[.agg #[r0, r1, r2, r3, r4]] w8 fun e w' => e = .returned (.bool true) ∧ Below w8.heap.size w8 w') := Lib.hid (rise_sort w8 16 j HPr.out.right [r0, r1, r2, r3, r4] w8 (by rw [HK.out]; exact HJ8.out.rd) (below_of_grown (grown_refl w8 none)))
           clear hb8 a0 a1 a2 a3 a4 b0 b1 b2 b3 b4
           have d0 := HR8.out.at_ (j := 0) rfl; have d1 := HR8.out.at_ (j := 1) rfl; have d2 := HR8.out.at_ (j := 2) rfl; have d3 := HR8.out.at_ (j := 3) rfl; have d4 := HR8.out.at_ (j := 4) rfl))
      go_upto_region 10 with (first
        | (go_at_call 17; refine (print_any K [r0, r1, r2, r3, r4] w9 HJ9.out.rd (sz_47 HKz.out) (tabs_below HT.out HB9.out) HKp.out.room).mono ?_; rintro e w10 ⟨⟨v10, rfl, ho10, _⟩, hb10⟩; rw [HKp.out.e]; rw [HKp.out.t, HKw.out] at ho10; obtain ⟨A10, c10, rfl, hA10, hc10, hs10, _⟩ := own_slice ho10
           have HB10 := Lib.hid (below_trans2 HB9.out hb10); have HSa := Lib.hid (src_below HS9.out hb10); have HSb := Lib.hid hs10; have HAb := Lib.hid hA10; clear ho10 hb10 hs10 hA10 hc10)
        | (refine wpList_load_Row rfl 29 _ rfl B5 rfl [r0, r1, r2, r3, r4] 29 HR9.out _ Tryd.underlying29 rfl size29 ?_; simp only [Act.put, List.setIfInBounds_toArray, List.set_cons_zero, List.set_cons_succ]))
      go_wp2_with (first
        | (go_at_call 9; refine (works_any w10 (tabs_below HT.out HB10.out) (Nat.lt_of_lt_of_le Hw.out HB10.out.size)).mono ?_; rintro e w12 ⟨rfl, hb12⟩; have HB12 := Lib.hid hb12; clear hb12)
        | (go_at_call 25; refine (eqBytes_any A4 A10 c4 c10 L w10 (fun h => (HA4.out h).1) (fun h => (HAb.out h).1) HSa.out HSb.out).mono ?_; rintro e w11 ⟨rfl, rfl⟩))
      go_ret
      exact ⟨rfl, below_trans2 HB10.out HB12.out⟩
    · obtain rfl := HN4.out hE0
      have e1 : (E != 0) = true := by simpa using hE0
      have HT4 := Lib.hid (tabs_below HT.out HB4.out)
      have Hw4 := Lib.hid (Nat.lt_of_lt_of_le Hw.out HB4.out.size)
      clear HO4 HN4 hE0
      have a0 := HX4.out.at_ (j := 0) rfl
      have a1 := HX4.out.at_ (j := 1) rfl
      have a2 := HX4.out.at_ (j := 2) rfl
      have a3 := HX4.out.at_ (j := 3) rfl
      have a4 := HX4.out.at_ (j := 4) rfl
      go_wp2_with (first
        | (go_at_call 9; refine (works_any _ (tabs_below HT4.out HB6.out) (Nat.lt_of_lt_of_le Hw4.out HB6.out.size)).mono ?_; rintro e w12 ⟨rfl, hb12⟩; have HB12 := Lib.hid hb12; clear hb12)
        | (go_at_call 26; refine (checkP_any j [s0, s1, s2, s3, s4] w5 HJ5.out.rd (sz_up HSm.out.sz).1 (tabs_below HT4.out HB5.out) HSm.out.room).mono ?_; rintro e w6 ⟨rfl, hb6⟩; rw [HE.out]; have HB6 := Lib.hid (below_trans2 HB5.out hb6); clear hb6)
        | (go_at_call 18; refine (copy_any w j [p0, p1, p2, p3, p4] w4 Hj.out (sz_up HSm.out.sz).2 HB4.out).mono ?_; rintro e w5 ⟨hg5, cs5, F5, rfl, hj5⟩; obtain ⟨s0, s1, s2, s3, s4, rfl⟩ := five_of hj5.five.1
           have HB5 := Lib.hid (below_of_grown hg5); have HJ5 := Lib.hid hj5; clear hg5 hj5 a0 a1 a2 a3 a4))
      go_ret
      exact ⟨rfl, below_trans2 (below_trans2 HB4.out HB6.out) HB12.out⟩
end Go.Proofs.YtlbilofnbhhmjaaDoor
