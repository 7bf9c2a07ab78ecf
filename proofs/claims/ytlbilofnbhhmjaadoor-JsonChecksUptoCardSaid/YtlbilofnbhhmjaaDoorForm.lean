/- JsonForm: the walk. -/
import Derived.Test.YtlbilofnbhhmjaaDoorAlike
import Derived.Test.YtlbilofnbhhmjaaDoorPSize
namespace Go.Proofs.YtlbilofnbhhmjaaDoor
open Go.RowKit
set_option linter.unusedVariables false
set_option linter.unusedSimpArgs false
/-- What Print says of a value that was parsed, or is right: its text. -/
structure Prints (j : J) : Prop where
  e : printE j = 0
  t : printT j = writeJ 16 j
  len : (writeJ 16 j).length ≤ 8192
  room : (checkJ 17 j 1 0).1 = 0 → 6 * (writeJ 17 j).length ≤ 1073741824
  right : Right 16 j
theorem prints_of {j : J} (hr : Right 16 j) (hc : (checkJ 17 j 1 0).1 = 0) (hl : (writeJ 16 j).length ≤ 8192) : Prints j := by
  have hw := write_mono 16 17 j hr (by omega)
  have e : printE j = 0 := by unfold printE; rw [hc, hw]; simp; omega
  exact ⟨e, by unfold printT; rw [e, hw]; rfl, hl, fun _ => by rw [hw]; omega, hr⟩
theorem Prints.again {j : J} (h : Prints j) : parse (strOfNums (writeJ 16 j)) = (sortJ 16 j, 0, 0) := parse_write (by omega) h.right h.len
theorem sz_47 {j : J} (h : JAll (JSz 40000) j) : JAll (JSz 140737488355328) j := h.imp (JSz.mono (by omega))
set_option maxHeartbeats 3200000 in
set_option maxRecDepth 100000 in
theorem form_any (A : Option Addr) (c : Nat) (x : List Int) (w : World) (hA : A = none → x = [] ∧ c = 0) (hx : Src w A x) (hc : x.length ≤ c) (hT : Lib.Utf8Tabs 0 1 w) (hw : 1 < w.heap.size) :
    Calls Tryd.prog 8 #[.slice A x.length c] w fun e w' => e = .returned (.bool true) ∧ Below w.heap.size w w' := by
  have HX := Lib.hid hx
  have HA := Lib.hid hA
  have HT := Lib.hid hT
  have Hw := Lib.hid hw
  clear hx hA hT hc hw
  by_cases hgt : (x.length : Int) > 131072
  · go_enter Tryd.func8, Tryd.ntmps8
    go_wp2_with (go_at_call 9; refine (works_any w HT.out Hw.out).mono ?_; rintro e w1 ⟨rfl, hb1⟩; have Hb1 := Lib.hid hb1; clear hb1)
    go_ret
    exact ⟨rfl, Hb1.out⟩
  · have hlen : x.length ≤ 131072 := by omega
    obtain ⟨V, at_, er, hT3⟩ : ∃ v a e, parse (strOfNums x) = (v, a, e) := ⟨_, _, _, rfl⟩
    have hV := parse_sz (strOfNums x)
    have hno := fun (he : er ≠ 0) => parse_no_back hT3 he
    have hyes := fun (he : er = 0) (hs : ¬ 8192 < (strOfNums x).size) => parse_back (he ▸ hT3) hs
    have hlong : 8192 < (strOfNums x).size → er ≠ 0 := fun h => by
      unfold parse at hT3; rw [if_pos h] at hT3
      simp only [Prod.mk.injEq] at hT3; omega
    rw [Go.strOfNums_size] at hno hyes hlong
    rw [hT3] at hV
    have HV := Lib.hid hV
    have HP := Lib.hid hT3
    have Hno := Lib.hid hno
    have Hyes := Lib.hid hyes
    have Hlong := Lib.hid hlong
    clear hT3 hV hno hyes hlong
    go_enter Tryd.func8, Tryd.ntmps8
    go_wp2_with (go_at_call 30; refine (copyBytes_any A c x w HA.out HX.out (by omega)).mono ?_; rintro e w1 ⟨v1, rfl, ho1, hg1⟩; obtain ⟨A1, c1, rfl, hA1, hc1, hs1, _⟩ := own_slice ho1
                 have HB1 := Lib.hid (below_of_grown hg1); have HS1 := Lib.hid hs1; have HA1 := Lib.hid hA1
                 clear ho1 hg1 hs1 hA1)
    refine (parse_any A1 c1 x w1 HA1.out HS1.out (by omega) (tabs_below HT.out HB1.out) (Nat.lt_of_lt_of_le Hw.out HB1.out.size)).mono ?_
    rw [HP.out]
    rintro e w2 ⟨hg, cs1, F1, rfl, hj⟩
    obtain ⟨p0, p1, p2, p3, p4, rfl⟩ := five_of hj.five.1
    obtain ⟨B1, hB⟩ : ∃ x, w2.heap.size = x := ⟨_, rfl⟩
    have HBn := Lib.hid hB
    have HJ := Lib.hid hj
    have HG := Lib.hid hg
    clear hg hj hB
    go_upto_region 4 with (first
      | (have _ := w3; refine wpList_store_Row rfl 29 _ _ rfl B1 [p0, p1, p2, p3, p4] (by rw [← HBn.out]; rfl) rfl 29 zero5 (HR.out) size29 rfl HJ.out.cells ?_; intro w4 hrc hgc hsc; have HK := Lib.hid (read_kept HG.out HQ.out.1 hgc HBn.out HQ.out.2 hsc); have HR1 := Lib.hid hrc; clear HR hrc hgc hsc; simp only [Act.put, List.setIfInBounds_toArray, List.set_cons_zero, List.set_cons_succ])
      | (refine wpList_alloc_abs rfl 29 rfl zero5 _ (zero29 _) rfl ?_; intro w3 hrb hgb hsb; rw [HBn.out] at hrb; have HR := Lib.hid hrb; have HQ := Lib.hid (And.intro hgb hsb); clear hrb hgb hsb; rw [HBn.out]; simp only [Act.put, List.setIfInBounds_toArray, List.set_cons_zero, List.set_cons_succ]))
    have HJ1 := Lib.hid (HJ.out.kept HK.out.2.1 (by simp))
    have HB4 := Lib.hid (below_step HB1.out HK.out.1)
    have HT4 := Lib.hid (tabs_below HT.out HB4.out)
    have Hw4 := Lib.hid (Nat.lt_of_lt_of_le Hw.out HB4.out.size)
    clear HK HG HJ HQ HBn
    by_cases her : er = 0
    · subst her
      have hns : ¬ 8192 < x.length := fun h => Hlong.out h rfl
      obtain ⟨hck, hrt, hln, rfl⟩ := Hyes.out rfl hns
      have HPr := Lib.hid (prints_of hrt hck (by omega))
      obtain ⟨L, hL⟩ : ∃ l, writeJ 16 V = l := ⟨_, rfl⟩
      rw [hL] at hln
      have HL := Lib.hid hL
      have hln' : ¬ (x.length : Int) < (L.length : Int) := by omega
      clear hck hrt hL
      go_upto_region 7 with (first
        | (go_at_call 17; refine (print_any V [p0, p1, p2, p3, p4] w4 HJ1.out.rd (sz_47 HV.out) HT4.out HPr.out.room).mono ?_; rintro e w5 ⟨⟨v5, rfl, ho5, _⟩, hb5⟩; rw [HPr.out.e]; rw [HPr.out.t, HL.out] at ho5; obtain ⟨A5, c5, rfl, hA5, hc5, hs5, _⟩ := own_slice ho5
           have HB5 := Lib.hid (below_trans2 HB4.out hb5); have HJ5 := Lib.hid (HJ1.out.kept (grown_of_below hb5 none) (by simp)); have HR5 := Lib.hid (HR1.out.grown (grown_of_below hb5 none) (by simp)); have HS5 := Lib.hid hs5; have HA5 := Lib.hid hA5; clear ho5 hb5 hs5 hA5)
        | (refine wpList_load_Row rfl 29 _ rfl B1 rfl [p0, p1, p2, p3, p4] 29 HR1.out _ Tryd.underlying29 rfl size29 ?_; simp only [Act.put, List.setIfInBounds_toArray, List.set_cons_zero, List.set_cons_succ]))
      go_wp2_with (first
        | (go_at_call 26; refine (checkP_any V [p0, p1, p2, p3, p4] w5 HJ5.out.rd (sz_47 HV.out) (tabs_below HT.out HB5.out) HPr.out.room).mono ?_; rintro e w6 ⟨rfl, hb6⟩; rw [HPr.out.e]
           have HB6 := Lib.hid (below_trans2 HB5.out hb6); have HJ6 := Lib.hid (HJ5.out.kept (grown_of_below hb6 none) (by simp)); have HR6 := Lib.hid (HR5.out.grown (grown_of_below hb6 none) (by simp)); have HS6 := Lib.hid (src_below HS5.out hb6); clear hb6)
        | (refine wpList_load_Row rfl 29 _ rfl B1 rfl [p0, p1, p2, p3, p4] 29 HR5.out _ Tryd.underlying29 rfl size29 ?_; simp only [Act.put, List.setIfInBounds_toArray, List.set_cons_zero, List.set_cons_succ]))
      have HT6 := Lib.hid (tabs_below HT.out HB6.out)
      have Hw6 := Lib.hid (Nat.lt_of_lt_of_le Hw.out HB6.out.size)
      have hag := HPr.out.again
      rw [HL.out] at hag
      have Hag := Lib.hid hag
      clear hag hln'
      refine (parse_any A5 c5 L w6 HA5.out HS6.out (by omega) HT6.out Hw6.out).mono ?_
      rw [Hag.out]
      rintro e w7 ⟨hg, cs7, F7, rfl, hj⟩
      obtain ⟨q0, q1, q2, q3, q4, rfl⟩ := five_of hj.five.1
      obtain ⟨B7, hB⟩ : ∃ x, w7.heap.size = x := ⟨_, rfl⟩
      have HBn := Lib.hid hB
      have HJ := Lib.hid hj
      have HG := Lib.hid hg
      clear hg hj hB
      go_upto_region 10 with (first
        | (have _ := w8; refine wpList_store_Row rfl 29 _ _ rfl B7 [q0, q1, q2, q3, q4] (by rw [← HBn.out]; rfl) rfl 29 zero5 (HR.out) size29 rfl HJ.out.cells ?_; intro w9 hrc hgc hsc; have HK := Lib.hid (read_kept HG.out HQ.out.1 hgc HBn.out HQ.out.2 hsc); have HR9 := Lib.hid hrc; clear HR hrc hgc hsc; simp only [Act.put, List.setIfInBounds_toArray, List.set_cons_zero, List.set_cons_succ])
        | (refine wpList_alloc_abs rfl 29 rfl zero5 _ (zero29 _) rfl ?_; intro w8 hrb hgb hsb; rw [HBn.out] at hrb; have HR := Lib.hid hrb; have HQ := Lib.hid (And.intro hgb hsb); clear hrb hgb hsb; rw [HBn.out]; simp only [Act.put, List.setIfInBounds_toArray, List.set_cons_zero, List.set_cons_succ]))
      have HJ9 := Lib.hid (HJ.out.kept HK.out.2.1 (by simp))
      have HB9 := Lib.hid (below_step HB6.out HK.out.1)
      have HV9 := Lib.hid (HJ6.out.kept HK.out.1 (by simp))
      have HX9 := Lib.hid (HR6.out.grown HK.out.1 (by simp))
      have HT9 := Lib.hid (tabs_below HT.out HB9.out)
      have Hw9 := Lib.hid (Nat.lt_of_lt_of_le Hw.out HB9.out.size)
      have Hs20 : Hid (Calls Tryd.prog 20 #[.agg #[p0, p1, p2, p3, p4], .agg #[q0, q1, q2, q3, q4]] w9 fun e w' => e = .returned (.bool true) ∧ Below w9.heap.size w9 w') := Lib.hid (alike_sort w9 16 V HPr.out.right [p0, p1, p2, p3, p4] [q0, q1, q2, q3, q4] w9 HV9.out.rd HJ9.out.rd (below_of_grown (grown_refl w9 none)))
      clear HK HG HJ HQ HBn HJ6 HJ5 HJ1 HR6 HR5 HR1
      have a0 := HX9.out.at_ (j := 0) rfl
      have a1 := HX9.out.at_ (j := 1) rfl
      have a2 := HX9.out.at_ (j := 2) rfl
      have a3 := HX9.out.at_ (j := 3) rfl
      have a4 := HX9.out.at_ (j := 4) rfl
      have b0 := HR9.out.at_ (j := 0) rfl
      have b1 := HR9.out.at_ (j := 1) rfl
      have b2 := HR9.out.at_ (j := 2) rfl
      have b3 := HR9.out.at_ (j := 3) rfl
      have b4 := HR9.out.at_ (j := 4) rfl
      go_wp2_with (first
        | (go_at_call 9; refine (works_any _ (tabs_below HT9.out HB11.out) (Nat.lt_of_lt_of_le Hw9.out HB11.out.size)).mono ?_; rintro e w12 ⟨rfl, hb12⟩; have HB12 := Lib.hid hb12; clear hb12)
        | (refine Hs20.out.mono ?_; rintro e w11 ⟨rfl, hb11⟩; have HB11 := Lib.hid hb11; clear hb11 a0 a1 a2 a3 a4 b0 b1 b2 b3 b4))
      go_ret
      exact ⟨rfl, below_trans2 (below_trans2 HB9.out HB11.out) HB12.out⟩
    · obtain ⟨rfl, hat⟩ := Hno.out her
      have d1 : (er != 0) = true := by simpa using her
      have d2 : (0 : Int) ≤ (at_ : Int) := by omega
      have d3 : (at_ : Int) ≤ (x.length : Int) := by omega
      have Hs13 : Hid (Calls Tryd.prog 13 #[.agg #[p0, p1, p2, p3, p4], .agg zero5.toArray] w4 fun e w' => e = .returned (.bool true) ∧ Below w4.heap.size w4 w') := Lib.hid (same_at J.zero [p0, p1, p2, p3, p4] zero5 w4 HJ1.out.rd (zero_at w4 0).rd HV.out)
      unfold zero5 at Hs13
      have a0 := HR1.out.at_ (j := 0) rfl
      have a1 := HR1.out.at_ (j := 1) rfl
      have a2 := HR1.out.at_ (j := 2) rfl
      have a3 := HR1.out.at_ (j := 3) rfl
      have a4 := HR1.out.at_ (j := 4) rfl
      clear her hat
      go_wp2_with (first
        | (go_at_call 9; refine (works_any _ (tabs_below HT4.out HB11.out) (Nat.lt_of_lt_of_le Hw4.out HB11.out.size)).mono ?_; rintro e w12 ⟨rfl, hb12⟩; have HB12 := Lib.hid hb12; clear hb12)
        | (refine Hs13.out.mono ?_; rintro e w11 ⟨rfl, hb11⟩; have HB11 := Lib.hid hb11; clear hb11 a0 a1 a2 a3 a4))
      go_ret
      exact ⟨rfl, below_trans2 (below_trans2 HB4.out HB11.out) HB12.out⟩
end Go.Proofs.YtlbilofnbhhmjaaDoor
