/- json.Print and json.Check. Conditions: the value is read where it lies, its texts can be told; the text it would write has room. -/
import Derived.Test.YtlbilofnbhhmjaaGreatDoorWr5
import Derived.Test.YtlbilofnbhhmjaaGreatDoorCheck
namespace Go.Proofs.YtlbilofnbhhmjaaGreatDoor
open Go.RowKit
set_option linter.unusedVariables false
set_option linter.unusedSimpArgs false
/-- What Print finds wrong. -/
def printE (j : J) : Int := if (checkJ 17 j 1 0).1 ≠ 0 then (checkJ 17 j 1 0).1 else if 8192 < (writeJ 17 j).length then 3 else 0
/-- What Print hands out. -/
def printT (j : J) : List Int := if printE j ≠ 0 then [] else writeJ 17 j
theorem zero64 (w : World) : (zeroValue 63).run Tryz.prog w = .ok (.int .i64 0) w := by kernel_rfl
structure Printed (j : J) (w : World) (e : Ending) (w' : World) : Prop where
  is : ∃ v, e = .returned (.tuple #[v, .int .i64 (printE j)]) ∧ Own w' w.heap.size v (printT j) ∧ (printE j ≠ 0 → v = .slice none 0 0)
  below : Below w.heap.size w w'
set_option maxHeartbeats 3200000 in
set_option maxRecDepth 100000 in
theorem print_any (j : J) (cs : List Value) (w : World) (hj : JR w j cs) (hsz : JAll (JSz 140737488355328) j) (hT : Lib.Utf8Tabs 1 2 w) (hroom : (checkJ 17 j 1 0).1 = 0 → 6 * (writeJ 17 j).length ≤ 1073741824) :
    Calls Tryz.prog 15 #[.agg cs.toArray] w (Printed j w) := by
  obtain ⟨p0, p1, p2, p3, p4, rfl⟩ := five_of hj.five
  obtain ⟨E, hE⟩ : ∃ e, (checkJ 17 j 1 0).1 = e := ⟨_, rfl⟩
  have HE := Lib.hid hE
  have Hj := Lib.hid hj
  have Hsz := Lib.hid hsz
  have HT := Lib.hid hT
  have Hroom := Lib.hid hroom
  clear hj hsz hT hroom hE
  go_enter Tryz.func15, Tryz.ntmps15
  go_upto_region 2 with (first
    | (have _ := w1; refine wpList_alloc_abs rfl 63 rfl [.int .i64 0] _ (zero64 _) rfl ?_; intro w2 hr2 hg2 hs2; clear hs2; simp only [Act.put, List.setIfInBounds_toArray, List.set_cons_zero, List.set_cons_succ])
    | (refine wpList_box_abs rfl 26 (.tmp 0) rfl [p0, p1, p2, p3, p4] rfl ?_; intro w1 hr1 hg1 hs1; clear hs1; simp only [Act.put, List.setIfInBounds_toArray, List.set_cons_zero, List.set_cons_succ]))
  have hg12 : w.grownBy w2 none := grown_own hg1 hg2 (by simp)
  have HG2 := Lib.hid hg12
  have HBx := Lib.hid (hr1.grown hg2 (by simp))
  have HCt := Lib.hid hr2
  obtain ⟨g, hg⟩ : ∃ x, w1.heap.size = x := ⟨_, rfl⟩
  have hgw : w.heap.size < g := by have := hr1.lt; omega
  rw [hg] at HCt ⊢
  clear hr1 hg1 hr2 hg2 hg12 hg
  have HB2 := Lib.hid (below_of_grown HG2.out)
  by_cases h0 : E = 0
  · subst h0
    have HR := Lib.hid (check_right (f := 17) (j := j) (d := 1) (n := 0) (by omega) (by omega) HE.out)
    have hrm := Hroom.out HE.out
    obtain ⟨L, hL⟩ : ∃ l, writeJ 17 j = l := ⟨_, rfl⟩
    rw [hL] at hrm
    have HL := Lib.hid hL
    clear hL
    go_upto_region 6 with (first
      | (go_at_call 30; refine (check_any w HT.out g (by omega) 17 j [p0, p1, p2, p3, p4] 1 0 w2 Hj.out Hsz.out HB2.out HCt.out (by omega) (by omega) (by omega) (by omega) (by omega)).mono ?_; rw [show checkJ 17 j 1 0 = (0, (checkJ 17 j 1 0).2) from Prod.ext HE.out rfl]; rintro e w3 ⟨rfl, hr3, hg3⟩; have HB3 := Lib.hid (grown_below0 HB2.out hg3 (fun x hx => by have := Option.some.inj hx; omega)); have HBx3 := Lib.hid (HBx.out.grown hg3 (by simp; omega)); clear hr3 hg3)
      | (have _ := w3; go_at_call 31; refine (write_any w 17 j [p0, p1, p2, p3, p4] w3 (.slice none 0 0) [] Hj.out HR.out HB3.out (own_nil _ _) (by rw [HL.out]; simpa using hrm)).mono ?_; rw [HL.out, List.nil_append]; rintro e w4 ⟨v4, rfl, ho4, hk4⟩; have Ho4 := Lib.hid ho4; have HB4 := Lib.hid (kp_below HB3.out hk4); clear ho4 hk4)
      | (have _ := w3; refine wpList_load_Row rfl 26 _ rfl w.heap.size rfl [p0, p1, p2, p3, p4] 26 HBx3.out _ Tryz.underlying26 rfl size29 ?_; simp only [Act.put, List.setIfInBounds_toArray, List.set_cons_zero, List.set_cons_succ])
      | (refine wpList_load_Row rfl 26 _ rfl w.heap.size rfl [p0, p1, p2, p3, p4] 26 HBx.out _ Tryz.underlying26 rfl size29 ?_; simp only [Act.put, List.setIfInBounds_toArray, List.set_cons_zero, List.set_cons_succ]))
    obtain ⟨A4, c4, rfl, hA4, hc4, _, _⟩ := own_slice Ho4.out
    clear hA4
    by_cases h8 : 8192 < L.length
    · have d8 : decide ((8192 : Int) < (L.length : Int)) = true := by simp; omega
      have HP : Hid (printE j = 3) := Lib.hid (by unfold printE; rw [HE.out, HL.out]; simp [h8])
      clear h8
      go_wp2_with fail
      go_ret2
      refine ⟨⟨.slice none 0 0, by rw [HP.out]; rfl, ?_, fun _ => rfl⟩, HB4.out⟩
      rw [show printT j = [] by unfold printT; rw [HP.out]; rfl]
      exact own_nil _ _
    · have d8 : decide ((8192 : Int) < (L.length : Int)) = false := by simp; omega
      have HP : Hid (printE j = 0) := Lib.hid (by unfold printE; rw [HE.out, HL.out]; simp [h8])
      clear h8
      go_wp2_with fail
      go_ret2
      refine ⟨⟨_, by rw [HP.out]; rfl, ?_, fun h => absurd HP.out h⟩, HB4.out⟩
      rw [show printT j = L by unfold printT; rw [HP.out, HL.out]; rfl]
      exact Ho4.out
  · have b0 : (E != 0) = true := by simpa using h0
    have HP : Hid (printE j = E) := Lib.hid (by unfold printE; rw [HE.out]; simp [h0])
    have H0 := Lib.hid h0
    clear h0
    go_wp2_with (first
      | (go_at_call 30; refine (check_any w HT.out g (by omega) 17 j [p0, p1, p2, p3, p4] 1 0 w2 Hj.out Hsz.out HB2.out HCt.out (by omega) (by omega) (by omega) (by omega) (by omega)).mono ?_; rw [show checkJ 17 j 1 0 = (E, (checkJ 17 j 1 0).2) from Prod.ext HE.out rfl]; rintro e w3 ⟨rfl, hr3, hg3⟩; have HB3 := Lib.hid (grown_below0 HB2.out hg3 (fun x hx => by have := Option.some.inj hx; omega)); clear hr3 hg3)
      | (refine wpList_load_Row rfl 26 _ rfl w.heap.size rfl [p0, p1, p2, p3, p4] 26 HBx.out _ Tryz.underlying26 rfl size29 ?_; simp only [Act.put, List.setIfInBounds_toArray, List.set_cons_zero, List.set_cons_succ]))
    go_ret2
    refine ⟨⟨.slice none 0 0, by rw [HP.out]; rfl, ?_, fun _ => rfl⟩, HB3.out⟩
    rw [show printT j = [] by unfold printT; rw [HP.out]; simp [H0.out]]
    exact own_nil _ _
set_option maxHeartbeats 3200000 in
set_option maxRecDepth 100000 in
theorem checkP_any (j : J) (cs : List Value) (w : World) (hj : JR w j cs) (hsz : JAll (JSz 140737488355328) j) (hT : Lib.Utf8Tabs 1 2 w) (hroom : (checkJ 17 j 1 0).1 = 0 → 6 * (writeJ 17 j).length ≤ 1073741824) :
    Calls Tryz.prog 16 #[.agg cs.toArray] w fun e w' => e = .returned (.int .i64 (printE j)) ∧ Below w.heap.size w w' := by
  obtain ⟨p0, p1, p2, p3, p4, rfl⟩ := five_of hj.five
  have Hj := Lib.hid hj
  have Hsz := Lib.hid hsz
  have HT := Lib.hid hT
  have Hroom := Lib.hid hroom
  clear hj hsz hT hroom
  go_enter Tryz.func16, Tryz.ntmps16
  go_upto_region 1 with (refine wpList_box_abs rfl 26 (.tmp 0) rfl [p0, p1, p2, p3, p4] rfl ?_; intro w1 hr1 hg1 hs1; clear hs1; simp only [Act.put, List.setIfInBounds_toArray, List.set_cons_zero, List.set_cons_succ])
  have HB1 := Lib.hid (below_of_grown hg1)
  have HBx := Lib.hid hr1
  have hgs := hg1.size
  clear hr1 hg1
  go_wp2_with (first
    | (go_at_call 15; refine (print_any j [p0, p1, p2, p3, p4] w1 (Hj.out.below HB1.out) Hsz.out (tabs_below HT.out HB1.out) Hroom.out).mono ?_; rintro e w3 ⟨⟨v3, rfl, ho3, _⟩, hb3⟩; have HB3 := Lib.hid (show Below w.heap.size w w3 from below_of_grown (grown_own (grown_of_below HB1.out none) (grown_of_below hb3 none) (by simp))); clear ho3 hb3)
    | (refine wpList_load_Row rfl 26 _ rfl w.heap.size rfl [p0, p1, p2, p3, p4] 26 HBx.out _ Tryz.underlying26 rfl size29 ?_; simp only [Act.put, List.setIfInBounds_toArray, List.set_cons_zero, List.set_cons_succ]))
  go_ret
  exact ⟨rfl, HB3.out⟩
end Go.Proofs.YtlbilofnbhhmjaaGreatDoor
