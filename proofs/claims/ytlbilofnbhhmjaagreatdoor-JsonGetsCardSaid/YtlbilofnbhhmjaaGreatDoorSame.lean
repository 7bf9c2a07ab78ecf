/- The statements' own comparison: a value is the same as itself, wherever both lie. The statements' own comparison of values. -/
import Derived.Test.YtlbilofnbhhmjaaGreatDoorWorks
namespace Go.Proofs.YtlbilofnbhhmjaaGreatDoor
section
open Go.RowKit
set_option linter.unusedVariables false
set_option linter.unusedSimpArgs false
theorem StrAt.drewN {w : World} {A : Option Addr} {ks : List ByteArray} (h : StrAt w A ks) (n : Nat) : StrAt (w.drewN n) A ks := h.below (below_of_grown (grown_drewN (grown_refl w none) n))
set_option maxHeartbeats 3200000 in
set_option maxRecDepth 100000 in
theorem eqTexts_same (A B : Option Addr) (c d : Nat) (ks : List ByteArray) (w : World) (hA : StrAt w A ks) (hB : StrAt w B ks) (hn : ks.length ≤ 1073741824) :
    Calls Tryz.prog 19 #[.slice A ks.length c, .slice B ks.length d] w fun e w' => e = .returned (.bool true) ∧ w.grownBy w' none := by
  have HA := Lib.hid hA
  have HB := Lib.hid hB
  clear hA hB
  go_enter Tryz.func19, Tryz.ntmps19
  go_wp2_with fail
  go_loopw [5] (fun v wr => ∃ i : Nat, i ≤ ks.length ∧ v = .int .i64 (i : Int) ∧ Hid (StrAt wr A ks) ∧ Hid (StrAt wr B ks) ∧ Hid (w.grownBy wr none)) (fun v _ => ks.length - (intOf v).toNat)
  case atStart => exact ⟨0, by omega, rfl, HA, HB, Lib.hid (grown_refl _ _)⟩
  case round =>
    obtain ⟨i, hi, rfl, HA1, HB1, HG⟩ := hrel
    by_cases hlt : i < ks.length
    · obtain ⟨k, hk⟩ : ∃ k, ks[i]? = some k := ⟨_, List.getElem?_eq_getElem hlt⟩
      obtain ⟨a1, o1, rfl, h1⟩ := HA1.out (by omega)
      obtain ⟨a2, o2, rfl, h2⟩ := HB1.out (by omega)
      have c1 := h1 i k hk
      have c2 := h2 i k hk
      have e1 : (i : Int) < (ks.length : Int) := by omega
      clear h1 h2 hk
      go_wp2_with fail
      go_quiet (fail)
      have HA2 := Lib.hid (HA1.out.drewN nq)
      have HB2 := Lib.hid (HB1.out.drewN nq)
      have HG2 := Lib.hid (grown_drewN HG.out nq)
      generalize hw : wr.drewN nq = w2 at HA2 HB2 HG2
      clear hw c1 c2
      go_wp2_with fail
      go_roundw
      case rel => exact ⟨i + 1, by omega, by go_num, HA2, HB2, HG2⟩
      case measure => simp [intOf]; omega
    · have e1 : ¬ (i : Int) < (ks.length : Int) := by omega
      go_wp2_with fail
      go_ret
      exact ⟨rfl, HG.out⟩
end
section
open Go.RowKit
set_option linter.unusedVariables false
set_option linter.unusedSimpArgs false
def SameIs (w0 : World) (j : J) : Prop := ∀ (cs1 cs2 : List Value) (w : World), JR w0 j cs1 → JR w0 j cs2 → JAll (JSz 1073741824) j → Below w0.heap.size w0 w →
  Calls Tryz.prog 9 #[.agg cs1.toArray, .agg cs2.toArray] w fun e w' => e = .returned (.bool true) ∧ Below w.heap.size w w'
set_option maxHeartbeats 6400000 in
set_option maxRecDepth 100000 in
theorem same_step (w0 : World) (kd : Int) (bb : Bool) (t : ByteArray) (ks : List ByteArray) (ls : List J) (IH : ∀ x ∈ ls, SameIs w0 x) : SameIs w0 (.mk kd bb t ks ls) := by
  intro cs1 cs2 w hj1 hj2 hsz hb
  unfold JR at hj1 hj2
  obtain ⟨A1, c1, B1, d1, rfl, hkc1, hlc1, hA1, hB1⟩ := hj1
  obtain ⟨A2, c2, B2, d2, rfl, hkc2, hlc2, hA2, hB2⟩ := hj2
  unfold JAll at hsz
  obtain ⟨⟨hts, hkl, hll, hks⟩, hall⟩ := hsz
  simp only [J.tx, J.ks, J.ls] at hts hkl hll hks
  have IH := Lib.hid IH
  have HA1 := Lib.hid hA1
  have HA2 := Lib.hid hA2
  have HB1 := Lib.hid hB1
  have HB2 := Lib.hid hB2
  have HAll := Lib.hid hall
  have Hb := Lib.hid hb
  clear hA1 hA2 hB1 hB2 hall hb hks hts hkc1 hkc2 hlc1 hlc2
  go_enter Tryz.func9, Tryz.ntmps9
  go_upto_region 1 with (first
    | (have _ := w1; refine wpList_box_abs rfl 26 (.tmp 1) rfl [.int .i8 kd, .bool bb, .string t, .slice A2 ks.length c2, .slice B2 ls.length d2] rfl ?_; intro w2 hr2 hg2 hs2; clear hs2; simp only [Act.put, List.setIfInBounds_toArray, List.set_cons_zero, List.set_cons_succ])
    | (refine wpList_box_abs rfl 26 (.tmp 0) rfl [.int .i8 kd, .bool bb, .string t, .slice A1 ks.length c1, .slice B1 ls.length d1] rfl ?_; intro w1 hr1 hg1 hs1; clear hs1; simp only [Act.put, List.setIfInBounds_toArray, List.set_cons_zero, List.set_cons_succ]))
  have hg : w.grownBy w2 none := grown_own hg1 hg2 (by simp)
  have HX := Lib.hid (hr1.grown hg2 (by simp))
  have HY := Lib.hid hr2
  have HG := Lib.hid hg
  have a0 := HX.out.at_ (j := 0) rfl
  have a1 := HX.out.at_ (j := 1) rfl
  have a2 := HX.out.at_ (j := 2) rfl
  have a3 := HX.out.at_ (j := 3) rfl
  have a4 := HX.out.at_ (j := 4) rfl
  have b0 := HY.out.at_ (j := 0) rfl
  have b1 := HY.out.at_ (j := 1) rfl
  have b2 := HY.out.at_ (j := 2) rfl
  have b3 := HY.out.at_ (j := 3) rfl
  have b4 := HY.out.at_ (j := 4) rfl
  obtain ⟨p, hp⟩ : ∃ x, w.heap.size = x := ⟨_, rfl⟩
  obtain ⟨q, hq⟩ : ∃ x, w1.heap.size = x := ⟨_, rfl⟩
  rw [hp] at HX a0 a1 a2 a3 a4 ⊢
  rw [hq] at HY b0 b1 b2 b3 b4 ⊢
  have HP := Lib.hid hp
  clear hr1 hr2 hg1 hg2 hg hp hq
  go_upto_region 2 with (go_at_call 19; refine (eqTexts_same A1 A2 c1 c2 ks w2 (HA1.out.below (grown_below0 Hb.out HG.out (by simp))) (HA2.out.below (grown_below0 Hb.out HG.out (by simp))) hkl).mono ?_; rintro e w3 ⟨rfl, hg3⟩; have HG3 := Lib.hid (grown_own HG.out hg3 (by simp)); have HX3 := Lib.hid (HX.out.grown hg3 (by simp)); have HY3 := Lib.hid (HY.out.grown hg3 (by simp)); have a5 := HX3.out.at_ (j := 4) rfl; have b5 := HY3.out.at_ (j := 4) rfl; clear hg3)
  clear a0 a1 a2 a3 a4 b0 b1 b2 b3 b4 a5 b5
  go_loopw [5] (fun v wr => ∃ i : Nat, i ≤ ls.length ∧ v = .int .i64 (i : Int) ∧ Hid (Row wr p 26 [.int .i8 kd, .bool bb, .string t, .slice A1 ks.length c1, .slice B1 ls.length d1]) ∧ Hid (Row wr q 26 [.int .i8 kd, .bool bb, .string t, .slice A2 ks.length c2, .slice B2 ls.length d2]) ∧ Hid (w.grownBy wr none)) (fun v _ => ls.length - (intOf v).toNat)
  case atStart => exact ⟨0, by omega, rfl, HX3, HY3, HG3⟩
  case round =>
    clear HX3 HY3 HG3 HX HY HG
    obtain ⟨i, hi, rfl, HX, HY, HG⟩ := hrel
    have a4 := HX.out.at_ (j := 4) rfl
    have b4 := HY.out.at_ (j := 4) rfl
    by_cases hlt : i < ls.length
    · obtain ⟨jv, hjv⟩ : ∃ jv, ls[i]? = some jv := ⟨_, List.getElem?_eq_getElem hlt⟩
      obtain ⟨m1, f1, cj, rfl, hJ1, hcx⟩ := HB1.out.get hjv
      obtain ⟨p0, p1, p2, p3, p4, rfl⟩ := five_of hJ1.five
      obtain ⟨m2, f2, ck, rfl, hJ2, hcy⟩ := HB2.out.get hjv
      obtain ⟨r0, r1, r2, r3, r4, rfl⟩ := five_of hJ2.five
      have HJ := Lib.hid (And.intro hJ1 hJ2)
      have hB := grown_below0 Hb.out HG.out (by simp)
      have x0 : wr.cell? ⟨m1, f1 + i * 5, none⟩ = some p0 := by have := below_cell hB (hcx 0 _ rfl); rwa [show f1 + (0 + i * 5 + 0) = f1 + i * 5 by omega] at this
      have x1 : wr.cell? ⟨m1, f1 + i * 5 + 1, none⟩ = some p1 := by have := below_cell hB (hcx 1 _ rfl); rwa [show f1 + (0 + i * 5 + 1) = f1 + i * 5 + 1 by omega] at this
      have x2 : wr.cell? ⟨m1, f1 + i * 5 + 2, none⟩ = some p2 := by have := below_cell hB (hcx 2 _ rfl); rwa [show f1 + (0 + i * 5 + 2) = f1 + i * 5 + 2 by omega] at this
      have x3 : wr.cell? ⟨m1, f1 + i * 5 + 3, none⟩ = some p3 := by have := below_cell hB (hcx 3 _ rfl); rwa [show f1 + (0 + i * 5 + 3) = f1 + i * 5 + 3 by omega] at this
      have x4 : wr.cell? ⟨m1, f1 + i * 5 + 4, none⟩ = some p4 := by have := below_cell hB (hcx 4 _ rfl); rwa [show f1 + (0 + i * 5 + 4) = f1 + i * 5 + 4 by omega] at this
      have y0 : wr.cell? ⟨m2, f2 + i * 5, none⟩ = some r0 := by have := below_cell hB (hcy 0 _ rfl); rwa [show f2 + (0 + i * 5 + 0) = f2 + i * 5 by omega] at this
      have y1 : wr.cell? ⟨m2, f2 + i * 5 + 1, none⟩ = some r1 := by have := below_cell hB (hcy 1 _ rfl); rwa [show f2 + (0 + i * 5 + 1) = f2 + i * 5 + 1 by omega] at this
      have y2 : wr.cell? ⟨m2, f2 + i * 5 + 2, none⟩ = some r2 := by have := below_cell hB (hcy 2 _ rfl); rwa [show f2 + (0 + i * 5 + 2) = f2 + i * 5 + 2 by omega] at this
      have y3 : wr.cell? ⟨m2, f2 + i * 5 + 3, none⟩ = some r3 := by have := below_cell hB (hcy 3 _ rfl); rwa [show f2 + (0 + i * 5 + 3) = f2 + i * 5 + 3 by omega] at this
      have y4 : wr.cell? ⟨m2, f2 + i * 5 + 4, none⟩ = some r4 := by have := below_cell hB (hcy 4 _ rfl); rwa [show f2 + (0 + i * 5 + 4) = f2 + i * 5 + 4 by omega] at this
      have e1 : (i : Int) < (ls.length : Int) := by omega
      have hsm : ∀ W, Below wr.heap.size wr W → Calls Tryz.prog 9 #[.agg #[p0, p1, p2, p3, p4], .agg #[r0, r1, r2, r3, r4]] W fun e w' => e = .returned (.bool true) ∧ Below W.heap.size W w' := fun W hW =>
        IH.out jv (List.mem_of_getElem? hjv) [p0, p1, p2, p3, p4] [r0, r1, r2, r3, r4] W HJ.out.1 HJ.out.2 (HAll.out.get hjv) (grown_below0 Hb.out (grown_own HG.out (grown_of_below hW none) (by simp)) (by simp))
      have Hsm := Lib.hid hsm
      clear hsm hJ1 hJ2 hcx hcy hB hjv
      go_upto_region 6 with fail
      have ga := fun d os => cell_regrown a4 d os
      have gb := fun d os => cell_regrown b4 d os
      have gx0 := fun d os => cell_regrown x0 d os
      have gy0 := fun d os => cell_regrown y0 d os
      have gx1 := fun d os => cell_regrown x1 d os
      have gy1 := fun d os => cell_regrown y1 d os
      have gx2 := fun d os => cell_regrown x2 d os
      have gy2 := fun d os => cell_regrown y2 d os
      have gx3 := fun d os => cell_regrown x3 d os
      have gy3 := fun d os => cell_regrown y3 d os
      have gx4 := fun d os => cell_regrown x4 d os
      have gy4 := fun d os => cell_regrown y4 d os
      refine wp_region_quiet_below (by kernel_rfl) (by kernel_rfl) ?_
      repeat (go_big_quiet_step ((go_at_call 9; exact Calls.regrown_of (Hsm.out _ (below_regrown _ _ _)))))
      refine wpQuiet_nil ?_
      rintro _ ⟨pp, rfl⟩
      have hbp := below_regrown wr pp.d pp.os
      generalize hwz : Sort.grow (redrawn wr pp.d) pp.os = w5 at hbp ⊢
      have hg5 := grown_of_below hbp none
      have HX5 := Lib.hid (HX.out.grown hg5 (by simp))
      have HY5 := Lib.hid (HY.out.grown hg5 (by simp))
      have HG5 := Lib.hid (grown_own HG.out hg5 (by simp))
      clear hwz hbp hg5 ga gb gx0 gx1 gx2 gx3 gx4 gy0 gy1 gy2 gy3 gy4 a4 b4 x0 x1 x2 x3 x4 y0 y1 y2 y3 y4
      go_wp2_with fail
      go_roundw
      case rel => exact ⟨i + 1, by omega, by go_num, HX5, HY5, HG5⟩
      case measure => simp [intOf]; omega
    · have e1 : ¬ (i : Int) < (ls.length : Int) := by omega
      go_wp2_with fail
      go_ret
      exact ⟨rfl, below_of_grown HG.out⟩
mutual
theorem same_any (w0 : World) : ∀ j : J, SameIs w0 j
  | .mk kd b t ks ls => same_step w0 kd b t ks ls (sames_any w0 ls)
theorem sames_any (w0 : World) : ∀ ls : List J, ∀ x ∈ ls, SameIs w0 x
  | [], x, h => absurd h (by simp)
  | j :: js, x, h => by
    rcases List.mem_cons.1 h with e | e
    · rw [e]; exact same_any w0 j
    · exact sames_any w0 js x e
end
end
end Go.Proofs.YtlbilofnbhhmjaaGreatDoor
