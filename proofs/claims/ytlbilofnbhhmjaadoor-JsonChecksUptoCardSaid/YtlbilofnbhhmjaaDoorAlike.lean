/- The statements' own: a value, and the value with its members by rising keys, are alike. -/
import Derived.Test.YtlbilofnbhhmjaaDoorSame
import Derived.Test.YtlbilofnbhhmjaaDoorPVal
namespace Go.Proofs.YtlbilofnbhhmjaaDoor
open Go.RowKit
set_option linter.unusedVariables false
set_option linter.unusedSimpArgs false
def AlkIs (w0 : World) (x y : J) : Prop := ∀ (cs1 cs2 : List Value) (w : World), JR w0 x cs1 → JR w0 y cs2 → Below w0.heap.size w0 w →
  Calls Tryd.prog 20 #[.agg cs1.toArray, .agg cs2.toArray] w fun e w' => e = .returned (.bool true) ∧ Below w.heap.size w w'
set_option maxHeartbeats 6400000 in
set_option maxRecDepth 100000 in
theorem alike_list (w0 : World) (kd : Int) (bb : Bool) (t : ByteArray) (ks ks2 : List ByteArray) (ls ls2 : List J) (h5 : kd ≠ 5) (hlen : ls2.length = ls.length) (hll : ls.length ≤ 256) (IH : ∀ (i : Nat) x y, ls[i]? = some x → ls2[i]? = some y → AlkIs w0 x y) : AlkIs w0 (.mk kd bb t ks ls) (.mk kd bb t ks2 ls2) := by
  intro cs1 cs2 w hj1 hj2 hb
  unfold JR at hj1 hj2
  obtain ⟨A1, c1, B1, d1, rfl, hkc1, hlc1, hA1, hB1⟩ := hj1
  obtain ⟨A2, c2, B2, d2, rfl, hkc2, hlc2, hA2, hB2⟩ := hj2
  rw [hlen]
  have IH := Lib.hid IH
  have HB1 := Lib.hid hB1
  have HB2 := Lib.hid hB2
  have Hb := Lib.hid hb
  have Hlen := Lib.hid hlen
  have e5 : (kd != 5) = true := by simpa using h5
  clear hA1 hA2 hB1 hB2 hb hkc1 hkc2 hlc1 hlc2 hlen h5
  go_enter Tryd.func20, Tryd.ntmps20
  go_upto_region 1 with (first
    | (have _ := w1; refine wpList_box_abs rfl 29 (.tmp 1) rfl [.int .i8 kd, .bool bb, .string t, .slice A2 ks2.length c2, .slice B2 ls.length d2] rfl ?_; intro w2 hr2 hg2 hs2; clear hs2; simp only [Act.put, List.setIfInBounds_toArray, List.set_cons_zero, List.set_cons_succ])
    | (refine wpList_box_abs rfl 29 (.tmp 0) rfl [.int .i8 kd, .bool bb, .string t, .slice A1 ks.length c1, .slice B1 ls.length d1] rfl ?_; intro w1 hr1 hg1 hs1; clear hs1; simp only [Act.put, List.setIfInBounds_toArray, List.set_cons_zero, List.set_cons_succ]))
  have HX := Lib.hid (hr1.grown hg2 (by simp))
  have HY := Lib.hid hr2
  have HG := Lib.hid (show w.grownBy w2 none from grown_own hg1 hg2 (by simp))
  have a0 := HX.out.at_ (j := 0) rfl
  have a1 := HX.out.at_ (j := 1) rfl
  have a2 := HX.out.at_ (j := 2) rfl
  have a4 := HX.out.at_ (j := 4) rfl
  have b0 := HY.out.at_ (j := 0) rfl
  have b1 := HY.out.at_ (j := 1) rfl
  have b2 := HY.out.at_ (j := 2) rfl
  have b4 := HY.out.at_ (j := 4) rfl
  obtain ⟨p, hp⟩ : ∃ x, w.heap.size = x := ⟨_, rfl⟩
  obtain ⟨q, hq⟩ : ∃ x, w1.heap.size = x := ⟨_, rfl⟩
  rw [hp] at HX a0 a1 a2 a4 ⊢
  rw [hq] at HY b0 b1 b2 b4 ⊢
  have HP := Lib.hid hp
  clear hr1 hr2 hg1 hg2 hp hq
  go_wp2_with fail
  clear a0 a1 a2 a4 b0 b1 b2 b4
  go_loopw [5] (fun v wr => ∃ i : Nat, i ≤ ls.length ∧ v = .int .i64 (i : Int) ∧ Hid (Row wr p 29 [.int .i8 kd, .bool bb, .string t, .slice A1 ks.length c1, .slice B1 ls.length d1]) ∧ Hid (Row wr q 29 [.int .i8 kd, .bool bb, .string t, .slice A2 ks2.length c2, .slice B2 ls.length d2]) ∧ Hid (w.grownBy wr none)) (fun v _ => ls.length - (intOf v).toNat)
  case atStart => exact ⟨0, by omega, rfl, HX, HY, HG⟩
  case round =>
    clear HX HY HG
    obtain ⟨i, hi, rfl, HX, HY, HG⟩ := hrel
    have a4 := HX.out.at_ (j := 4) rfl
    have b4 := HY.out.at_ (j := 4) rfl
    by_cases hlt : i < ls.length
    · obtain ⟨jv, hjv⟩ : ∃ jv, ls[i]? = some jv := ⟨_, List.getElem?_eq_getElem hlt⟩
      obtain ⟨jw, hjw⟩ : ∃ jw, ls2[i]? = some jw := ⟨_, List.getElem?_eq_getElem (by rw [Hlen.out]; exact hlt)⟩
      obtain ⟨m1, f1, cj, rfl, hJ1, hcx⟩ := HB1.out.get hjv
      obtain ⟨p0, p1, p2, p3, p4, rfl⟩ := five_of hJ1.five
      obtain ⟨m2, f2, ck, rfl, hJ2, hcy⟩ := HB2.out.get hjw
      obtain ⟨r0, r1, r2, r3, r4, rfl⟩ := five_of hJ2.five
      have HJ := Lib.hid (And.intro hJ1 hJ2)
      have hB := grown_below0 Hb.out HG.out (by simp)
      have x0 : wr.cell? ⟨m1, f1 + i * 5, none⟩ = some p0 := by have := below_cell hB (hcx 0 _ rfl); rwa [show f1 + (0 + i * 5 + 0) = f1 + i * 5 by omega] at this
      have x1 : wr.cell? ⟨m1, f1 + i * 5 + 1, none⟩ = some p1 := by have := below_cell hB (hcx 1 _ rfl); rwa [show f1 + (0 + i * 5 + 1) = f1 + i * 5 + 1 by omega] at this
      have x2 : wr.cell? ⟨m1, f1 + i * 5 + 2, none⟩ = some p2 := by have := below_cell hB (hcx 2 _ rfl); rwa [show f1 + (0 + i * 5 + 2) = f1 + i * 5 + 2 by omega] at this
      have x3 : wr.cell? ⟨m1, f1 + i * 5 + 3, none⟩ = some p3 := by have := below_cell hB (hcx 3 _ rfl); rwa [show f1 + (0 + i * 5 + 3) = f1 + i * 5 + 3 by omega] at this
      have x4 : wr.cell? ⟨m1, f1 + i * 5 + 4, none⟩ = some p4 := by have := below_cell hB (hcx 4 _ rfl); rwa [show f1 + (0 + i * 5 + 4) = f1 + i * 5 + 4 by omega] at this
      have y0 : wr.cell? ⟨m2, f2 + i * 5, none⟩ = some r0 := by have := below_cell hB (hcy 0 _ rfl); rwa [show f2 + (0 + i * 5 + 0) = f2 + i * 5 by omega] at this
      have y1 : wr.cell? ⟨m2, f2 + i * 5 + 1, none⟩ = some r1 := by have := below_cell hB (hcy 1 _ rfl); rwa [show f2 + (0 + i * 5 + 1) = f2 + i * 5 + 1 by omega] at this
      have y2 : wr.cell? ⟨m2, f2 + i * 5 + 2, none⟩ = some r2 := by have := below_cell hB (hcy 2 _ rfl); rwa [show f2 + (0 + i * 5 + 2) = f2 + i * 5 + 2 by omega] at this
      have y3 : wr.cell? ⟨m2, f2 + i * 5 + 3, none⟩ = some r3 := by have := below_cell hB (hcy 3 _ rfl); rwa [show f2 + (0 + i * 5 + 3) = f2 + i * 5 + 3 by omega] at this
      have y4 : wr.cell? ⟨m2, f2 + i * 5 + 4, none⟩ = some r4 := by have := below_cell hB (hcy 4 _ rfl); rwa [show f2 + (0 + i * 5 + 4) = f2 + i * 5 + 4 by omega] at this
      have e1 : (i : Int) < (ls.length : Int) := by omega
      have hsm : ∀ W, Below wr.heap.size wr W → Calls Tryd.prog 20 #[.agg #[p0, p1, p2, p3, p4], .agg #[r0, r1, r2, r3, r4]] W fun e w' => e = .returned (.bool true) ∧ Below W.heap.size W w' := fun W hW =>
        IH.out i jv jw hjv hjw [p0, p1, p2, p3, p4] [r0, r1, r2, r3, r4] W HJ.out.1 HJ.out.2 (grown_below0 Hb.out (grown_own HG.out (grown_of_below hW none) (by simp)) (by simp))
      have Hsm := Lib.hid hsm
      clear hsm hJ1 hJ2 hcx hcy hB hjv hjw
      go_upto_region 7 with fail
      have ga := fun d os => cell_regrown a4 d os
      have gb := fun d os => cell_regrown b4 d os
      have gx0 := fun d os => cell_regrown x0 d os
      have gy0 := fun d os => cell_regrown y0 d os
      have gx1 := fun d os => cell_regrown x1 d os
      have gy1 := fun d os => cell_regrown y1 d os
      have gx2 := fun d os => cell_regrown x2 d os
      have gy2 := fun d os => cell_regrown y2 d os
      have gx3 := fun d os => cell_regrown x3 d os
      have gy3 := fun d os => cell_regrown y3 d os
      have gx4 := fun d os => cell_regrown x4 d os
      have gy4 := fun d os => cell_regrown y4 d os
      refine wp_region_quiet_below (by kernel_rfl) (by kernel_rfl) ?_
      repeat (go_big_quiet_step ((go_at_call 20; exact Calls.regrown_of (Hsm.out _ (below_regrown _ _ _)))))
      refine wpQuiet_nil ?_
      rintro _ ⟨pp, rfl⟩
      have hbp := below_regrown wr pp.d pp.os
      generalize hwz : Sort.grow (redrawn wr pp.d) pp.os = w5 at hbp ⊢
      have hg5 := grown_of_below hbp none
      have HX5 := Lib.hid (HX.out.grown hg5 (by simp))
      have HY5 := Lib.hid (HY.out.grown hg5 (by simp))
      have HG5 := Lib.hid (grown_own HG.out hg5 (by simp))
      clear hwz hbp hg5 ga gb gx0 gx1 gx2 gx3 gx4 gy0 gy1 gy2 gy3 gy4 a4 b4 x0 x1 x2 x3 x4 y0 y1 y2 y3 y4
      go_wp2_with fail
      go_roundw
      case rel => exact ⟨i + 1, by omega, by go_num, HX5, HY5, HG5⟩
      case measure => simp [intOf]; omega
    · have e1 : ¬ (i : Int) < (ls.length : Int) := by omega
      go_wp2_with fail
      go_ret
      exact ⟨rfl, below_of_grown HG.out⟩
theorem strAt_get {w : World} {A : Option Addr} {ks : List ByteArray} {i : Nat} {k : ByteArray} (h : StrAt w A ks) (hk : ks[i]? = some k) : ∃ b o, A = some ⟨b, o, none⟩ ∧ w.cell? ⟨b, o + i, none⟩ = some (.string k) := by
  obtain ⟨b, o, e, hc⟩ := h (by have := (List.getElem?_eq_some_iff.1 hk).1; omega)
  exact ⟨b, o, e, hc i k hk⟩
set_option maxHeartbeats 12800000 in
set_option maxRecDepth 100000 in
theorem alike_ob (w0 : World) (bb bb2 : Bool) (t t2 : ByteArray) (ks ks2 : List ByteArray) (ls ls2 : List J) (hl1 : ls.length = ks.length) (hl2 : ks2.length = ks.length) (hl3 : ls2.length = ks.length) (hll : ks.length ≤ 256)
    (hfind : ∀ i, i < ks.length → ∃ k, k < ks.length ∧ ks2[k]? = ks[i]?)
    (IH : ∀ (i k : Nat) x y, i < ks.length → k < ks.length → ks2[k]? = ks[i]? → ls[i]? = some x → ls2[k]? = some y → AlkIs w0 x y) : AlkIs w0 (.mk 5 bb t ks ls) (.mk 5 bb2 t2 ks2 ls2) := by
  intro cs1 cs2 w hj1 hj2 hb
  unfold JR at hj1 hj2
  obtain ⟨A1, c1, B1, d1, rfl, hkc1, hlc1, hA1, hB1⟩ := hj1
  obtain ⟨A2, c2, B2, d2, rfl, hkc2, hlc2, hA2, hB2⟩ := hj2
  rw [hl1, hl2, hl3]
  have IH := Lib.hid IH
  have Hfind := Lib.hid hfind
  have HA1 := Lib.hid hA1
  have HA2 := Lib.hid hA2
  have HB1 := Lib.hid hB1
  have HB2 := Lib.hid hB2
  have Hb := Lib.hid hb
  have Hl1 := Lib.hid hl1
  have Hl2 := Lib.hid hl2
  have Hl3 := Lib.hid hl3
  clear hA1 hA2 hB1 hB2 hb hkc1 hkc2 hlc1 hlc2 hfind hl1 hl2 hl3
  go_enter Tryd.func20, Tryd.ntmps20
  go_upto_region 1 with (first
    | (have _ := w1; refine wpList_box_abs rfl 29 (.tmp 1) rfl [.int .i8 5, .bool bb2, .string t2, .slice A2 ks.length c2, .slice B2 ks.length d2] rfl ?_; intro w2 hr2 hg2 hs2; clear hs2; simp only [Act.put, List.setIfInBounds_toArray, List.set_cons_zero, List.set_cons_succ])
    | (refine wpList_box_abs rfl 29 (.tmp 0) rfl [.int .i8 5, .bool bb, .string t, .slice A1 ks.length c1, .slice B1 ks.length d1] rfl ?_; intro w1 hr1 hg1 hs1; clear hs1; simp only [Act.put, List.setIfInBounds_toArray, List.set_cons_zero, List.set_cons_succ]))
  have HX := Lib.hid (hr1.grown hg2 (by simp))
  have HY := Lib.hid hr2
  have HG := Lib.hid (show w.grownBy w2 none from grown_own hg1 hg2 (by simp))
  have a0 := HX.out.at_ (j := 0) rfl
  have a3 := HX.out.at_ (j := 3) rfl
  have a4 := HX.out.at_ (j := 4) rfl
  have b0 := HY.out.at_ (j := 0) rfl
  have b3 := HY.out.at_ (j := 3) rfl
  have b4 := HY.out.at_ (j := 4) rfl
  obtain ⟨p, hp⟩ : ∃ x, w.heap.size = x := ⟨_, rfl⟩
  obtain ⟨q, hq⟩ : ∃ x, w1.heap.size = x := ⟨_, rfl⟩
  rw [hp] at HX a0 a3 a4 ⊢
  rw [hq] at HY b0 b3 b4 ⊢
  have HP := Lib.hid hp
  clear hr1 hr2 hg1 hg2 hp hq
  go_wp2_with fail
  clear a0 a3 a4 b0 b3 b4
  go_loopw [6] (fun v wr => ∃ i : Nat, i ≤ ks.length ∧ v = .int .i64 (i : Int) ∧ Hid (Row wr p 29 [.int .i8 5, .bool bb, .string t, .slice A1 ks.length c1, .slice B1 ks.length d1]) ∧ Hid (Row wr q 29 [.int .i8 5, .bool bb2, .string t2, .slice A2 ks.length c2, .slice B2 ks.length d2]) ∧ Hid (w.grownBy wr none)) (fun v _ => ks.length - (intOf v).toNat)
  case atStart => exact ⟨0, by omega, rfl, HX, HY, HG⟩
  case round =>
    clear HX HY HG
    obtain ⟨i, hi, rfl, HX, HY, HG⟩ := hrel
    have a3 := HX.out.at_ (j := 3) rfl
    by_cases hlt : i < ks.length
    · obtain ⟨ki, hki⟩ : ∃ x, ks[i]? = some x := ⟨_, List.getElem?_eq_getElem hlt⟩
      have Hki := Lib.hid hki
      clear hki
      have e1 : (i : Int) < (ks.length : Int) := by omega
      go_wp2_with fail
      clear a3
      go_loopw [7, 8] (fun u v wr => ∃ k : Nat, ∃ fb : Bool, k ≤ ks.length ∧ v = .int .i64 (k : Int) ∧ u = .bool fb ∧ Hid (∀ k', k' < k → ks2[k']? = some ki → fb = true) ∧ Hid (Row wr p 29 [.int .i8 5, .bool bb, .string t, .slice A1 ks.length c1, .slice B1 ks.length d1]) ∧ Hid (Row wr q 29 [.int .i8 5, .bool bb2, .string t2, .slice A2 ks.length c2, .slice B2 ks.length d2]) ∧ Hid (w.grownBy wr none)) (fun _ v _ => ks.length - (intOf v).toNat)
      case atStart => exact ⟨0, false, by omega, rfl, rfl, Lib.hid (fun k' h => by omega), HX, HY, HG⟩
      case round =>
        clear HX HY HG
        obtain ⟨k, fb, hk, rfl, rfl, HF, HX, HY, HG⟩ := hrel
        have b3 := HY.out.at_ (j := 3) rfl
        by_cases hkl : k < ks.length
        · have e2 : (k : Int) < (ks.length : Int) := by omega
          obtain ⟨kk, hkk⟩ : ∃ x, ks2[k]? = some x := ⟨_, List.getElem?_eq_getElem (by rw [Hl2.out]; exact hkl)⟩
          obtain ⟨g1, o1, rfl, hc1⟩ := strAt_get HA1.out Hki.out
          obtain ⟨g2, o2, rfl, hc2⟩ := strAt_get HA2.out hkk
          have Hkk := Lib.hid hkk
          clear hkk
          have hB := grown_below0 Hb.out HG.out (by simp)
          have z1 := below_cell hB hc1
          have z2 := below_cell hB hc2
          clear hc1 hc2
          cases fb with
          | true =>
            clear hB z1 z2
            go_wp2_with fail
            go_quiet (fail)
            have HX2 := Lib.hid (HX.out.drewN nq)
            have HY2 := Lib.hid (HY.out.drewN nq)
            have HG2 := Lib.hid (grown_drewN HG.out nq)
            generalize hw : wr.drewN nq = w2' at HX2 HY2 HG2
            clear hw b3
            go_wp2_with fail
            go_roundw
            case rel => exact ⟨k + 1, true, by omega, by go_num, rfl, Lib.hid (fun _ _ _ => rfl), HX2, HY2, HG2⟩
            case measure => simp [intOf]; omega
          | false =>
            have a3 := HX.out.at_ (j := 3) rfl
            by_cases he : kk = ki
            · subst he
              have a4 := HX.out.at_ (j := 4) rfl
              have b4 := HY.out.at_ (j := 4) rfl
              obtain ⟨jv, hjv⟩ : ∃ jv, ls[i]? = some jv := ⟨_, List.getElem?_eq_getElem (by rw [Hl1.out]; exact hlt)⟩
              obtain ⟨jw, hjw⟩ : ∃ jw, ls2[k]? = some jw := ⟨_, List.getElem?_eq_getElem (by rw [Hl3.out]; exact hkl)⟩
              obtain ⟨m1, f1, cj, rfl, hJ1, hcx⟩ := HB1.out.get hjv
              obtain ⟨p0, p1, p2, p3, p4, rfl⟩ := five_of hJ1.five
              obtain ⟨m2, f2, ck, rfl, hJ2, hcy⟩ := HB2.out.get hjw
              obtain ⟨r0, r1, r2, r3, r4, rfl⟩ := five_of hJ2.five
              have HJ := Lib.hid (And.intro hJ1 hJ2)
              have x0 : wr.cell? ⟨m1, f1 + i * 5, none⟩ = some p0 := by have := below_cell hB (hcx 0 _ rfl); rwa [show f1 + (0 + i * 5 + 0) = f1 + i * 5 by omega] at this
              have x1 : wr.cell? ⟨m1, f1 + i * 5 + 1, none⟩ = some p1 := by have := below_cell hB (hcx 1 _ rfl); rwa [show f1 + (0 + i * 5 + 1) = f1 + i * 5 + 1 by omega] at this
              have x2 : wr.cell? ⟨m1, f1 + i * 5 + 2, none⟩ = some p2 := by have := below_cell hB (hcx 2 _ rfl); rwa [show f1 + (0 + i * 5 + 2) = f1 + i * 5 + 2 by omega] at this
              have x3 : wr.cell? ⟨m1, f1 + i * 5 + 3, none⟩ = some p3 := by have := below_cell hB (hcx 3 _ rfl); rwa [show f1 + (0 + i * 5 + 3) = f1 + i * 5 + 3 by omega] at this
              have x4 : wr.cell? ⟨m1, f1 + i * 5 + 4, none⟩ = some p4 := by have := below_cell hB (hcx 4 _ rfl); rwa [show f1 + (0 + i * 5 + 4) = f1 + i * 5 + 4 by omega] at this
              have y0 : wr.cell? ⟨m2, f2 + k * 5, none⟩ = some r0 := by have := below_cell hB (hcy 0 _ rfl); rwa [show f2 + (0 + k * 5 + 0) = f2 + k * 5 by omega] at this
              have y1 : wr.cell? ⟨m2, f2 + k * 5 + 1, none⟩ = some r1 := by have := below_cell hB (hcy 1 _ rfl); rwa [show f2 + (0 + k * 5 + 1) = f2 + k * 5 + 1 by omega] at this
              have y2 : wr.cell? ⟨m2, f2 + k * 5 + 2, none⟩ = some r2 := by have := below_cell hB (hcy 2 _ rfl); rwa [show f2 + (0 + k * 5 + 2) = f2 + k * 5 + 2 by omega] at this
              have y3 : wr.cell? ⟨m2, f2 + k * 5 + 3, none⟩ = some r3 := by have := below_cell hB (hcy 3 _ rfl); rwa [show f2 + (0 + k * 5 + 3) = f2 + k * 5 + 3 by omega] at this
              have y4 : wr.cell? ⟨m2, f2 + k * 5 + 4, none⟩ = some r4 := by have := below_cell hB (hcy 4 _ rfl); rwa [show f2 + (0 + k * 5 + 4) = f2 + k * 5 + 4 by omega] at this
              have hsm : ∀ W, Below wr.heap.size wr W → Calls Tryd.prog 20 #[.agg #[p0, p1, p2, p3, p4], .agg #[r0, r1, r2, r3, r4]] W fun e w' => e = .returned (.bool true) ∧ Below W.heap.size W w' := fun W hW =>
                IH.out i k jv jw hlt hkl (by rw [Hki.out, Hkk.out]) hjv hjw [p0, p1, p2, p3, p4] [r0, r1, r2, r3, r4] W HJ.out.1 HJ.out.2 (grown_below0 Hb.out (grown_own HG.out (grown_of_below hW none) (by simp)) (by simp))
              have Hsm := Lib.hid hsm
              clear hsm hJ1 hJ2 hcx hcy hB hjv hjw
              go_upto_region 19 with fail
              have ga3 := fun d os => cell_regrown a3 d os
              have ga4 := fun d os => cell_regrown a4 d os
              have gb3 := fun d os => cell_regrown b3 d os
              have gb4 := fun d os => cell_regrown b4 d os
              have gz1 := fun d os => cell_regrown z1 d os
              have gz2 := fun d os => cell_regrown z2 d os
              have gx0 := fun d os => cell_regrown x0 d os
              have gx1 := fun d os => cell_regrown x1 d os
              have gx2 := fun d os => cell_regrown x2 d os
              have gx3 := fun d os => cell_regrown x3 d os
              have gx4 := fun d os => cell_regrown x4 d os
              have gy0 := fun d os => cell_regrown y0 d os
              have gy1 := fun d os => cell_regrown y1 d os
              have gy2 := fun d os => cell_regrown y2 d os
              have gy3 := fun d os => cell_regrown y3 d os
              have gy4 := fun d os => cell_regrown y4 d os
              refine wp_region_quiet_below (by kernel_rfl) (by kernel_rfl) ?_
              repeat (go_big_quiet_step ((go_at_call 20; exact Calls.regrown_of (Hsm.out _ (below_regrown _ _ _)))))
              refine wpQuiet_nil ?_
              rintro _ ⟨pp, rfl⟩
              have hbp := below_regrown wr pp.d pp.os
              generalize hwz : Sort.grow (redrawn wr pp.d) pp.os = w5 at hbp ⊢
              have hg5 := grown_of_below hbp none
              have HX5 := Lib.hid (HX.out.grown hg5 (by simp))
              have HY5 := Lib.hid (HY.out.grown hg5 (by simp))
              have HG5 := Lib.hid (grown_own HG.out hg5 (by simp))
              clear hwz hbp hg5 a3 ga3 a4 ga4 b3 gb3 b4 gb4 z1 gz1 z2 gz2 x0 gx0 x1 gx1 x2 gx2 x3 gx3 x4 gx4 y0 gy0 y1 gy1 y2 gy2 y3 gy3 y4 gy4
              go_wp2_with fail
              go_roundw
              case rel => exact ⟨k + 1, true, by omega, by go_num, rfl, Lib.hid (fun _ _ _ => rfl), HX5, HY5, HG5⟩
              case measure => simp [intOf]; omega
            · have e3 : (ki.toList == kk.toList) = false := by
                rw [beq_eq_false_iff_ne]; intro e; exact he (toList_inj e).symm
              have Hne := Lib.hid he
              clear hB he
              go_wp2_with fail
              go_quiet (fail)
              have HX2 := Lib.hid (HX.out.drewN nq)
              have HY2 := Lib.hid (HY.out.drewN nq)
              have HG2 := Lib.hid (grown_drewN HG.out nq)
              generalize hw : wr.drewN nq = w2' at HX2 HY2 HG2
              clear hw b3 a3 z1 z2 e3
              go_wp2_with fail
              go_roundw
              case rel => exact ⟨k + 1, false, by omega, by go_num, rfl, Lib.hid (fun k' h1 h2 => by
                by_cases e : k' = k
                · subst e; rw [Hkk.out] at h2; exact absurd (Option.some.inj h2) Hne.out
                · exact HF.out k' (by omega) h2), HX2, HY2, HG2⟩
              case measure => simp [intOf]; omega
        · have e2 : ¬ (k : Int) < (ks.length : Int) := by omega
          obtain ⟨k', h1, h2⟩ := Hfind.out i hlt
          obtain rfl : fb = true := HF.out k' (by omega) (by rw [h2]; exact Hki.out)
          clear h1 h2
          go_wp2_with fail
          go_roundw
          case rel => exact ⟨i + 1, by omega, by go_num, HX, HY, HG⟩
          case measure => simp [intOf]; omega
    · have e1 : ¬ (i : Int) < (ks.length : Int) := by omega
      go_wp2_with fail
      go_ret
      exact ⟨rfl, below_of_grown HG.out⟩
/-- A right value and the value with its members by rising keys. -/
theorem alike_sort (w0 : World) : ∀ (f : Nat) (j : J), Right f j → AlkIs w0 j (sortJ f j)
  | 0, j, h => h.elim
  | f + 1, j, h => by
    have hK := right_kind h
    unfold Right at h
    obtain ⟨h1, h2, h3, h4, h5, h6⟩ := h
    by_cases h50 : j.kd = 5
    · obtain ⟨hkd, hbl, htx⟩ := sort_kd (f + 1) j
      obtain ⟨e1, e2⟩ := sort_obj (f := f) h50
      have hl := (hK.k5 h50).2
      have ej := j.eta
      have es := (sortJ (f + 1) j).eta
      rw [hkd, hbl, htx, e1, e2, h50] at es
      rw [es]
      rw [h50] at ej
      have ho : ∀ k, k < j.ks.length → ∃ o, (ordOf j.ks)[k]? = some o ∧ o < j.ks.length := fun k hk => by
        have hk2 : k < (ordOf j.ks).length := by rw [ord_len]; exact hk
        exact ⟨_, List.getElem?_eq_getElem hk2, ord_mem.1 (List.getElem_mem _)⟩
      have key := alike_ob w0 j.bl j.bl j.tx j.tx j.ks ((ordOf j.ks).map fun i => j.ks.getD i ⟨#[]⟩) j.ls ((ordOf j.ks).map fun i => sortJ f (j.ls.getD i J.zero)) hl.symm (by rw [List.length_map, ord_len]) (by rw [List.length_map, ord_len]) (by omega)
        (fun i hi => by
          obtain ⟨k, hk, e⟩ := List.getElem_of_mem (ord_mem.2 hi)
          refine ⟨k, by rw [ord_len] at hk; exact hk, ?_⟩
          rw [List.getElem?_map, List.getElem?_eq_getElem hk, e, Option.map_some, getD_at hi, List.getElem?_eq_getElem hi])
        (fun i k x y hi hk hkey hx hy => by
          obtain ⟨o, ho1, ho2⟩ := ho k hk
          rw [List.getElem?_map, ho1, Option.map_some, getD_at ho2, List.getElem?_eq_getElem hi] at hkey
          rw [List.getElem?_map, ho1, Option.map_some] at hy
          have hnd := (h5 h50).2
          obtain rfl : o = i := by
            have e := Option.some.inj hkey
            rw [List.nodup_iff_pairwise_ne, List.pairwise_iff_getElem] at hnd
            rcases Nat.lt_trichotomy o i with h | h | h
            · exact absurd e (hnd o i ho2 hi h)
            · exact h
            · exact absurd e.symm (hnd i o hi ho2 h)
          rw [List.getD_eq_getElem?_getD, hx] at hy
          obtain rfl : sortJ f x = y := Option.some.inj hy
          exact alike_sort w0 f x (h6 x (List.mem_of_getElem? hx)))
      rw [← ej] at key
      exact key
    · obtain ⟨hkd, hbl, htx⟩ := sort_kd (f + 1) j
      obtain ⟨e1, e2⟩ := sort_flat (f := f) h50
      have ej := j.eta
      have es := (sortJ (f + 1) j).eta
      rw [hkd, hbl, htx, e1, e2] at es
      rw [es]
      have key := alike_list w0 j.kd j.bl j.tx j.ks j.ks j.ls (j.ls.map (sortJ f)) h50 (by simp) h2 (fun i x y hx hy => by
        rw [List.getElem?_map, hx] at hy
        obtain rfl : sortJ f x = y := Option.some.inj hy
        exact alike_sort w0 f x (h6 x (List.mem_of_getElem? hx)))
      rw [← ej] at key
      exact key
end Go.Proofs.YtlbilofnbhhmjaaDoor
