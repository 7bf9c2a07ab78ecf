/- json's check: the walk. -/
import Derived.Test.YtlbilofnbhhmjaaGreatDoorShape
import Derived.Test.YtlbilofnbhhmjaaGreatDoorList
import Derived.Test.YtlbilofnbhhmjaaGreatDoorSpec
namespace Go.Proofs.YtlbilofnbhhmjaaGreatDoor
open Go.RowKit
set_option linter.unusedVariables false
set_option linter.unusedSimpArgs false
/-- The counter's block, the value's box, what has grown. -/
structure ChAt (w0 w wr : World) (g Bb : Nat) (cs : List Value) (n : Int) : Prop where
  cnt : Row wr g 63 [.int .i64 n]
  box : Row wr Bb 26 cs
  grown : w.grownBy wr (some g)
  below : Below w0.heap.size w0 wr
theorem grown_below0 {w0 w wr : World} {row : Option Nat} (h : Below w0.heap.size w0 w) (hg : w.grownBy wr row) (hr : ∀ x, row = some x → w0.heap.size ≤ x) : Below w0.heap.size w0 wr :=
  ⟨hg.os.trans h.os, hg.tape.trans h.tape, hg.output.trans h.output, Nat.le_trans h.size hg.size, fun i hi => (hg.block i (Nat.lt_of_lt_of_le hi h.size) (fun e => by have := hr i e.symm; omega)).trans (h.block i hi)⟩
theorem ChAt.keep {w0 w wr w2 : World} {g Bb : Nat} {cs : List Value} {n : Int} (h : ChAt w0 w wr g Bb cs n) (hg : wr.grownBy w2 none) : ChAt w0 w w2 g Bb cs n :=
  ⟨h.cnt.grown hg (by simp), h.box.grown hg (by simp), grown_trans h.grown (grown_none hg _), grown_below0 h.below hg (by simp)⟩
theorem ChAt.call {w0 w wr w2 : World} {g Bb : Nat} {cs : List Value} {n n2 : Int} (h : ChAt w0 w wr g Bb cs n) (hg : wr.grownBy w2 (some g)) (hr : Row w2 g 63 [.int .i64 n2]) (hne : g < Bb) (hg0 : w0.heap.size ≤ g) : ChAt w0 w w2 g Bb cs n2 :=
  ⟨hr, h.box.grown hg (by simp; omega), grown_trans h.grown hg, grown_below0 h.below hg (fun x hx => by have := Option.some.inj hx; omega)⟩
theorem ChAt.own {w0 w wr w2 : World} {g Bb m : Nat} {cs : List Value} {n : Int} (h : ChAt w0 w wr g Bb cs n) (hg : wr.grownBy w2 (some m)) (hm : Bb < m) (hgb : g < Bb) (hb : w.heap.size ≤ Bb) (hw : w0.heap.size ≤ w.heap.size) : ChAt w0 w w2 g Bb cs n :=
  ⟨h.cnt.grown hg (by simp; omega), h.box.grown hg (by simp; omega), grown_own h.grown hg (fun x hx => .inr (by have := Option.some.inj hx; omega)), grown_below0 h.below hg (fun x hx => by have := Option.some.inj hx; omega)⟩
theorem checkV_zero {kd : Int} {bb : Bool} {t : ByteArray} {ks : List ByteArray} {ls : List J} {d n : Int} (h : checkV (.mk kd bb t ks ls) d n = 0) : n ≤ 8192 ∧ d ≤ 16 ∧ shapeV kd bb t ks.length ls.length = true ∧ ls.length ≤ 256 := by
  unfold checkV at h
  simp only [J.kd, J.bl, J.tx, J.ks, J.ls] at h
  have a : ¬ 8192 < n := fun a => by simp [a] at h
  have b : ¬ 16 < d := fun b => by simp [a, b] at h
  have c : shapeV kd bb t ks.length ls.length = true := by
    cases hc : shapeV kd bb t ks.length ls.length with
    | false => simp [a, b, hc] at h
    | true => rfl
  have e : ¬ 256 < ls.length := fun e => by simp [a, b, c, e] at h
  exact ⟨by omega, by omega, c, by omega⟩
theorem tabs_below {w w' : World} (h : Lib.Utf8Tabs 1 2 w) (hb : Below w.heap.size w w') : Lib.Utf8Tabs 1 2 w' := tabs_grown h (grown_of_below hb none) (by simp) (by simp)
theorem numberEnd0 (s : ByteArray) (w : World) (hs : s.size ≤ 140737488355328) :
    Calls Tryz.prog 20 #[.string s, .int .i64 0] w fun e w' => e = .returned (.int .i64 (numV (num s 0))) ∧ w' = w := (numberEnd_any 0 s w hs (Nat.zero_le _)).mono fun e w' ⟨h1, h2⟩ => ⟨h1, h2.symm⟩
theorem valid_any (s : ByteArray) (w : World) (hs : s.size ≤ 9223372036854775807) (hT : Lib.Utf8Tabs 1 2 w) :
    Calls Tryz.prog 47 #[.string s] w fun e w' => e = .returned (.bool (validB s)) ∧ w.grownBy w' none :=
  (Tryz.utf8_ValidString s w hs hT).mono fun e w' ⟨h1, h2⟩ => ⟨h1, grown_of_below h2 none⟩
def CheckIs (w0 : World) (g f : Nat) : Prop := ∀ (j : J) (cs : List Value) (d n : Int) (w : World), JR w0 j cs → JAll (JSz 140737488355328) j → Below w0.heap.size w0 w → Row w g 63 [.int .i64 n] →
    0 ≤ n → n ≤ 8192 → 1 ≤ d → d ≤ 17 → 18 ≤ (f : Int) + d → Calls Tryz.prog 30 #[.pointer (some ⟨g, 0, none⟩), .agg cs.toArray, .int .i64 d] w (CheckPost (checkJ f j d n) g w)
set_option maxHeartbeats 12800000 in
set_option maxRecDepth 100000 in
theorem check_step (w0 : World) (hT : Lib.Utf8Tabs 1 2 w0) (g : Nat) (hg0 : w0.heap.size ≤ g) (f : Nat) (IH : CheckIs w0 g f) : CheckIs w0 g (f + 1) := by
    rintro ⟨kd, bb, t, ks, ls⟩ cs d n w hj hsz hb hr hn0 hn1 hd0 hd1 hf
    have IH := Lib.hid IH
    obtain ⟨RES, hR⟩ : ∃ r, checkJ (f + 1) (.mk kd bb t ks ls) d n = r := ⟨_, rfl⟩
    rw [hR]
    have HR := Lib.hid hR
    have HT := Lib.hid hT
    unfold JR at hj
    obtain ⟨A, c, B, dd, rfl, hkc, hlc, hA, hB⟩ := hj
    unfold JAll at hsz
    obtain ⟨⟨hts, hkl, hll, hks⟩, hall⟩ := hsz
    simp only [J.tx, J.ks, J.ls] at hts hkl hll hks
    have HA := Lib.hid hA
    have HB := Lib.hid hB
    have HKS := Lib.hid hks
    have HAll := Lib.hid hall
    have Hr := Lib.hid hr
    have Hb := Lib.hid hb
    have Hg0 := Lib.hid hg0
    have Hf := Lib.hid hf
    have Hkc := Lib.hid hkc
    have Hlc := Lib.hid hlc
    obtain ⟨cs, hcs⟩ : ∃ cs : List Value, [Value.int .i8 kd, .bool bb, .string t, .slice A ks.length c, .slice B ls.length dd] = cs := ⟨_, rfl⟩
    have Hcs := Lib.hid hcs
    have hcz : cs.length = 5 := by rw [← hcs]; rfl
    have H1 : Hid (∀ v ∈ cs, v.oneCell' = true) := Lib.hid (by rw [← hcs]; intro v hv; simp at hv; rcases hv with rfl | rfl | rfl | rfl | rfl <;> rfl)
    have hmm := @run_makeMap Tryz.prog
    rw [hcs]
    have cc := hr.at_ (j := 0) rfl
    have dc := hr.frozen 0
    clear hR hT hA hB hks hall hr hb hg0 hf hkc hlc hcs
    go_enter Tryz.func30, Tryz.ntmps30
    go_upto_region 1 with (refine wpList_box_abs rfl 26 (.tmp 1) rfl cs rfl ?_; intro w1 hr1 hg1 hs1; simp only [Act.put, List.setIfInBounds_toArray, List.set_cons_zero, List.set_cons_succ])
    have HC0 : Hid (ChAt w0 w (w1.setCell ⟨g, 0, none⟩ (.int .i64 (n + 1))) g w.heap.size cs (n + 1)) := Lib.hid (by
      have hlt := Hr.out.lt
      have hgs := grown_set (grown_refl w1 (some g)) (.inl rfl) 0 (.int .i64 (n + 1))
      have hb1 := grown_below0 Hb.out hg1 (by simp)
      exact ⟨Row.set (Hr.out.grown hg1 (by simp)) 0 _, hr1.grown hgs (by simp; omega), grown_trans (grown_none hg1 _) hgs, grown_below0 hb1 hgs (fun x hx => by have := Option.some.inj hx; have := Hg0.out; omega)⟩)
    have cc1 := (Hr.out.grown hg1 (by simp)).at_ (j := 0) rfl
    have dc1 := (Hr.out.grown hg1 (by simp)).frozen 0
    clear cc dc hr1 hg1 hs1
    go_upto_block 0 with fail
    obtain ⟨n1, hn⟩ : ∃ m, n + 1 = m := ⟨_, rfl⟩
    rw [hn] at HC0
    generalize hW2 : w1.setCell ⟨g, 0, none⟩ (.int .i64 (n + 1)) = W2
    rw [hn] at hW2
    rw [hW2] at HC0
    have hm0 : 1 ≤ n1 := by omega
    have hm1 : n1 ≤ 8193 := by omega
    have HRV : Hid ((if checkV (.mk kd bb t ks ls) d n1 ≠ 0 then (checkV (.mk kd bb t ks ls) d n1, n1) else checkItems (fun v m => checkJ f v (d + 1) m) (decide (kd = 5)) ks 0 ls n1) = RES) := Lib.hid (by rw [← HR.out, ← hn]; rfl)
    clear hW2 cc1 dc1 HR
    have Hn := Lib.hid hn
    clear hn
    have hsh : Hid (∀ W, Calls Tryz.prog 46 #[.agg cs.toArray] W fun e w' => e = .returned (.bool (shapeV kd bb t ks.length ls.length)) ∧ W.grownBy w' none) := Lib.hid (fun W => by rw [← Hcs.out]; exact shape_any kd bb t A B ks.length c ls.length dd W)
    go_cut [] (fun wx => Hid (ChAt w0 w wx g w.heap.size cs n1) ∧ Hid (checkV (.mk kd bb t ks ls) d n1 = 0))
    case first =>
      have cc := HC0.out.cnt.at_ (j := 0) rfl
      by_cases h1 : 8192 < n1
      · have hx := True.intro
        have HE : Hid (RES = (3, n1)) := Lib.hid (by
          have hv : checkV (.mk kd bb t ks ls) d n1 = 3 := by unfold checkV; simp only [J.kd, J.bl, J.tx, J.ks, J.ls]; rw [if_pos h1]
          rw [← HRV.out, hv]; rfl)
        go_wp2_with fail
        go_ret
        rw [HE.out]
        exact ⟨rfl, HC0.out.cnt, HC0.out.grown⟩
      have d1 : decide (8192 < n1) = false := by simp; omega
      by_cases h2 : 16 < d
      · have hx := True.intro
        have HE : Hid (RES = (133, n1)) := Lib.hid (by
          have hv : checkV (.mk kd bb t ks ls) d n1 = 133 := by unfold checkV; simp only [J.kd, J.bl, J.tx, J.ks, J.ls]; rw [if_neg h1, if_pos h2]
          rw [← HRV.out, hv]; rfl)
        go_wp2_with fail
        go_ret
        rw [HE.out]
        exact ⟨rfl, HC0.out.cnt, HC0.out.grown⟩
      have d2 : decide (16 < d) = false := by simp; omega
      cases h3 : shapeV kd bb t ks.length ls.length with
      | false =>
        have HE : Hid (RES = (134, n1)) := Lib.hid (by
          have hv : checkV (.mk kd bb t ks ls) d n1 = 134 := by unfold checkV; simp only [J.kd, J.bl, J.tx, J.ks, J.ls]; simp [h1, h2, h3]
          rw [← HRV.out, hv]; rfl)
        have H3 := Lib.hid h3
        clear h3
        go_wp2_with (first
          | (refine wpList_load_Row rfl 26 _ rfl w.heap.size rfl cs 26 HC0.out.box _ Tryz.underlying26 rfl (by rw [hcz]; exact size29) ?_; simp only [Act.put, List.setIfInBounds_toArray, List.set_cons_zero, List.set_cons_succ])
          | (go_at_call 46; refine (hsh.out W2).mono ?_; rintro e w3 ⟨rfl, hg3⟩; rw [H3.out]; have HC3 := Lib.hid (HC0.out.keep hg3); clear hg3))
        go_ret
        rw [HE.out]
        exact ⟨rfl, HC3.out.cnt, HC3.out.grown⟩
      | true =>
        have H3 := Lib.hid h3
        by_cases h4 : 256 < ls.length
        · have hx := True.intro
          have HE : Hid (RES = (3, n1)) := Lib.hid (by
            have hv : checkV (.mk kd bb t ks ls) d n1 = 3 := by unfold checkV; simp only [J.kd, J.bl, J.tx, J.ks, J.ls]; simp [h1, h2, h3, h4]
            rw [← HRV.out, hv]; rfl)
          clear h3
          have d4 : decide (256 < ls.length) = true := by simpa using h4
          go_wp2_with (first
            | (refine wpList_load_Row rfl 26 _ rfl w.heap.size rfl cs 26 HC0.out.box _ Tryz.underlying26 rfl (by rw [hcz]; exact size29) ?_; simp only [Act.put, List.setIfInBounds_toArray, List.set_cons_zero, List.set_cons_succ])
            | (go_at_call 46; refine (hsh.out W2).mono ?_; rintro e w3 ⟨rfl, hg3⟩; rw [H3.out]; have HC3 := Lib.hid (HC0.out.keep hg3); have cl : w3.cell? ⟨w.heap.size, 4, none⟩ = some (.slice B ls.length dd) := HC3.out.box.at_ (by rw [← Hcs.out]; rfl); clear hg3))
          go_ret
          rw [HE.out]
          exact ⟨rfl, HC3.out.cnt, HC3.out.grown⟩
        · have hx := True.intro
          have d4 : decide (256 < ls.length) = false := by simpa using h4
          have hl256 : ls.length ≤ 256 := by omega
          by_cases k2 : kd = 2
          · have b2 : (kd == 2) = true := by simpa using k2
            have b3 : (kd == 3) = false := by simp; omega
            cases h5 : numB t with
            | false =>
              have HE : Hid (RES = (130, n1)) := Lib.hid (by
                have hv : checkV (.mk kd bb t ks ls) d n1 = 130 := by unfold checkV; simp only [J.kd, J.bl, J.tx, J.ks, J.ls]; have h3' := h3; rw [k2] at h3'; simp [h1, h2, h3', h4, k2, h5]
                rw [← HRV.out, hv]; rfl)
              have hq : (numV (num t 0) != (t.size : Int)) = true := by unfold numB at h5; simpa using h5
              clear h3 h5
              go_upto_region 10 with (first
            | (refine wpList_load_Row rfl 26 _ rfl w.heap.size rfl cs 26 HC0.out.box _ Tryz.underlying26 rfl (by rw [hcz]; exact size29) ?_; simp only [Act.put, List.setIfInBounds_toArray, List.set_cons_zero, List.set_cons_succ])
            | (go_at_call 46; refine (hsh.out W2).mono ?_; rintro e w3 ⟨rfl, hg3⟩; rw [H3.out]; have HC3 := Lib.hid (HC0.out.keep hg3); have cl : w3.cell? ⟨w.heap.size, 4, none⟩ = some (.slice B ls.length dd) := HC3.out.box.at_ (by rw [← Hcs.out]; rfl); have ck : w3.cell? ⟨w.heap.size, 0, none⟩ = some (.int .i8 kd) := HC3.out.box.at_ (by rw [← Hcs.out]; rfl); have ct : w3.cell? ⟨w.heap.size, 2, none⟩ = some (.string t) := HC3.out.box.at_ (by rw [← Hcs.out]; rfl); clear hg3))
              go_quiet ((go_at_call 20; exact Calls.quiet_of_same (numberEnd0 t _ hts)))
              have HC4 := Lib.hid (HC3.out.keep (grown_drewN (grown_refl w3 none) nq))
              go_wp2_with fail
              go_ret
              rw [HE.out]
              exact ⟨rfl, HC4.out.cnt, HC4.out.grown⟩
            | true =>
              have HV0 : Hid (checkV (.mk kd bb t ks ls) d n1 = 0) := Lib.hid (by unfold checkV; simp only [J.kd, J.bl, J.tx, J.ks, J.ls]; have h3' := h3; rw [k2] at h3'; simp [h1, h2, h3', h4, k2, h5])
              have hq : (numV (num t 0) != (t.size : Int)) = false := by unfold numB at h5; simpa using h5
              clear h3 h5
              go_upto_region 10 with (first
            | (refine wpList_load_Row rfl 26 _ rfl w.heap.size rfl cs 26 HC0.out.box _ Tryz.underlying26 rfl (by rw [hcz]; exact size29) ?_; simp only [Act.put, List.setIfInBounds_toArray, List.set_cons_zero, List.set_cons_succ])
            | (go_at_call 46; refine (hsh.out W2).mono ?_; rintro e w3 ⟨rfl, hg3⟩; rw [H3.out]; have HC3 := Lib.hid (HC0.out.keep hg3); have cl : w3.cell? ⟨w.heap.size, 4, none⟩ = some (.slice B ls.length dd) := HC3.out.box.at_ (by rw [← Hcs.out]; rfl); have ck : w3.cell? ⟨w.heap.size, 0, none⟩ = some (.int .i8 kd) := HC3.out.box.at_ (by rw [← Hcs.out]; rfl); have ct : w3.cell? ⟨w.heap.size, 2, none⟩ = some (.string t) := HC3.out.box.at_ (by rw [← Hcs.out]; rfl); clear hg3))
              go_quiet ((go_at_call 20; exact Calls.quiet_of_same (numberEnd0 t _ hts)))
              have HC4 := Lib.hid (HC3.out.keep (grown_drewN (grown_refl w3 none) nq))
              have ck4 : (w3.drewN nq).cell? ⟨w.heap.size, 0, none⟩ = some (.int .i8 kd) := HC4.out.box.at_ (by rw [← Hcs.out]; rfl)
              generalize hw4 : w3.drewN nq = w4 at HC4 ck4
              clear hw4 ck ct cl HC3
              go_wp2_with fail
              go_meet
              case rel => exact ⟨HC4, HV0⟩
          · have b2 : (kd == 2) = false := by simpa using k2
            by_cases k3 : kd = 3
            · have b3 : (kd == 3) = true := by simpa using k3
              cases h5 : validB t with
              | false =>
                have HE : Hid (RES = (131, n1)) := Lib.hid (by
                  have hv : checkV (.mk kd bb t ks ls) d n1 = 131 := by unfold checkV; simp only [J.kd, J.bl, J.tx, J.ks, J.ls]; have h3' := h3; rw [k3] at h3'; simp [h1, h2, h3', h4, k3, h5]
                  rw [← HRV.out, hv]; rfl)
                have H5 := Lib.hid h5
                clear h3 h5
                go_upto_region 10 with (first
            | (refine wpList_load_Row rfl 26 _ rfl w.heap.size rfl cs 26 HC0.out.box _ Tryz.underlying26 rfl (by rw [hcz]; exact size29) ?_; simp only [Act.put, List.setIfInBounds_toArray, List.set_cons_zero, List.set_cons_succ])
            | (go_at_call 46; refine (hsh.out W2).mono ?_; rintro e w3 ⟨rfl, hg3⟩; rw [H3.out]; have HC3 := Lib.hid (HC0.out.keep hg3); have cl : w3.cell? ⟨w.heap.size, 4, none⟩ = some (.slice B ls.length dd) := HC3.out.box.at_ (by rw [← Hcs.out]; rfl); have ck : w3.cell? ⟨w.heap.size, 0, none⟩ = some (.int .i8 kd) := HC3.out.box.at_ (by rw [← Hcs.out]; rfl); have ct : w3.cell? ⟨w.heap.size, 2, none⟩ = some (.string t) := HC3.out.box.at_ (by rw [← Hcs.out]; rfl); clear hg3))
                go_quiet (fail)
                have HC4 := Lib.hid (HC3.out.keep (grown_drewN (grown_refl w3 none) nq))
                have ck4 : (w3.drewN nq).cell? ⟨w.heap.size, 0, none⟩ = some (.int .i8 kd) := HC4.out.box.at_ (by rw [← Hcs.out]; rfl)
                have ct4 : (w3.drewN nq).cell? ⟨w.heap.size, 2, none⟩ = some (.string t) := HC4.out.box.at_ (by rw [← Hcs.out]; rfl)
                generalize hw4 : w3.drewN nq = w4 at HC4 ck4 ct4
                clear hw4 ck ct cl HC3
                go_wp2_with (go_at_call 47; refine (valid_any t w4 (by omega) (tabs_below HT.out HC4.out.below)).mono ?_; rintro e w5 ⟨rfl, hg5⟩; rw [H5.out]; have HC5 := Lib.hid (HC4.out.keep hg5); clear hg5)
                go_ret
                rw [HE.out]
                exact ⟨rfl, HC5.out.cnt, HC5.out.grown⟩
              | true =>
                have HV0 : Hid (checkV (.mk kd bb t ks ls) d n1 = 0) := Lib.hid (by unfold checkV; simp only [J.kd, J.bl, J.tx, J.ks, J.ls]; have h3' := h3; rw [k3] at h3'; simp [h1, h2, h3', h4, k3, h5])
                have H5 := Lib.hid h5
                clear h3 h5
                go_upto_region 10 with (first
            | (refine wpList_load_Row rfl 26 _ rfl w.heap.size rfl cs 26 HC0.out.box _ Tryz.underlying26 rfl (by rw [hcz]; exact size29) ?_; simp only [Act.put, List.setIfInBounds_toArray, List.set_cons_zero, List.set_cons_succ])
            | (go_at_call 46; refine (hsh.out W2).mono ?_; rintro e w3 ⟨rfl, hg3⟩; rw [H3.out]; have HC3 := Lib.hid (HC0.out.keep hg3); have cl : w3.cell? ⟨w.heap.size, 4, none⟩ = some (.slice B ls.length dd) := HC3.out.box.at_ (by rw [← Hcs.out]; rfl); have ck : w3.cell? ⟨w.heap.size, 0, none⟩ = some (.int .i8 kd) := HC3.out.box.at_ (by rw [← Hcs.out]; rfl); have ct : w3.cell? ⟨w.heap.size, 2, none⟩ = some (.string t) := HC3.out.box.at_ (by rw [← Hcs.out]; rfl); clear hg3))
                go_quiet (fail)
                have HC4 := Lib.hid (HC3.out.keep (grown_drewN (grown_refl w3 none) nq))
                have ck4 : (w3.drewN nq).cell? ⟨w.heap.size, 0, none⟩ = some (.int .i8 kd) := HC4.out.box.at_ (by rw [← Hcs.out]; rfl)
                have ct4 : (w3.drewN nq).cell? ⟨w.heap.size, 2, none⟩ = some (.string t) := HC4.out.box.at_ (by rw [← Hcs.out]; rfl)
                generalize hw4 : w3.drewN nq = w4 at HC4 ck4 ct4
                clear hw4 ck ct cl HC3
                go_wp2_with (go_at_call 47; refine (valid_any t w4 (by omega) (tabs_below HT.out HC4.out.below)).mono ?_; rintro e w5 ⟨rfl, hg5⟩; rw [H5.out]; have HC5 := Lib.hid (HC4.out.keep hg5); clear hg5)
                go_meet
                case rel => exact ⟨HC5, HV0⟩
            · have b3 : (kd == 3) = false := by simpa using k3
              have HV0 : Hid (checkV (.mk kd bb t ks ls) d n1 = 0) := Lib.hid (by unfold checkV; simp only [J.kd, J.bl, J.tx, J.ks, J.ls]; simp [h1, h2, h3, h4, k2, k3])
              clear h3
              go_upto_region 10 with (first
            | (refine wpList_load_Row rfl 26 _ rfl w.heap.size rfl cs 26 HC0.out.box _ Tryz.underlying26 rfl (by rw [hcz]; exact size29) ?_; simp only [Act.put, List.setIfInBounds_toArray, List.set_cons_zero, List.set_cons_succ])
            | (go_at_call 46; refine (hsh.out W2).mono ?_; rintro e w3 ⟨rfl, hg3⟩; rw [H3.out]; have HC3 := Lib.hid (HC0.out.keep hg3); have cl : w3.cell? ⟨w.heap.size, 4, none⟩ = some (.slice B ls.length dd) := HC3.out.box.at_ (by rw [← Hcs.out]; rfl); have ck : w3.cell? ⟨w.heap.size, 0, none⟩ = some (.int .i8 kd) := HC3.out.box.at_ (by rw [← Hcs.out]; rfl); have ct : w3.cell? ⟨w.heap.size, 2, none⟩ = some (.string t) := HC3.out.box.at_ (by rw [← Hcs.out]; rfl); clear hg3))
              go_quiet (fail)
              have HC4 := Lib.hid (HC3.out.keep (grown_drewN (grown_refl w3 none) nq))
              have ck4 : (w3.drewN nq).cell? ⟨w.heap.size, 0, none⟩ = some (.int .i8 kd) := HC4.out.box.at_ (by rw [← Hcs.out]; rfl)
              generalize hw4 : w3.drewN nq = w4 at HC4 ck4
              clear hw4 ck ct cl HC3
              go_wp2_with fail
              go_meet
              case rel => exact ⟨HC4, HV0⟩
    case rest =>
      obtain ⟨HCX, HV0⟩ := hcut
      obtain ⟨hn1', h2, h3, hl256⟩ := checkV_zero HV0.out
      have H3 := Lib.hid h3
      clear h3
      have HK : Hid (checkItems (fun v m => checkJ f v (d + 1) m) (decide (kd = 5)) ks 0 ls n1 = RES) := Lib.hid (by rw [← HRV.out, HV0.out]; rfl)
      have hlt := HCX.out.cnt.lt
      have hltb := HCX.out.box.lt
      have HC6 : Hid (ChAt w0 w (wc.alloc (.map #[] 0)) g w.heap.size cs n1) := Lib.hid (HCX.out.keep (World.grownBy_alloc _ _ none))
      have HS6 : Hid (Seen (wc.alloc (.map #[] 0)) wc.heap.size []) := Lib.hid (seen_new wc)
      have HM : Hid (g ≠ wc.heap.size ∧ w.heap.size < wc.heap.size) := Lib.hid ⟨by omega, hltb⟩
      have cl6 : (wc.alloc (.map #[] 0)).cell? ⟨w.heap.size, 4, none⟩ = some (.slice B ls.length dd) := HC6.out.box.at_ (by rw [← Hcs.out]; rfl)
      clear hlt hltb HCX
      go_upto_region 15 with fail
      generalize hW6 : wc.alloc (.map #[] 0) = W6 at HC6 HS6 cl6 ⊢
      obtain ⟨m, hm⟩ : ∃ m, wc.heap.size = m := ⟨_, rfl⟩
      have hms6 : m < W6.heap.size := by rw [← hW6, ← hm]; simp
      rw [hm] at HS6 HM ⊢
      clear hW6 hm
      go_wp2_with fail
      go_loopw [62] (fun v wr => ∃ (i : Nat) (nn : Int), i ≤ ls.length ∧ v = .int .i64 i ∧ 1 ≤ nn ∧ nn ≤ 8192 ∧ Hid (ChAt w0 w wr g w.heap.size cs nn) ∧ m < wr.heap.size ∧ Hid (Seen wr m (if kd = 5 then ks.take i else [])) ∧ Hid (checkItems (fun v m => checkJ f v (d + 1) m) (decide (kd = 5)) ks i (ls.drop i) nn = RES)) (fun v _ => ls.length - (intOf v).toNat)
      case atStart => exact ⟨0, n1, by omega, rfl, hm0, hn1', HC6, hms6, Lib.hid (by have := HS6.out; simpa using this), HK⟩
      case round =>
        obtain ⟨i, nn, hi, rfl, hnn0, hnn1, HC, hmw, HS, HI⟩ := hrel
        have HMW := Lib.hid hmw
        clear hmw
        clear HC6 HS6 HK cl6
        by_cases hlt : i < ls.length
        · obtain ⟨jv, hjv⟩ : ∃ jv, ls[i]? = some jv := ⟨_, List.getElem?_eq_getElem hlt⟩
          obtain ⟨b, fo, cj, rfl, hJ, hcell⟩ := HB.out.get hjv
          obtain ⟨p0, p1, p2, p3, p4, rfl⟩ := five_of hJ.five
          have HJ := Lib.hid hJ
          have HP : Hid (∀ v ∈ [p0, p1, p2, p3, p4], v.oneCell' = true) := Lib.hid hJ.cells
          have hB := HC.out.below
          have q0 : wr.cell? ⟨b, fo + i * 5, none⟩ = some p0 := by have := below_cell hB (hcell 0 _ rfl); rwa [show fo + (0 + i * 5 + 0) = fo + i * 5 by omega] at this
          have q1 : wr.cell? ⟨b, fo + i * 5 + 1, none⟩ = some p1 := by have := below_cell hB (hcell 1 _ rfl); rwa [show fo + (0 + i * 5 + 1) = fo + i * 5 + 1 by omega] at this
          have q2 : wr.cell? ⟨b, fo + i * 5 + 2, none⟩ = some p2 := by have := below_cell hB (hcell 2 _ rfl); rwa [show fo + (0 + i * 5 + 2) = fo + i * 5 + 2 by omega] at this
          have q3 : wr.cell? ⟨b, fo + i * 5 + 3, none⟩ = some p3 := by have := below_cell hB (hcell 3 _ rfl); rwa [show fo + (0 + i * 5 + 3) = fo + i * 5 + 3 by omega] at this
          have q4 : wr.cell? ⟨b, fo + i * 5 + 4, none⟩ = some p4 := by have := below_cell hB (hcell 4 _ rfl); rwa [show fo + (0 + i * 5 + 4) = fo + i * 5 + 4 by omega] at this
          have Hjv := Lib.hid hjv
          clear hJ hcell hB hjv
          go_upto_region 18 with (first
            | (have _ := w1; refine wpList_store_Row rfl 26 _ _ rfl wr.heap.size [p0, p1, p2, p3, p4] rfl rfl 26 zero5 hr1 size29 rfl HP.out ?_; intro w2 hr2 hg2 hs2; clear hs2; simp only [Act.put, List.setIfInBounds_toArray, List.set_cons_zero, List.set_cons_succ])
            | (refine wpList_alloc_abs rfl 26 rfl zero5 _ (zero29 _) rfl ?_; intro w1 hr1 hg1 hs1; simp only [Act.put, List.setIfInBounds_toArray, List.set_cons_zero, List.set_cons_succ]))
          have hg12 : wr.grownBy w2 none := grown_own hg1 hg2 (fun x hx => .inr (by have := Option.some.inj hx; omega))
          have HC2 := Lib.hid (HC.out.keep hg12)
          have HS2 := Lib.hid (HS.out.kept hg12 (by simp))
          have HM2 : Hid (m < w2.heap.size) := Lib.hid (Nat.lt_of_lt_of_le HMW.out hg12.size)
          have HBe := Lib.hid hr2
          obtain ⟨Be, hBe⟩ : ∃ x, wr.heap.size = x := ⟨_, rfl⟩
          rw [hBe] at HBe ⊢
          have HGB : Hid (g < w.heap.size) := Lib.hid Hr.out.lt
          have HBM : Hid (Be ≠ m) := Lib.hid (by have := HMW.out; omega)
          have HI2 : Hid ((if checkK (decide (kd = 5)) ks i ≠ 0 then (checkK (decide (kd = 5)) ks i, nn) else if (checkJ f jv (d + 1) nn).1 ≠ 0 then checkJ f jv (d + 1) nn else checkItems (fun v m => checkJ f v (d + 1) m) (decide (kd = 5)) ks (i + 1) (ls.drop (i + 1)) (checkJ f jv (d + 1) nn).2) = RES) := Lib.hid (by
            rw [← HI.out, List.drop_eq_getElem_cons hlt]
            have : ls[i] = jv := by have := Hjv.out; rw [List.getElem?_eq_getElem hlt] at this; exact Option.some.inj this
            rw [this]; rfl)
          have ck2 : w2.cell? ⟨w.heap.size, 0, none⟩ = some (.int .i8 kd) := HC2.out.box.at_ (by rw [← Hcs.out]; rfl)
          have ck3 : w2.cell? ⟨w.heap.size, 3, none⟩ = some (.slice A ks.length c) := HC2.out.box.at_ (by rw [← Hcs.out]; rfl)
          clear q0 q1 q2 q3 q4 hr1 hr2 hg1 hg2 hs1 hg12 hBe HI HC HS
          by_cases k5 : kd = 5
          · have b5 : (kd == 5) = true := by simpa using k5
            have hlen : ks.length = ls.length := by
              have := H3.out
              rw [k5] at this
              simp [shapeV] at this
              exact this.1.1
            obtain ⟨key, hkey⟩ : ∃ key, ks[i]? = some key := ⟨_, List.getElem?_eq_getElem (by omega)⟩
            obtain ⟨ab, ao, rfl, hac⟩ := HA.out (by omega)
            have ckey : w2.cell? ⟨ab, ao + i, none⟩ = some (.string key) := below_cell HC2.out.below (hac i key hkey)
            have hkd : ks.getD i ⟨#[]⟩ = key := by rw [List.getD_eq_getElem?_getD, hkey]; rfl
            have hksz : key.size ≤ 140737488355328 := HKS.out key (List.mem_of_getElem? hkey)
            have Htk : Hid (ks.take (i + 1) = ks.take i ++ [key]) := Lib.hid (by rw [List.take_add_one, hkey]; rfl)
            have hki : i < ks.length := by omega
            obtain ⟨ST, hst⟩ : ∃ l, ks.take i = l := ⟨_, rfl⟩
            have HS2' : Hid (Seen w2 m ST) := Lib.hid (by have := HS2.out; rw [if_pos k5, hst] at this; exact this)
            have Hstl : Hid (ST.length ≤ 256) := Lib.hid (by rw [← hst]; simp; omega)
            rw [hst] at Htk
            have HCK : Hid (checkK (decide (kd = 5)) ks i = if validB key = false then 131 else if ST.any (fun q => decide (q = key)) = true then 132 else 0) := Lib.hid (by unfold checkK; rw [hkd, hst, show decide (kd = 5) = true by simpa using k5]; simp only [true_and])
            have K5 := Lib.hid k5
            clear hac hkey hkd hst HS2 k5
            cases hv : validB key with
            | false =>
              have Hv := Lib.hid hv
              have HE : Hid (RES = (131, nn)) := Lib.hid (by rw [← HI2.out, HCK.out]; simp [hv])
              clear hv
              go_wp2_with (go_at_call 47; refine (valid_any key w2 (by omega) (tabs_below HT.out HC2.out.below)).mono ?_; rintro e w3 ⟨rfl, hg3⟩; rw [Hv.out]; have HC3 := Lib.hid (HC2.out.keep hg3); clear hg3)
              go_ret
              rw [HE.out]
              exact ⟨rfl, HC3.out.cnt, HC3.out.grown⟩
            | true =>
              have Hv := Lib.hid hv
              have Hkey : Hid (keyOf Tryz.prog 9 (.string key) = some (.string key.data.toList)) := Lib.hid (WideMaps.keyOf_string_mk Tryz.underlying9 (by unfold maxLen; omega))
              clear hv
              go_upto_region 21 with (go_at_call 47; refine (valid_any key w2 (by omega) (tabs_below HT.out HC2.out.below)).mono ?_; rintro e w3 ⟨rfl, hg3⟩; rw [Hv.out]
                                      have HC3 := Lib.hid (HC2.out.keep hg3)
                                      have HS3 := Lib.hid (HS2'.out.kept hg3 (by simp))
                                      have HB3 := Lib.hid (HBe.out.grown hg3 (by simp))
                                      have HM3 : Hid (m < w3.heap.size) := Lib.hid (Nat.lt_of_lt_of_le HM2.out hg3.size)
                                      have ckey3 : w3.cell? ⟨ab, ao + i, none⟩ = some (.string key) := by rw [grown_cell hg3 (block_lt_of_cell ckey) (by simp)]; exact ckey
                                      have ck33 : w3.cell? ⟨w.heap.size, 3, none⟩ = some (.slice (some ⟨ab, ao, none⟩) ks.length c) := HC3.out.box.at_ (by rw [← Hcs.out]; rfl)
                                      clear hg3)
              clear ckey ck2 ck3 HC2 HS2' HBe
              obtain ⟨D, hD, hsz, hhas⟩ := HS3.out
              have HD := Lib.hid hD
              have Hsz := Lib.hid hsz
              have Hhas := Lib.hid hhas
              clear hD hsz hhas
              cases hdup : ST.any (fun q => decide (q = key)) with
              | true =>
                have HDup := Lib.hid hdup
                have HE : Hid (RES = (132, nn)) := Lib.hid (by rw [← HI2.out, HCK.out]; simp [Hv.out, hdup])
                clear hdup
                go_wp2_with (at_lookup; refine wpList_lookup_own_unit _ rfl _ _ 81 rfl 9 82 law9 Tryz.underlying81 (zero79 _) m ST.length D rfl HD.out _ _ rfl Hkey.out ?_; rw [Hhas.out, HDup.out])
                go_ret
                rw [HE.out]
                have HC4 := HC3.out.keep (World.grownBy_alloc w3 (.cells #[] 82) none)
                exact ⟨rfl, HC4.cnt, HC4.grown⟩
              | false =>
                have HDup := Lib.hid hdup
                have hup : Hid (∀ {w' : World}, w'.ownsMap Tryz.prog 9 unitElem m (ST.length + 1) (D.put (.string key.data.toList) (.agg [])) → Seen w' m (ST ++ [key])) := Lib.hid (fun h => Seen.add (HD.out.tidy law9) Hsz.out Hhas.out HDup.out h)
                rw [HCK.out, Hv.out] at HI2
                simp only [hdup, Bool.true_eq_false, Bool.false_eq_true, if_false, ne_eq, not_true_eq_false] at HI2
                clear hdup HCK
                go_upto_region 24 with (at_lookup; refine wpList_lookup_own_unit _ rfl _ _ 81 rfl 9 82 law9 Tryz.underlying81 (zero79 _) m ST.length D rfl HD.out _ _ rfl Hkey.out ?_; rw [Hhas.out, HDup.out])
                have HC4 := Lib.hid (HC3.out.keep (World.grownBy_alloc w3 (.cells #[] 82) none))
                have HB4 := Lib.hid (HB3.out.grown (World.grownBy_alloc w3 (.cells #[] 82) none) (by simp))
                have HD4 := Lib.hid (HD.out.alloc (.cells #[] 82))
                have HM4 : Hid (m < (w3.alloc (.cells #[] 82)).heap.size) := Lib.hid (Nat.lt_of_lt_of_le HM3.out (World.grownBy_alloc w3 (.cells #[] 82) none).size)
                have ckey4 : (w3.alloc (.cells #[] 82)).cell? ⟨ab, ao + i, none⟩ = some (.string key) := by rw [grown_cell (World.grownBy_alloc w3 (.cells #[] 82) none) (block_lt_of_cell ckey3) (by simp)]; exact ckey3
                have ck34 : (w3.alloc (.cells #[] 82)).cell? ⟨w.heap.size, 3, none⟩ = some (.slice (some ⟨ab, ao, none⟩) ks.length c) := HC4.out.box.at_ (by rw [← Hcs.out]; rfl)
                clear ckey3 ck33 HC3 HB3 HD HS3
                generalize hw4 : w3.alloc (.cells #[] 82) = w4 at HC4 HB4 HD4 HM4 ckey4 ck34 ⊢
                clear hw4
                go_upto_region 25 with (at_mapUpdate; refine wpList_mapUpdate_own _ rfl _ _ _ 81 rfl 9 82 law9 Tryz.underlying81 (unitElem (H := Unit)) m ST.length D rfl HD4.out (by have := Hstl.out; unfold maxLen; omega) _ _ _ rfl rfl Hkey.out _ [] unitElem_mk ?_; intro w6 hown6 hg6
                                        have HSx := Lib.hid (hup.out hown6)
                                        have HMx : Hid (m < w6.heap.size) := Lib.hid (Nat.lt_of_lt_of_le HM4.out hg6.size)
                                        have HCx := Lib.hid (HC4.out.own hg6 HM.out.2 HGB.out (Nat.le_refl _) Hb.out.size)
                                        have HBx := Lib.hid (HB4.out.grown hg6 (by have := HBM.out; simpa using this))
                                        clear hown6 hg6)
                clear ckey4 ck34 HC4 HB4 HD4
                cases hres : checkJ f jv (d + 1) nn with
                | mk e5 n5 =>
                rw [hres] at HI2
                have Hres := Lib.hid hres
                clear hres
                by_cases he5 : e5 = 0
                · have hle := checkJ_le (f := f) (j := jv) (d := d + 1) (n := nn) (by omega) (by rw [Hres.out]; exact he5)
                  rw [Hres.out] at hle
                  obtain ⟨hle1, hle2⟩ := hle
                  simp only at hle1 hle2
                  have HI3 : Hid (checkItems (fun v m => checkJ f v (d + 1) m) (decide (kd = 5)) ks (i + 1) (ls.drop (i + 1)) n5 = RES) := Lib.hid (by rw [← HI2.out]; simp [he5])
                  subst he5
                  go_wp2_with (first
                      | (go_at_call 30; refine (IH.out jv [p0, p1, p2, p3, p4] (d + 1) nn _ HJ.out (HAll.out.get Hjv.out) HCx.out.below HCx.out.cnt (by omega) (by omega) (by omega) (by omega) (by have := Hf.out; omega)).mono ?_; rw [Hres.out]; rintro e w5 ⟨rfl, hr5, hg5⟩; have HC5 := Lib.hid (HCx.out.call hg5 hr5 HGB.out Hg0.out); have HM5 : Hid (m < w5.heap.size) := Lib.hid (Nat.lt_of_lt_of_le HMx.out hg5.size); have HS5 := Lib.hid (HSx.out.kept hg5 (fun e => HM.out.1 (Option.some.inj e).symm)); clear hr5 hg5)
                      | (refine wpList_load_Row rfl 26 _ rfl Be rfl [p0, p1, p2, p3, p4] 26 HBx.out _ Tryz.underlying26 rfl size29 ?_; simp only [Act.put, List.setIfInBounds_toArray, List.set_cons_zero, List.set_cons_succ]))
                  go_roundw
                  case rel => exact ⟨i + 1, n5, by omega, by go_num, by omega, by omega, HC5, HM5.out, Lib.hid (by have := HS5.out; rw [if_pos K5.out, Htk.out]; exact this), HI3⟩
                  case measure => simp [intOf]; omega
                · have HE : Hid (RES = (e5, n5)) := Lib.hid (by rw [← HI2.out]; simp [he5])
                  have be5 : (e5 != 0) = true := by simpa using he5
                  go_wp2_with (first
                      | (go_at_call 30; refine (IH.out jv [p0, p1, p2, p3, p4] (d + 1) nn _ HJ.out (HAll.out.get Hjv.out) HCx.out.below HCx.out.cnt (by omega) (by omega) (by omega) (by omega) (by have := Hf.out; omega)).mono ?_; rw [Hres.out]; rintro e w5 ⟨rfl, hr5, hg5⟩; have HC5 := Lib.hid (HCx.out.call hg5 hr5 HGB.out Hg0.out); have HM5 : Hid (m < w5.heap.size) := Lib.hid (Nat.lt_of_lt_of_le HMx.out hg5.size); have HS5 := Lib.hid (HSx.out.kept hg5 (fun e => HM.out.1 (Option.some.inj e).symm)); clear hr5 hg5)
                      | (refine wpList_load_Row rfl 26 _ rfl Be rfl [p0, p1, p2, p3, p4] 26 HBx.out _ Tryz.underlying26 rfl size29 ?_; simp only [Act.put, List.setIfInBounds_toArray, List.set_cons_zero, List.set_cons_succ]))
                  go_ret
                  rw [HE.out]
                  exact ⟨rfl, HC5.out.cnt, HC5.out.grown⟩
          · have b5 : (kd == 5) = false := by simpa using k5
            have HCx := HC2
            have HSx := HS2
            have HBx := HBe
            have HMx := HM2
            have hk0 : checkK (decide (kd = 5)) ks i = 0 := by unfold checkK; simp [k5]
            rw [hk0] at HI2
            simp only [ne_eq, not_true_eq_false, if_false] at HI2
            clear hk0 HC2 HS2 HBe
            cases hres : checkJ f jv (d + 1) nn with
            | mk e5 n5 =>
            rw [hres] at HI2
            have Hres := Lib.hid hres
            clear hres
            by_cases he5 : e5 = 0
            · have hle := checkJ_le (f := f) (j := jv) (d := d + 1) (n := nn) (by omega) (by rw [Hres.out]; exact he5)
              rw [Hres.out] at hle
              obtain ⟨hle1, hle2⟩ := hle
              simp only at hle1 hle2
              have HI3 : Hid (checkItems (fun v m => checkJ f v (d + 1) m) (decide (kd = 5)) ks (i + 1) (ls.drop (i + 1)) n5 = RES) := Lib.hid (by rw [← HI2.out]; simp [he5])
              subst he5
              go_wp2_with (first
                  | (go_at_call 30; refine (IH.out jv [p0, p1, p2, p3, p4] (d + 1) nn _ HJ.out (HAll.out.get Hjv.out) HCx.out.below HCx.out.cnt (by omega) (by omega) (by omega) (by omega) (by have := Hf.out; omega)).mono ?_; rw [Hres.out]; rintro e w5 ⟨rfl, hr5, hg5⟩; have HC5 := Lib.hid (HCx.out.call hg5 hr5 HGB.out Hg0.out); have HM5 : Hid (m < w5.heap.size) := Lib.hid (Nat.lt_of_lt_of_le HMx.out hg5.size); have HS5 := Lib.hid (HSx.out.kept hg5 (fun e => HM.out.1 (Option.some.inj e).symm)); clear hr5 hg5)
                  | (refine wpList_load_Row rfl 26 _ rfl Be rfl [p0, p1, p2, p3, p4] 26 HBx.out _ Tryz.underlying26 rfl size29 ?_; simp only [Act.put, List.setIfInBounds_toArray, List.set_cons_zero, List.set_cons_succ]))
              go_roundw
              case rel => exact ⟨i + 1, n5, by omega, by go_num, by omega, by omega, HC5, HM5.out, Lib.hid (by have := HS5.out; simpa [k5] using this), HI3⟩
              case measure => simp [intOf]; omega
            · have HE : Hid (RES = (e5, n5)) := Lib.hid (by rw [← HI2.out]; simp [he5])
              have be5 : (e5 != 0) = true := by simpa using he5
              go_wp2_with (first
                  | (go_at_call 30; refine (IH.out jv [p0, p1, p2, p3, p4] (d + 1) nn _ HJ.out (HAll.out.get Hjv.out) HCx.out.below HCx.out.cnt (by omega) (by omega) (by omega) (by omega) (by have := Hf.out; omega)).mono ?_; rw [Hres.out]; rintro e w5 ⟨rfl, hr5, hg5⟩; have HC5 := Lib.hid (HCx.out.call hg5 hr5 HGB.out Hg0.out); have HM5 : Hid (m < w5.heap.size) := Lib.hid (Nat.lt_of_lt_of_le HMx.out hg5.size); have HS5 := Lib.hid (HSx.out.kept hg5 (fun e => HM.out.1 (Option.some.inj e).symm)); clear hr5 hg5)
                  | (refine wpList_load_Row rfl 26 _ rfl Be rfl [p0, p1, p2, p3, p4] 26 HBx.out _ Tryz.underlying26 rfl size29 ?_; simp only [Act.put, List.setIfInBounds_toArray, List.set_cons_zero, List.set_cons_succ]))
              go_ret
              rw [HE.out]
              exact ⟨rfl, HC5.out.cnt, HC5.out.grown⟩
        · obtain rfl : i = ls.length := by omega
          have HE : Hid (RES = (0, nn)) := Lib.hid (by rw [← HI.out, List.drop_length]; rfl)
          go_wp2_with fail
          go_ret
          rw [HE.out]
          exact ⟨rfl, HC.out.cnt, HC.out.grown⟩
theorem check_is (w0 : World) (hT : Lib.Utf8Tabs 1 2 w0) (g : Nat) (hg0 : w0.heap.size ≤ g) : ∀ f : Nat, CheckIs w0 g f
  | 0 => fun j cs d n w hj hsz hb hr hn0 hn1 hd0 hd1 hf => absurd hf (by omega)
  | f + 1 => check_step w0 hT g hg0 f (check_is w0 hT g hg0 f)
theorem check_any (w0 : World) (hT : Lib.Utf8Tabs 1 2 w0) (g : Nat) (hg0 : w0.heap.size ≤ g) (f : Nat) : ∀ (j : J) (cs : List Value) (d n : Int) (w : World), JR w0 j cs → JAll (JSz 140737488355328) j → Below w0.heap.size w0 w → Row w g 63 [.int .i64 n] →
    0 ≤ n → n ≤ 8192 → 1 ≤ d → d ≤ 17 → 18 ≤ (f : Int) + d → Calls Tryz.prog 30 #[.pointer (some ⟨g, 0, none⟩), .agg cs.toArray, .int .i64 d] w (CheckPost (checkJ f j d n) g w) := check_is w0 hT g hg0 f
end Go.Proofs.YtlbilofnbhhmjaaGreatDoor
