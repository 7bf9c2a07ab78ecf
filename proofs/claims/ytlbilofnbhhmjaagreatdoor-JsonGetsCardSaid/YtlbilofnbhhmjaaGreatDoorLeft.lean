/- The statements' own: is a value too great to be copied? -/
import Derived.Test.YtlbilofnbhhmjaaGreatDoorCopy
import Derived.Test.YtlbilofnbhhmjaaGreatDoorAlike
namespace Go.Proofs.YtlbilofnbhhmjaaGreatDoor
open Go.RowKit
set_option linter.unusedVariables false
set_option linter.unusedSimpArgs false
def cap17 (n : Nat) : Int := min (n : Int) 131072
theorem cap17_range (n : Nat) : 0 ≤ cap17 n ∧ cap17 n ≤ 131072 := by unfold cap17; omega
def keysV : List ByteArray → Int → Int
  | [], n => n
  | k :: ks, n => if n < 0 then n else keysV ks (n - cap17 k.size)
mutual
def leftV : J → Int → Int → Int
  | .mk kd b t ks ls, d, n => if 40 < d then -1 else leftsV ls d (keysV ks (n - 1 - cap17 t.size - cap17 ks.length))
def leftsV : List J → Int → Int → Int
  | [], d, n => n
  | j :: js, d, n => if n < 0 then n else leftsV js d (leftV j (d + 1) n)
end
theorem keysV_range : ∀ (ks : List ByteArray) (n : Int), -400000 ≤ n → n ≤ 65536 → -400000 ≤ keysV ks n ∧ keysV ks n ≤ n
  | [], n, h1, h2 => ⟨h1, Int.le_refl _⟩
  | k :: ks, n, h1, h2 => by
    unfold keysV
    split
    · exact ⟨h1, Int.le_refl _⟩
    · have hc := cap17_range k.size
      have := keysV_range ks (n - cap17 k.size) (by omega) (by omega)
      omega
mutual
theorem leftV_range : ∀ (j : J) (d n : Int), 0 ≤ n → n ≤ 65536 → -400000 ≤ leftV j d n ∧ leftV j d n ≤ n
  | .mk kd b t ks ls, d, n, h1, h2 => by
    have hc := cap17_range t.size
    have hk := cap17_range ks.length
    unfold leftV
    split
    · omega
    · have := keysV_range ks (n - 1 - cap17 t.size - cap17 ks.length) (by omega) (by omega)
      have := leftsV_range ls d _ this.1 (by omega)
      omega
theorem leftsV_range : ∀ (ls : List J) (d n : Int), -400000 ≤ n → n ≤ 65536 → -400000 ≤ leftsV ls d n ∧ leftsV ls d n ≤ n
  | [], d, n, h1, h2 => by unfold leftsV; omega
  | j :: js, d, n, h1, h2 => by
    unfold leftsV
    split
    · omega
    · have := leftV_range j (d + 1) n (by omega) h2
      have := leftsV_range js d _ this.1 (by omega)
      omega
end
theorem keysV_neg {ks : List ByteArray} {n : Int} (h : n < 0) : keysV ks n = n := by cases ks <;> simp [keysV, h]
theorem leftsV_neg {ls : List J} {d n : Int} (h : n < 0) : leftsV ls d n = n := by cases ls <;> simp [leftsV, h]
def LeftIs (w0 : World) (j : J) : Prop := ∀ (cs : List Value) (d n : Int) (w : World), JR w0 j cs → JAll (JSz 140737488355328) j → Below w0.heap.size w0 w → 1 ≤ d → d ≤ 41 → 0 ≤ n → n ≤ 65536 →
  Calls Tryz.prog 13 #[.agg cs.toArray, .int .i64 d, .int .i64 n] w fun e w' => e = .returned (.int .i64 (leftV j d n)) ∧ w.grownBy w' none
set_option maxHeartbeats 12800000 in
set_option maxRecDepth 100000 in
theorem left_step (w0 : World) (kd : Int) (bb : Bool) (t : ByteArray) (ks : List ByteArray) (ls : List J) (IH : ∀ x ∈ ls, LeftIs w0 x) : LeftIs w0 (.mk kd bb t ks ls) := by
  intro cs d n w hj hsz hb hd1 hd2 hn0 hn1
  unfold JR at hj
  obtain ⟨A1, c1, B1, d1, rfl, hkc1, hlc1, hA1, hB1⟩ := hj
  unfold JAll at hsz
  obtain ⟨⟨hts, hkl, hll, hks⟩, hall⟩ := hsz
  simp only [J.tx, J.ks, J.ls] at hts hkl hll hks
  have IH := Lib.hid IH
  have HA1 := Lib.hid hA1
  have HB1 := Lib.hid hB1
  have HAll := Lib.hid hall
  have Hks := Lib.hid hks
  have Hb := Lib.hid hb
  clear hA1 hB1 hall hb hks hkc1 hlc1
  go_enter Tryz.func13, Tryz.ntmps13
  go_upto_region 1 with (refine wpList_box_abs rfl 26 (.tmp 0) rfl [.int .i8 kd, .bool bb, .string t, .slice A1 ks.length c1, .slice B1 ls.length d1] rfl ?_; intro w1 hr1 hg1 hs1; simp only [Act.put, List.setIfInBounds_toArray, List.set_cons_zero, List.set_cons_succ])
  have a2 := hr1.at_ (j := 2) rfl
  have a3 := hr1.at_ (j := 3) rfl
  have a4 := hr1.at_ (j := 4) rfl
  go_upto_region 2 with fail
  obtain ⟨m0, hm0⟩ : ∃ m, n - 1 - min (↑t.size) 131072 - min (↑ks.length) 131072 = m := ⟨_, rfl⟩
  have hr0 : -400000 ≤ m0 ∧ m0 ≤ 65536 := by omega
  obtain ⟨hr01, hr02⟩ := hr0
  rw [hm0]
  have HR : Hid (leftV (.mk kd bb t ks ls) d n = if 40 < d then -1 else leftsV ls d (keysV ks m0)) := Lib.hid (by rw [leftV, ← hm0]; rfl)
  obtain ⟨p, hp⟩ : ∃ x, w.heap.size = x := ⟨_, rfl⟩
  rw [hp] at hr1 a2 a3 a4 ⊢
  have HX := Lib.hid hr1
  have HG := Lib.hid hg1
  clear hm0 hr1 hg1 hs1 hp a2
  by_cases h40 : 40 < d
  · go_wp2_with fail
    go_ret
    rw [HR.out, if_pos h40]
    exact ⟨rfl, HG.out⟩
  · have h40' : ¬ 40 < d := h40
    go_wp2_with fail
    go_loop [2, 7] (fun u v => ∃ (i : Nat) (m : Int), i ≤ ks.length ∧ v = .int .i64 (i : Int) ∧ u = .int .i64 m ∧ -400000 ≤ m ∧ m ≤ 65536 ∧ Hid (keysV (ks.drop i) m = keysV ks m0)) (fun _ v => ks.length - (intOf v).toNat)
    case atStart => exact ⟨0, m0, by omega, rfl, rfl, hr01, hr02, Lib.hid rfl⟩
    case round =>
      obtain ⟨i, m, hi, rfl, rfl, hm1, hm2, HK⟩ := hrel
      by_cases hlt : i < ks.length ∧ 0 ≤ m
      · obtain ⟨hlt, hm⟩ := hlt
        obtain ⟨k, hk⟩ : ∃ x, ks[i]? = some x := ⟨_, List.getElem?_eq_getElem hlt⟩
        obtain ⟨g, o, rfl, hc⟩ := strAt_get HA1.out hk
        have x0 := below_cell (grown_below0 Hb.out HG.out (by simp)) hc
        have hks := Hks.out k (List.mem_of_getElem? hk)
        have HK2 : Hid (keysV (ks.drop (i + 1)) (m - min (↑k.size) 131072) = keysV ks m0) := Lib.hid (by
          rw [← HK.out, List.drop_eq_getElem_cons hlt, keysV, if_neg (by omega), (List.getElem?_eq_some_iff.1 hk).2]; rfl)
        have e1 : (i : Int) < (ks.length : Int) := by omega
        clear hk hc
        go_wp2_with fail
        go_round
        case rel => exact ⟨i + 1, _, by omega, by go_num, rfl, by omega, by omega, HK2⟩
        case measure => simp [intOf]; omega
      · have HE : Hid (keysV ks m0 = m) := Lib.hid (by
          rw [← HK.out]
          by_cases h : m < 0
          · exact keysV_neg h
          · rw [List.drop_eq_nil_of_le (by omega)]; rfl)
        have e1 : ¬ ((i : Int) < (ks.length : Int) ∧ 0 ≤ m) := by omega
        by_cases e2 : (i : Int) < (ks.length : Int)
        all_goals
          have e3 := e1
          clear e1 hlt
          first
            | (have e4 : m < 0 := by omega
               have e5 : decide (0 ≤ m) = false := by simp; omega
               clear e3)
            | (clear e3)
          go_wp2_with fail
          clear a3
          go_loopw [2, 8] (fun u v wr => ∃ (i : Nat) (q : Int), i ≤ ls.length ∧ v = .int .i64 (i : Int) ∧ u = .int .i64 q ∧ -400000 ≤ q ∧ q ≤ 65536 ∧ Hid (leftsV (ls.drop i) d q = leftsV ls d m) ∧ Hid (Row wr p 26 [.int .i8 kd, .bool bb, .string t, .slice A1 ks.length c1, .slice B1 ls.length d1]) ∧ Hid (w.grownBy wr none)) (fun _ v _ => ls.length - (intOf v).toNat)
          case atStart => exact ⟨0, m, by omega, rfl, rfl, hm1, hm2, Lib.hid rfl, HX, HG⟩
          case round =>
            clear HX HG a4
            obtain ⟨i2, q, hi2, rfl, rfl, hq1, hq2, HQ, HX, HG⟩ := hrel
            have a4 := HX.out.at_ (j := 4) rfl
            by_cases hlt : i2 < ls.length ∧ 0 ≤ q
            · obtain ⟨hlt, hq⟩ := hlt
              obtain ⟨jv, hjv⟩ : ∃ jv, ls[i2]? = some jv := ⟨_, List.getElem?_eq_getElem hlt⟩
              obtain ⟨m1, f1, cj, rfl, hJ1, hcx⟩ := HB1.out.get hjv
              obtain ⟨p0, p1, p2, p3, p4, rfl⟩ := five_of hJ1.five
              have hB := grown_below0 Hb.out HG.out (by simp)
              have x0 : wr.cell? ⟨m1, f1 + i2 * 5, none⟩ = some p0 := by have := below_cell hB (hcx 0 _ rfl); rwa [show f1 + (0 + i2 * 5 + 0) = f1 + i2 * 5 by omega] at this
              have x1 : wr.cell? ⟨m1, f1 + i2 * 5 + 1, none⟩ = some p1 := by have := below_cell hB (hcx 1 _ rfl); rwa [show f1 + (0 + i2 * 5 + 1) = f1 + i2 * 5 + 1 by omega] at this
              have x2 : wr.cell? ⟨m1, f1 + i2 * 5 + 2, none⟩ = some p2 := by have := below_cell hB (hcx 2 _ rfl); rwa [show f1 + (0 + i2 * 5 + 2) = f1 + i2 * 5 + 2 by omega] at this
              have x3 : wr.cell? ⟨m1, f1 + i2 * 5 + 3, none⟩ = some p3 := by have := below_cell hB (hcx 3 _ rfl); rwa [show f1 + (0 + i2 * 5 + 3) = f1 + i2 * 5 + 3 by omega] at this
              have x4 : wr.cell? ⟨m1, f1 + i2 * 5 + 4, none⟩ = some p4 := by have := below_cell hB (hcx 4 _ rfl); rwa [show f1 + (0 + i2 * 5 + 4) = f1 + i2 * 5 + 4 by omega] at this
              have e6 : (i2 : Int) < (ls.length : Int) := by omega
              have hlc : Calls Tryz.prog 13 #[.agg #[p0, p1, p2, p3, p4], .int .i64 (d + 1), .int .i64 q] wr fun e w' => e = .returned (.int .i64 (leftV jv (d + 1) q)) ∧ wr.grownBy w' none := IH.out jv (List.mem_of_getElem? hjv) [p0, p1, p2, p3, p4] (d + 1) q wr hJ1 (HAll.out.get hjv) hB (by omega) (by omega) hq hq2
              have hrg := leftV_range jv (d + 1) q hq hq2
              have HQ2 : Hid (leftsV (ls.drop (i2 + 1)) d (leftV jv (d + 1) q) = leftsV ls d m) := Lib.hid (by
                rw [← HQ.out, List.drop_eq_getElem_cons hlt, leftsV, if_neg (by omega), (List.getElem?_eq_some_iff.1 hjv).2])
              obtain ⟨z, hz⟩ : ∃ z, leftV jv (d + 1) q = z := ⟨_, rfl⟩
              rw [hz] at hlc HQ2 hrg
              obtain ⟨hrg1, hrg2⟩ := hrg
              have Hlc := Lib.hid hlc
              clear hz hlc hB hJ1 hcx hjv
              go_wp2_with (go_at_call 13; refine Hlc.out.mono ?_; rintro e w5 ⟨rfl, hg5⟩; have HG5 := Lib.hid hg5; clear hg5)
              have HX5 := Lib.hid (HX.out.grown HG5.out (by simp))
              have HG6 := Lib.hid (grown_own HG.out HG5.out (by simp))
              go_roundw
              case rel => exact ⟨i2 + 1, z, by omega, by go_num, rfl, by omega, by omega, HQ2, HX5, HG6⟩
              case measure => simp [intOf]; omega
            · have HF : Hid (leftV (.mk kd bb t ks ls) d n = q) := Lib.hid (by
                rw [HR.out, if_neg (by omega), HE.out, ← HQ.out]
                by_cases h : q < 0
                · exact leftsV_neg h
                · rw [List.drop_eq_nil_of_le (by omega)]; rfl)
              have e6 : ¬ ((i2 : Int) < (ls.length : Int) ∧ 0 ≤ q) := by omega
              by_cases e7 : (i2 : Int) < (ls.length : Int)
              all_goals
                have e8 := e6
                clear e6 hlt
                first
                  | (have e9 : q < 0 := by omega
                     have e10 : decide (0 ≤ q) = false := by simp; omega
                     clear e8)
                  | (clear e8)
                go_wp2_with fail
                go_ret
                rw [HF.out]
                exact ⟨rfl, HG.out⟩
mutual
theorem left_any (w0 : World) : ∀ j : J, LeftIs w0 j
  | .mk kd b t ks ls => left_step w0 kd b t ks ls (lefts_any w0 ls)
theorem lefts_any (w0 : World) : ∀ ls : List J, ∀ x ∈ ls, LeftIs w0 x
  | [], x, h => absurd h (by simp)
  | j :: js, x, h => by
    rcases List.mem_cons.1 h with e | e
    · rw [e]; exact left_any w0 j
    · exact lefts_any w0 js x e
end
end Go.Proofs.YtlbilofnbhhmjaaGreatDoor
