/- A whole number's value, the reference's way: it comes to what json's Int comes to. Condition: the text is not too great. -/
import Derived.Test.YtlbilofnbhhmjaaGreatDoorInt
import Derived.Test.YtlbilofnbhhmjaaGreatDoorRCheck
namespace Go.Proofs.YtlbilofnbhhmjaaGreatDoor
open Go.RowKit
set_option linter.unusedVariables false
set_option linter.unusedSimpArgs false
def overB (t : ByteArray) (k : Nat) : Bool := decide (mostN t < upto t k)
theorem over_up {t : ByteArray} {k : Nat} (h : startN t ≤ k) (ho : overB t k = true) : overB t (k + 1) = true := by
  unfold overB at ho ⊢
  have := upto_mono (s := t) h 1
  simp at ho ⊢
  omega
theorem upto_low {t : ByteArray} {k : Nat} (h : k ≤ startN t) : upto t k = 0 := by
  unfold upto; rw [show k - startN t = 0 by omega]; rfl
def RelN (t : ByteArray) (k : Nat) (nv : Int) : Prop := overB t k = false → nv = -(upto t k : Int)
theorem wrap_keep {x : Int} (h1 : -9223372036854775808 ≤ x) (h2 : x ≤ 9223372036854775807) : wrap64 x = x := by unfold wrap64; omega
/-- The number behind one digit more. -/
theorem relN_step {t : ByteArray} {k : Nat} {nv y : Int} (hk : startN t ≤ k) (h : RelN t k nv) (hd : digitB (ch t k) = true)
    (hy : -9223372036854775808 ≤ 10 * nv → 10 * nv ≤ 9223372036854775807 → -9223372036854775808 ≤ 10 * nv - (ch t k - 48) → 10 * nv - (ch t k - 48) ≤ 9223372036854775807 → y = 10 * nv - (ch t k - 48)) : RelN t (k + 1) y := by
  intro ho
  have hst := upto_step hk
  have h0 : overB t k = false := by
    cases e : overB t k with
    | false => rfl
    | true => rw [over_up hk e] at ho; cases ho
  have hn := h h0
  unfold digitB at hd
  simp at hd
  unfold overB mostN at ho
  simp at ho
  have hm : upto t (k + 1) ≤ 9223372036854775808 := by split at ho <;> omega
  rw [hy (by omega) (by omega) (by omega) (by omega)]
  omega
theorem intT_end {t : ByteArray} {nv : Int} (h : numB t = true) (hd : ∀ k, startN t ≤ k → k < t.size → digitB (ch t k) = true) (hr : RelN t t.size nv) :
    intT t = if overB t t.size = true then (0, 12) else (if ch t 0 = 45 then nv else -nv, 0) := by
  cases ho : overB t t.size with
  | true =>
    rw [if_pos rfl]
    refine intT_far h (not_dotted hd) ?_
    unfold overB at ho
    simp at ho
    omega
  | false =>
    rw [if_neg (by simp), hr ho]
    have hu : upto t t.size ≤ mostN t := by unfold overB at ho; simpa using ho
    rw [intT_ok h (not_dotted hd) hu]
    split
    · rfl
    · simp
def IntPostR (r : Int × Int) (w : World) (e : Ending) (w' : World) : Prop := e = .returned (.tuple #[.int .i64 r.1, .int .i64 r.2]) ∧ w.grownBy w' none
set_option maxHeartbeats 12800000 in
set_option maxRecDepth 100000 in
theorem rint_any (j : J) (cs : List Value) (w : World) (hj : JR w j cs) (hz : JAll (JSz 65536) j) : Calls Tryz.prog 11 #[.agg cs.toArray] w (IntPostR (intJ j) w) := by
  obtain ⟨kd, bb, t, ks, ls⟩ := j
  unfold JR at hj
  obtain ⟨A1, c1, B1, d1, rfl, -, -, -, -⟩ := hj
  have hts : t.size ≤ 65536 := by unfold JAll JSz at hz; exact hz.1.1
  clear hz
  obtain ⟨RES, hR⟩ : ∃ r, intJ (.mk kd bb t ks ls) = r := ⟨_, rfl⟩
  rw [hR]
  have HR := Lib.hid hR
  clear hR
  go_enter Tryz.func11, Tryz.ntmps11
  go_upto_region 1 with (refine wpList_box_abs rfl 26 (.tmp 0) rfl [.int .i8 kd, .bool bb, .string t, .slice A1 ks.length c1, .slice B1 ls.length d1] rfl ?_; intro w1 hr1 hg1 hs1; simp only [Act.put, List.setIfInBounds_toArray, List.set_cons_zero, List.set_cons_succ])
  have HG1 := Lib.hid hg1
  have HX1 := Lib.hid hr1
  have c0 := hr1.at_ (j := 0) rfl
  have c2 := hr1.at_ (j := 2) rfl
  clear hr1 hg1 hs1
  by_cases h2 : kd = 2
  · subst h2
    have HR2 : Hid (intT t = RES) := Lib.hid (by rw [← HR.out, intJ_two])
    clear HR
    cases hn : numB t with
    | false =>
      have HF : Hid (RES = (0, 130)) := Lib.hid (by rw [← HR2.out]; exact intT_no hn)
      have Hn := Lib.hid hn
      clear hn
      go_wp2_with (go_at_call 24; refine (rNumber_any t w1 (by omega)).mono ?_; rw [Hn.out]; rintro e w' ⟨rfl, rfl⟩)
      go_ret2
      rw [HF.out]
      exact ⟨rfl, HG1.out⟩
    | true =>
      have Hn := Lib.hid hn
      have h0 : 0 < t.size := by
        rcases Nat.eq_zero_or_pos t.size with e | e
        · rw [str_empty e, numB_empty] at hn; cases hn
        · exact e
      have hc := (ch_in h0).symm
      obtain ⟨mi, hmi⟩ : ∃ mi : Bool, (ch t 0 == 45) = mi := ⟨_, rfl⟩
      have HMi := Lib.hid hmi
      clear hn
      go_upto_region 6 with (go_at_call 24; refine (rNumber_any t w1 (by omega)).mono ?_; rw [Hn.out]; rintro e w' ⟨rfl, rfl⟩)
      clear hc hmi
      go_wp2_with fail
      go_loop [5, 6, 7, 8] (fun n far i _ => ∃ (k : Nat) (nv : Int), k ≤ t.size ∧ i = .int .i64 (k : Int) ∧ n = .int .i64 nv ∧ far = .bool (overB t k) ∧ Hid (RelN t k nv) ∧ Hid (∀ m, startN t ≤ m → m < k → digitB (ch t m) = true)) (fun _ _ i _ => t.size - (intOf i).toNat)
      case atStart => exact ⟨0, 0, by omega, rfl, rfl, (by unfold overB; rw [upto_low (by omega)]; simp), Lib.hid (fun _ => by rw [upto_low (by omega)]; rfl), Lib.hid (fun m h1 h2 => by omega)⟩
      case round =>
        obtain ⟨k, nv, hk, rfl, rfl, rfl, HN, HDg⟩ := hrel
        by_cases hlt : k < t.size
        · have e1 : (k : Int) < (t.size : Int) := by omega
          by_cases hs : k < startN t
          · have hk0 : k = 0 := by unfold startN at hs; split at hs <;> omega
            subst hk0
            have hm : mi = true := by
              unfold startN at hs
              rw [← HMi.out]
              split at hs
              · simpa
              · omega
            subst hm
            have hov : overB t 1 = overB t 0 := by
              have h1 : startN t = 1 := by unfold startN at hs ⊢; split at hs <;> simp_all
              unfold overB; rw [upto_low (by omega), upto_low (by omega)]
            have HN1 : Hid (RelN t 1 nv) := Lib.hid (fun ho => by
              have h1 : startN t = 1 := by unfold startN at hs ⊢; split at hs <;> simp_all
              have := HN.out (by rw [← hov]; exact ho)
              rw [this, upto_low (by omega), upto_low (by omega)])
            have HD1 : Hid (∀ m, startN t ≤ m → m < 1 → digitB (ch t m) = true) := Lib.hid (fun m h1 h2 => by omega)
            have Hov := Lib.hid hov
            clear hs hov
            go_wp2_with fail
            go_round
            case rel => exact ⟨1, nv, by omega, rfl, rfl, by rw [Hov.out], HN1, HD1⟩
            case measure => simp [intOf]; omega
          · have hs' : startN t ≤ k := by omega
            have hb1 : (k : Int) = 0 → mi = false := fun e => by
              rw [← HMi.out]
              have : k = 0 := by omega
              subst this
              unfold startN at hs'
              split at hs'
              · omega
              · simpa
            obtain ⟨z, hz⟩ : ∃ z : Bool, ((k : Int) == 0) = z := ⟨_, rfl⟩
            have hzm : z = true → mi = false := fun e => hb1 (by rw [e] at hz; simpa using hz)
            have hc := (ch_in hlt).symm
            have hcr := ch_range t k
            cases hd : digitB (ch t k) with
            | false =>
              have HF : Hid (RES = (0, 134)) := Lib.hid (by rw [← HR2.out]; exact intT_dot Hn.out (dotted_of Hn.out hs' hlt hd))
              have Hd := Lib.hid hd
              clear hd hs hs' hb1
              cases z with
              | true =>
                have hm := hzm rfl
                subst hm
                clear hzm
                go_wp2_with (go_at_call 25; refine (rdigit_any (ch t k) _).mono ?_; rw [Hd.out]; rintro e w' ⟨rfl, rfl⟩)
                go_ret2
                rw [HF.out]
                exact ⟨rfl, HG1.out⟩
              | false =>
                clear hzm
                go_wp2_with (go_at_call 25; refine (rdigit_any (ch t k) _).mono ?_; rw [Hd.out]; rintro e w' ⟨rfl, rfl⟩)
                go_ret2
                rw [HF.out]
                exact ⟨rfl, HG1.out⟩
            | true =>
              have Hd := Lib.hid hd
              have hdr : 48 ≤ ch t k ∧ ch t k ≤ 57 := by unfold digitB at hd; simpa using hd
              obtain ⟨hd0, hd9⟩ := hdr
              have hst := upto_step hs'
              have hmost : mostN t = if mi = true then 9223372036854775808 else 9223372036854775807 := by
                unfold mostN
                rw [← HMi.out]
                by_cases h45 : ch t 0 = 45
                · rw [if_pos h45, if_pos (by simpa using h45)]
                · rw [if_neg h45, if_neg (by simpa using h45)]
              have HDn : Hid (∀ m, startN t ≤ m → m < k + 1 → digitB (ch t m) = true) := Lib.hid (fun m h1 h2 => by
                by_cases e : m = k
                · rw [e]; exact Hd.out
                · exact HDg.out m h1 (by omega))
              have hzz : z = false ∨ (z = true ∧ mi = false) := by
                cases z with
                | false => exact .inl rfl
                | true => exact .inr ⟨rfl, hzm rfl⟩
              have Hs' := Lib.hid hs'
              have Hst := Lib.hid hst
              have Hmost := Lib.hid hmost
              clear hd hs hs' hb1 hzm hst hmost
              cases ho : overB t k with
              | true =>
                have HOV : Hid (overB t (k + 1) = true) := Lib.hid (over_up Hs'.out ho)
                clear ho
                rcases hzz with rfl | ⟨rfl, rfl⟩
                all_goals
                  go_wp2_with (go_at_call 25; refine (rdigit_any (ch t k) _).mono ?_; rw [Hd.out]; rintro e w' ⟨rfl, rfl⟩)
                  go_round
                  case rel => exact ⟨k + 1, _, by omega, by go_num, rfl, by rw [HOV.out], Lib.hid (fun h => by rw [HOV.out] at h; cases h), HDn⟩
                  case measure => simp [intOf]; omega
              | false =>
                have hnv := HN.out ho
                have hu1 : ¬ mostN t < upto t k := by unfold overB at ho; simpa using ho
                obtain ⟨u, hu⟩ : ∃ u, upto t k = u := ⟨_, rfl⟩
                have hov1 : overB t (k + 1) = decide (mostN t < u * 10 + (ch t k - 48).toNat) := by unfold overB; rw [Hst.out, hu]
                rw [hu] at hnv hu1
                have hmr : mostN t = 9223372036854775808 ∨ mostN t = 9223372036854775807 := by rw [Hmost.out]; cases mi <;> simp
                have hn1 : -9223372036854775808 ≤ nv := by omega
                have hn2 : nv ≤ 0 := by omega
                have Hnv := Lib.hid hnv
                clear ho hu
                by_cases hg : 922337203685477580 < u
                · have HOV : Hid (overB t (k + 1) = true) := Lib.hid (by rw [hov1]; simp; omega)
                  have t1 : nv < -922337203685477580 := by omega
                  clear hov1 hmr hu1 hg hnv
                  rcases hzz with rfl | ⟨rfl, rfl⟩
                  all_goals
                    go_wp2_with (go_at_call 25; refine (rdigit_any (ch t k) _).mono ?_; rw [Hd.out]; rintro e w' ⟨rfl, rfl⟩)
                    go_round
                    case rel => exact ⟨k + 1, _, by omega, by go_num, rfl, by rw [HOV.out], Lib.hid (fun h => by rw [HOV.out] at h; cases h), HDn⟩
                    case measure => simp [intOf]; omega
                · by_cases hl : u < 922337203685477580
                  · have HOV : Hid (overB t (k + 1) = false) := Lib.hid (by rw [hov1]; simp; omega)
                    have t1 : decide (nv < -922337203685477580) = false := by simp; omega
                    have t2 : (nv == -922337203685477580) = false := by simp; omega
                    clear hov1 hmr hu1 hg hnv
                    rcases hzz with rfl | ⟨rfl, rfl⟩
                    all_goals
                      go_wp2_with (go_at_call 25; refine (rdigit_any (ch t k) _).mono ?_; rw [Hd.out]; rintro e w' ⟨rfl, rfl⟩)
                      go_round
                      case rel => exact ⟨k + 1, _, by omega, by go_num, rfl, by rw [HOV.out], Lib.hid (relN_step Hs'.out HN.out Hd.out (fun h1 h2 h3 h4 => by first | rfl | omega | (unfold wrap64; omega))), HDn⟩
                      case measure => simp [intOf]; omega
                  · obtain rfl : u = 922337203685477580 := by omega
                    have e0 : nv = -922337203685477580 := by omega
                    subst e0
                    clear hg hl hn1 hn2 hnv hu1 hmr
                    by_cases h9 : ch t k = 57
                    · have HOV : Hid (overB t (k + 1) = true) := Lib.hid (by rw [hov1, Hmost.out, h9]; cases mi <;> simp)
                      have t3 : (ch t k - 48 == 9) = true := by simp; omega
                      clear hov1 h9
                      rcases hzz with rfl | ⟨rfl, rfl⟩
                      all_goals
                        go_wp2_with (go_at_call 25; refine (rdigit_any (ch t k) _).mono ?_; rw [Hd.out]; rintro e w' ⟨rfl, rfl⟩)
                        go_round
                        case rel => exact ⟨k + 1, _, by omega, by go_num, rfl, by rw [HOV.out], Lib.hid (fun h => by rw [HOV.out] at h; cases h), HDn⟩
                        case measure => simp [intOf]; omega
                    · have t3 : (ch t k - 48 == 9) = false := by simp; omega
                      by_cases h8 : ch t k = 56
                      · have t4 : (ch t k - 48 == 8) = true := by simp; omega
                        have HOV : Hid (overB t (k + 1) = !mi) := Lib.hid (by rw [hov1, Hmost.out, h8]; cases mi <;> simp)
                        clear hov1 h9 h8
                        cases mi with
                        | false =>
                          have hzz2 : z = false ∨ z = true := by cases z <;> simp
                          clear hzz
                          rcases hzz2 with rfl | rfl
                          all_goals
                            go_wp2_with (go_at_call 25; refine (rdigit_any (ch t k) _).mono ?_; rw [Hd.out]; rintro e w' ⟨rfl, rfl⟩)
                            go_round
                            case rel => exact ⟨k + 1, _, by omega, by go_num, rfl, by rw [HOV.out]; rfl, Lib.hid (fun h => by rw [HOV.out] at h; cases h), HDn⟩
                            case measure => simp [intOf]; omega
                        | true =>
                          obtain rfl : z = false := by rcases hzz with h | ⟨_, h⟩; exact h; cases h
                          clear hzz
                          go_wp2_with (go_at_call 25; refine (rdigit_any (ch t k) _).mono ?_; rw [Hd.out]; rintro e w' ⟨rfl, rfl⟩)
                          go_round
                          case rel => exact ⟨k + 1, _, by omega, by go_num, rfl, by rw [HOV.out]; rfl, Lib.hid (relN_step Hs'.out HN.out Hd.out (fun h1 h2 h3 h4 => by first | rfl | omega | (unfold wrap64; omega))), HDn⟩
                          case measure => simp [intOf]; omega
                      · have t4 : (ch t k - 48 == 8) = false := by simp; omega
                        have HOV : Hid (overB t (k + 1) = false) := Lib.hid (by rw [hov1, Hmost.out]; cases mi <;> simp <;> omega)
                        clear hov1 h9 h8
                        rcases hzz with rfl | ⟨rfl, rfl⟩
                        all_goals
                          go_wp2_with (go_at_call 25; refine (rdigit_any (ch t k) _).mono ?_; rw [Hd.out]; rintro e w' ⟨rfl, rfl⟩)
                          go_round
                          case rel => exact ⟨k + 1, _, by omega, by go_num, rfl, by rw [HOV.out], Lib.hid (relN_step Hs'.out HN.out Hd.out (fun h1 h2 h3 h4 => by first | rfl | omega | (unfold wrap64; omega))), HDn⟩
                          case measure => simp [intOf]; omega
        · obtain rfl : k = t.size := by omega
          have e1 : ¬ (t.size : Int) < (t.size : Int) := by omega
          have hend := intT_end Hn.out (fun m h1 h2 => HDg.out m h1 h2) HN.out
          have hbd : overB t t.size = false → mi = false → -9223372036854775807 ≤ nv ∧ nv ≤ 0 := fun h1 h2 => by
            have h3 := HN.out h1
            unfold overB mostN at h1
            rw [if_neg (by intro e; have := HMi.out; rw [h2, e] at this; simp at this)] at h1
            simp at h1
            omega
          rw [HR2.out] at hend
          have hmi : (if ch t 0 = 45 then nv else -nv) = if mi = true then nv else -nv := by
            rw [← HMi.out]
            by_cases h45 : ch t 0 = 45
            · rw [if_pos h45, if_pos (by simpa using h45)]
            · rw [if_neg h45, if_neg (by simpa using h45)]
          rw [hmi] at hend
          clear hmi HN HDg
          cases ho : overB t t.size with
          | true =>
            have HF : Hid (RES = (0, 12)) := Lib.hid (by rw [hend, ho]; rfl)
            clear hend hbd ho
            go_wp2_with fail
            go_ret2
            rw [HF.out]
            exact ⟨rfl, HG1.out⟩
          | false =>
            cases mi with
            | true =>
              have HF : Hid (RES = (nv, 0)) := Lib.hid (by rw [hend, ho]; rfl)
              clear hend hbd ho
              go_wp2_with fail
              go_ret2
              rw [HF.out]
              exact ⟨rfl, HG1.out⟩
            | false =>
              obtain ⟨b1, b2⟩ := hbd ho rfl
              have HF : Hid (RES = (-nv, 0)) := Lib.hid (by rw [hend, ho]; rfl)
              have hw : wrap64 (-nv) = -nv := wrap_keep (by omega) (by omega)
              have Hw := Lib.hid hw
              clear hend hbd ho hw
              go_wp2_with fail
              go_ret2
              rw [HF.out]
              exact ⟨by first | rfl | (rw [← Hw.out]; rfl) | (simp only [Hw.out]), HG1.out⟩
  · have HF : Hid (RES = (0, 134)) := Lib.hid (by rw [← HR.out, intJ_no h2])
    have e1 : (kd != 2) = true := by simpa using h2
    clear h2
    go_wp2_with fail
    go_ret2
    rw [HF.out]
    exact ⟨rfl, HG1.out⟩
end Go.Proofs.YtlbilofnbhhmjaaGreatDoor
