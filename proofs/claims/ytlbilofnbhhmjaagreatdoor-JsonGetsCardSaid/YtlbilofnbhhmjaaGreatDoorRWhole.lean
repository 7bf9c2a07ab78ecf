/- The reference: how many bytes a sign has. -/
import Derived.Test.YtlbilofnbhhmjaaGreatDoorRSmall
namespace Go.Proofs.YtlbilofnbhhmjaaGreatDoor
open Go.RowKit
set_option linter.unusedVariables false
set_option linter.unusedSimpArgs false
/-- What a first byte says: so many bytes, and between which the second one lies. -/
def Lead (c : Int) (n : Nat) (lo hi : Int) : Prop :=
  (194 ≤ c ∧ c ≤ 223 ∧ n = 2 ∧ lo = 128 ∧ hi = 191) ∨ (c = 224 ∧ n = 3 ∧ lo = 160 ∧ hi = 191) ∨ (225 ≤ c ∧ c ≤ 239 ∧ c ≠ 237 ∧ n = 3 ∧ lo = 128 ∧ hi = 191) ∨ (c = 237 ∧ n = 3 ∧ lo = 128 ∧ hi = 159) ∨
  (c = 240 ∧ n = 4 ∧ lo = 144 ∧ hi = 191) ∨ (241 ≤ c ∧ c ≤ 243 ∧ n = 4 ∧ lo = 128 ∧ hi = 191) ∨ (c = 244 ∧ n = 4 ∧ lo = 128 ∧ hi = 143)
def tailN (s : ByteArray) (i n : Nat) : Nat → Nat → Nat
  | 0, _ => n
  | f + 1, k => if ch s (i + k) < 128 ∨ 191 < ch s (i + k) then 0 else tailN s i n f (k + 1)
theorem whole_one {s : ByteArray} {i : Nat} (h : i < s.size) (hc : ch s i < 128) : wholeAt s i = 1 := by
  have g0 := get_ch h
  unfold wholeAt wholeN
  rw [if_pos (by omega)]
theorem whole_bad {s : ByteArray} {i : Nat} (h : i < s.size) (h1 : 128 ≤ ch s i) (hc : ch s i < 194 ∨ 244 < ch s i) : wholeAt s i = 0 := by
  have g0 := get_ch h
  unfold wholeAt wholeN
  rw [if_neg (by omega), if_neg (by omega), if_neg (by omega), if_neg (by omega)]
theorem whole_lead {s : ByteArray} {i n : Nat} {lo hi : Int} (h : i < s.size) (hl : Lead (ch s i) n lo hi) : wholeAt s i = if s.size < i + n ∨ ch s (i + 1) < lo ∨ hi < ch s (i + 1) then 0 else tailN s i n (n - 2) 2 := by
  have g0 := get_ch h
  have g1 : i + 1 < s.size → _ := get_ch (s := s) (i := i + 1)
  have g2 : i + 2 < s.size → _ := get_ch (s := s) (i := i + 2)
  have g3 : i + 3 < s.size → _ := get_ch (s := s) (i := i + 3)
  unfold wholeAt wholeN
  generalize (s.get! i).toNat = b0 at g0 ⊢
  generalize (s.get! (i + 1)).toNat = b1 at g1 ⊢
  generalize (s.get! (i + 2)).toNat = b2 at g2 ⊢
  generalize (s.get! (i + 3)).toNat = b3 at g3 ⊢
  unfold Lead at hl
  rcases hl with ⟨_, _, rfl, rfl, rfl⟩ | ⟨_, rfl, rfl, rfl⟩ | ⟨_, _, _, rfl, rfl, rfl⟩ | ⟨_, rfl, rfl, rfl⟩ | ⟨_, rfl, rfl, rfl⟩ | ⟨_, _, rfl, rfl, rfl⟩ | ⟨_, rfl, rfl, rfl⟩
  all_goals
    simp only [tailN, Nat.reduceSub, Nat.reduceAdd]
    repeat' split
  all_goals first
    | rfl
    | (exfalso; omega)
theorem lead_of {c : Int} (h1 : 194 ≤ c) (h2 : c ≤ 244) : ∃ n lo hi, Lead c n lo hi := by
  unfold Lead
  by_cases h3 : c ≤ 223
  · exact ⟨2, 128, 191, by omega⟩
  by_cases h4 : c = 224
  · exact ⟨3, 160, 191, by omega⟩
  by_cases h5 : c = 237
  · exact ⟨3, 128, 159, by omega⟩
  by_cases h6 : c ≤ 239
  · exact ⟨3, 128, 191, by omega⟩
  by_cases h7 : c = 240
  · exact ⟨4, 144, 191, by omega⟩
  by_cases h8 : c = 244
  · exact ⟨4, 128, 143, by omega⟩
  · exact ⟨4, 128, 191, by omega⟩
set_option maxHeartbeats 6400000 in
set_option maxRecDepth 100000 in
theorem rwhole_any (i : Nat) (s : ByteArray) (w : World) (hs : s.size ≤ 1099511627776) (hi : i < s.size) :
    Calls Tryz.prog 78 #[.string s, .int .i64 i] w fun e w' => e = .returned (.int .i64 (wholeAt s i : Nat)) ∧ w = w' := by
  have hi3 : (i : Int) < (s.size : Int) := by omega
  have hcs : ((s[i]'hi).toNat : Int) = ch s i := (ch_in hi).symm
  obtain ⟨W, hW⟩ : ∃ x, wholeAt s i = x := ⟨_, rfl⟩
  rw [hW]
  have HW := Lib.hid hW
  clear hW
  obtain ⟨c, hc⟩ : ∃ c, ch s i = c := ⟨_, rfl⟩
  have hcr := ch_range s i
  rw [hc] at hcs hcr
  have Hc := Lib.hid hc
  obtain ⟨hc0, hc255⟩ := hcr
  clear hc
  by_cases h1 : c < 128
  · have HE : Hid (W = 1) := Lib.hid (by rw [← HW.out]; exact whole_one hi (by rw [Hc.out]; exact h1))
    go_enter Tryz.func78, Tryz.ntmps78
    go_wp2_with fail
    go_ret
    rw [HE.out]
    exact ⟨rfl, rfl⟩
  · by_cases hbad : c < 194 ∨ 244 < c
    · have HE : Hid (W = 0) := Lib.hid (by rw [← HW.out]; exact whole_bad hi (by rw [Hc.out]; omega) (by rw [Hc.out]; exact hbad))
      rcases hbad with hb | hb
      · have k1 : ¬ 194 ≤ c := by omega
        have k2 : ¬ 224 ≤ c := by omega
        have k3 : ¬ 240 ≤ c := by omega
        go_enter Tryz.func78, Tryz.ntmps78
        go_wp2_with fail
        go_ret
        rw [HE.out]
        exact ⟨rfl, rfl⟩
      · have k1 : 194 ≤ c := by omega
        have k2 : 224 ≤ c := by omega
        have k3 : 240 ≤ c := by omega
        have k4 : ¬ c ≤ 223 := by omega
        have k5 : ¬ c ≤ 239 := by omega
        have k6 : ¬ c ≤ 244 := by omega
        go_enter Tryz.func78, Tryz.ntmps78
        go_wp2_with fail
        go_ret
        rw [HE.out]
        exact ⟨rfl, rfl⟩
    · have k1 : 194 ≤ c := by omega
      have k6 : c ≤ 244 := by omega
      clear hbad
      by_cases k4 : c ≤ 223
      · have k2 : ¬ 224 ≤ c := by omega
        have b224 : (c == 224) = false := by simp; omega
        have b237 : (c == 237) = false := by simp; omega
        have b240 : (c == 240) = false := by simp; omega
        have b244 : (c == 244) = false := by simp; omega
        have HL : Hid (W = if s.size < i + 2 ∨ ch s (i + 1) < 128 ∨ 191 < ch s (i + 1) then 0 else tailN s i 2 0 2) := Lib.hid (by rw [← HW.out]; exact whole_lead hi (n := 2) (lo := 128) (hi := 191) (by rw [Hc.out]; unfold Lead; omega))
        obtain ⟨pn, hpn⟩ : ∃ p, i + 2 = p := ⟨_, rfl⟩
        obtain ⟨p1, hp1⟩ : ∃ p, i + 1 = p := ⟨_, rfl⟩
        have hwn : IntKind.i64.wrap ((i : Int) + 2) = (pn : Int) := by rw [IntWalk.i64_in _ (by omega)]; omega
        have hw1 : IntKind.i64.wrap ((i : Int) + 1) = (p1 : Int) := by rw [IntWalk.i64_in _ (by omega)]; omega
        go_enter Tryz.func78, Tryz.ntmps78
        go_upto_region 20 with fail
        by_cases hA : s.size < pn
        · have hA' : (s.size : Int) < (i : Int) + 2 := by omega
          have HE : Hid (W = 0) := Lib.hid (by rw [HL.out, if_pos (.inl (by omega))])
          go_wp2_with fail
          go_ret
          rw [HE.out]
          exact ⟨rfl, rfl⟩
        · have hA' : ¬ (s.size : Int) < (i : Int) + 2 := by omega
          have hA2 : (i : Int) + 2 ≤ (s.size : Int) := by omega
          have hl1 : p1 < s.size := by omega
          have hl1' : (i : Int) + 1 < (s.size : Int) := by omega
          obtain ⟨c1, hc1⟩ : ∃ c, ch s p1 = c := ⟨_, rfl⟩
          have hcs1 : ((s[i + 1]'(by omega)).toNat : Int) = c1 := by rw [← ch_in (s := s) (i := i + 1) (by omega), hp1]; exact hc1
          have hcs1b : ((s[p1]'hl1).toNat : Int) = c1 := by rw [← hc1]; exact (ch_in hl1).symm
          have Hc1 : Hid (ch s (i + 1) = c1) := Lib.hid (by rw [hp1]; exact hc1)
          clear hc1
          by_cases hB : c1 < 128
          · have hx : True := trivial
            have HE : Hid (W = 0) := Lib.hid (by rw [HL.out, if_pos (.inr (.inl (by rw [Hc1.out]; exact hB)))])
            go_wp2_with fail
            go_ret
            rw [HE.out]
            exact ⟨rfl, rfl⟩
          · by_cases hC : 191 < c1
            · have hx : True := trivial
              have HE : Hid (W = 0) := Lib.hid (by rw [HL.out, if_pos (.inr (.inr (by rw [Hc1.out]; exact hC)))])
              go_wp2_with fail
              go_ret
              rw [HE.out]
              exact ⟨rfl, rfl⟩
            · have HT : Hid (tailN s i 2 0 2 = W) := Lib.hid (by rw [HL.out, if_neg (by rw [Hc1.out]; omega)])
              have Hpn := Lib.hid hpn
              have HA := Lib.hid hA
              go_wp2_with fail
              clear hcs1 hcs1b hwn hw1 hpn hp1
              clear hA
              go_loop [8] (fun v => ∃ k : Nat, 2 ≤ k ∧ k ≤ 2 ∧ v = .int .i64 k ∧ Hid (tailN s i 2 (2 - k) k = W)) (fun v => 2 - (intOf v).toNat)
              case atStart => exact ⟨2, by omega, by omega, rfl, HT⟩
              case round =>
                obtain ⟨k, hk2, hkn, rfl, HK⟩ := hrel
                by_cases hkl : k < 2
                · exact absurd hkl (by omega)
                · obtain rfl : k = 2 := by omega
                  have HE : Hid (W = 2) := Lib.hid (by rw [← HK.out]; rfl)
                  go_wp2_with fail
                  go_ret
                  rw [HE.out]
                  exact ⟨rfl, rfl⟩
      · have k2 : 224 ≤ c := by omega
        by_cases k5 : c ≤ 239
        · have k3 : ¬ 240 ≤ c := by omega
          by_cases e224 : c = 224
          · subst e224
            have HL : Hid (W = if s.size < i + 3 ∨ ch s (i + 1) < 160 ∨ 191 < ch s (i + 1) then 0 else tailN s i 3 1 2) := Lib.hid (by rw [← HW.out]; exact whole_lead hi (n := 3) (lo := 160) (hi := 191) (by rw [Hc.out]; unfold Lead; omega))
            obtain ⟨pn, hpn⟩ : ∃ p, i + 3 = p := ⟨_, rfl⟩
            obtain ⟨p1, hp1⟩ : ∃ p, i + 1 = p := ⟨_, rfl⟩
            have hwn : IntKind.i64.wrap ((i : Int) + 3) = (pn : Int) := by rw [IntWalk.i64_in _ (by omega)]; omega
            have hw1 : IntKind.i64.wrap ((i : Int) + 1) = (p1 : Int) := by rw [IntWalk.i64_in _ (by omega)]; omega
            go_enter Tryz.func78, Tryz.ntmps78
            go_upto_region 20 with fail
            by_cases hA : s.size < pn
            · have hA' : (s.size : Int) < (i : Int) + 3 := by omega
              have HE : Hid (W = 0) := Lib.hid (by rw [HL.out, if_pos (.inl (by omega))])
              go_wp2_with fail
              go_ret
              rw [HE.out]
              exact ⟨rfl, rfl⟩
            · have hA' : ¬ (s.size : Int) < (i : Int) + 3 := by omega
              have hA2 : (i : Int) + 3 ≤ (s.size : Int) := by omega
              have hl1 : p1 < s.size := by omega
              have hl1' : (i : Int) + 1 < (s.size : Int) := by omega
              obtain ⟨c1, hc1⟩ : ∃ c, ch s p1 = c := ⟨_, rfl⟩
              have hcs1 : ((s[i + 1]'(by omega)).toNat : Int) = c1 := by rw [← ch_in (s := s) (i := i + 1) (by omega), hp1]; exact hc1
              have hcs1b : ((s[p1]'hl1).toNat : Int) = c1 := by rw [← hc1]; exact (ch_in hl1).symm
              have Hc1 : Hid (ch s (i + 1) = c1) := Lib.hid (by rw [hp1]; exact hc1)
              clear hc1
              by_cases hB : c1 < 160
              · have hx : True := trivial
                have HE : Hid (W = 0) := Lib.hid (by rw [HL.out, if_pos (.inr (.inl (by rw [Hc1.out]; exact hB)))])
                go_wp2_with fail
                go_ret
                rw [HE.out]
                exact ⟨rfl, rfl⟩
              · by_cases hC : 191 < c1
                · have hx : True := trivial
                  have HE : Hid (W = 0) := Lib.hid (by rw [HL.out, if_pos (.inr (.inr (by rw [Hc1.out]; exact hC)))])
                  go_wp2_with fail
                  go_ret
                  rw [HE.out]
                  exact ⟨rfl, rfl⟩
                · have HT : Hid (tailN s i 3 1 2 = W) := Lib.hid (by rw [HL.out, if_neg (by rw [Hc1.out]; omega)])
                  have Hpn := Lib.hid hpn
                  have HA := Lib.hid hA
                  go_wp2_with fail
                  clear hcs1 hcs1b hwn hw1 hpn hp1
                  clear hA
                  go_loop [8] (fun v => ∃ k : Nat, 2 ≤ k ∧ k ≤ 3 ∧ v = .int .i64 k ∧ Hid (tailN s i 3 (3 - k) k = W)) (fun v => 3 - (intOf v).toNat)
                  case atStart => exact ⟨2, by omega, by omega, rfl, HT⟩
                  case round =>
                    obtain ⟨k, hk2, hkn, rfl, HK⟩ := hrel
                    by_cases hkl : k < 3
                    · obtain ⟨pk, hpk⟩ : ∃ p, i + k = p := ⟨_, rfl⟩
                      have hwk : IntKind.i64.wrap ((i : Int) + (k : Int)) = (pk : Int) := by rw [IntWalk.i64_in _ (by omega)]; omega
                      have hlk : pk < s.size := by have := Hpn.out; have := HA.out; omega
                      have hlk' : (i : Int) + (k : Int) < (s.size : Int) := by omega
                      obtain ⟨ck, hck⟩ : ∃ c, ch s pk = c := ⟨_, rfl⟩
                      have hcsk : ((s[i + k]'(by omega)).toNat : Int) = ck := by rw [← ch_in (s := s) (i := i + k) (by omega), hpk]; exact hck
                      have hcskb : ((s[pk]'hlk).toNat : Int) = ck := by rw [← hck]; exact (ch_in hlk).symm
                      have HS : Hid ((if ck < 128 ∨ 191 < ck then 0 else tailN s i 3 (3 - (k + 1)) (k + 1)) = W) := Lib.hid (by
                        rw [← HK.out, show 3 - k = (3 - (k + 1)) + 1 by omega, tailN, hpk, hck])
                      clear hck
                      by_cases hD : ck < 128
                      · have HE : Hid (W = 0) := Lib.hid (by rw [← HS.out, if_pos (.inl hD)])
                        go_wp2_with fail
                        go_ret
                        rw [HE.out]
                        exact ⟨rfl, rfl⟩
                      · by_cases hE : 191 < ck
                        · have HE : Hid (W = 0) := Lib.hid (by rw [← HS.out, if_pos (.inr hE)])
                          go_wp2_with fail
                          go_ret
                          rw [HE.out]
                          exact ⟨rfl, rfl⟩
                        · have HN : Hid (tailN s i 3 (3 - (k + 1)) (k + 1) = W) := Lib.hid (by rw [← HS.out, if_neg (by omega)])
                          go_wp2_with fail
                          go_round
                          case rel => exact ⟨k + 1, by omega, by omega, by go_num, HN⟩
                          case measure => simp [intOf]; omega
                    · obtain rfl : k = 3 := by omega
                      have HE : Hid (W = 3) := Lib.hid (by rw [← HK.out]; rfl)
                      go_wp2_with fail
                      go_ret
                      rw [HE.out]
                      exact ⟨rfl, rfl⟩
          · by_cases e237 : c = 237
            · subst e237
              have HL : Hid (W = if s.size < i + 3 ∨ ch s (i + 1) < 128 ∨ 159 < ch s (i + 1) then 0 else tailN s i 3 1 2) := Lib.hid (by rw [← HW.out]; exact whole_lead hi (n := 3) (lo := 128) (hi := 159) (by rw [Hc.out]; unfold Lead; omega))
              obtain ⟨pn, hpn⟩ : ∃ p, i + 3 = p := ⟨_, rfl⟩
              obtain ⟨p1, hp1⟩ : ∃ p, i + 1 = p := ⟨_, rfl⟩
              have hwn : IntKind.i64.wrap ((i : Int) + 3) = (pn : Int) := by rw [IntWalk.i64_in _ (by omega)]; omega
              have hw1 : IntKind.i64.wrap ((i : Int) + 1) = (p1 : Int) := by rw [IntWalk.i64_in _ (by omega)]; omega
              go_enter Tryz.func78, Tryz.ntmps78
              go_upto_region 20 with fail
              by_cases hA : s.size < pn
              · have hA' : (s.size : Int) < (i : Int) + 3 := by omega
                have HE : Hid (W = 0) := Lib.hid (by rw [HL.out, if_pos (.inl (by omega))])
                go_wp2_with fail
                go_ret
                rw [HE.out]
                exact ⟨rfl, rfl⟩
              · have hA' : ¬ (s.size : Int) < (i : Int) + 3 := by omega
                have hA2 : (i : Int) + 3 ≤ (s.size : Int) := by omega
                have hl1 : p1 < s.size := by omega
                have hl1' : (i : Int) + 1 < (s.size : Int) := by omega
                obtain ⟨c1, hc1⟩ : ∃ c, ch s p1 = c := ⟨_, rfl⟩
                have hcs1 : ((s[i + 1]'(by omega)).toNat : Int) = c1 := by rw [← ch_in (s := s) (i := i + 1) (by omega), hp1]; exact hc1
                have hcs1b : ((s[p1]'hl1).toNat : Int) = c1 := by rw [← hc1]; exact (ch_in hl1).symm
                have Hc1 : Hid (ch s (i + 1) = c1) := Lib.hid (by rw [hp1]; exact hc1)
                clear hc1
                by_cases hB : c1 < 128
                · have hx : True := trivial
                  have HE : Hid (W = 0) := Lib.hid (by rw [HL.out, if_pos (.inr (.inl (by rw [Hc1.out]; exact hB)))])
                  go_wp2_with fail
                  go_ret
                  rw [HE.out]
                  exact ⟨rfl, rfl⟩
                · by_cases hC : 159 < c1
                  · have hx : True := trivial
                    have HE : Hid (W = 0) := Lib.hid (by rw [HL.out, if_pos (.inr (.inr (by rw [Hc1.out]; exact hC)))])
                    go_wp2_with fail
                    go_ret
                    rw [HE.out]
                    exact ⟨rfl, rfl⟩
                  · have HT : Hid (tailN s i 3 1 2 = W) := Lib.hid (by rw [HL.out, if_neg (by rw [Hc1.out]; omega)])
                    have Hpn := Lib.hid hpn
                    have HA := Lib.hid hA
                    go_wp2_with fail
                    clear hcs1 hcs1b hwn hw1 hpn hp1
                    clear hA
                    go_loop [8] (fun v => ∃ k : Nat, 2 ≤ k ∧ k ≤ 3 ∧ v = .int .i64 k ∧ Hid (tailN s i 3 (3 - k) k = W)) (fun v => 3 - (intOf v).toNat)
                    case atStart => exact ⟨2, by omega, by omega, rfl, HT⟩
                    case round =>
                      obtain ⟨k, hk2, hkn, rfl, HK⟩ := hrel
                      by_cases hkl : k < 3
                      · obtain ⟨pk, hpk⟩ : ∃ p, i + k = p := ⟨_, rfl⟩
                        have hwk : IntKind.i64.wrap ((i : Int) + (k : Int)) = (pk : Int) := by rw [IntWalk.i64_in _ (by omega)]; omega
                        have hlk : pk < s.size := by have := Hpn.out; have := HA.out; omega
                        have hlk' : (i : Int) + (k : Int) < (s.size : Int) := by omega
                        obtain ⟨ck, hck⟩ : ∃ c, ch s pk = c := ⟨_, rfl⟩
                        have hcsk : ((s[i + k]'(by omega)).toNat : Int) = ck := by rw [← ch_in (s := s) (i := i + k) (by omega), hpk]; exact hck
                        have hcskb : ((s[pk]'hlk).toNat : Int) = ck := by rw [← hck]; exact (ch_in hlk).symm
                        have HS : Hid ((if ck < 128 ∨ 191 < ck then 0 else tailN s i 3 (3 - (k + 1)) (k + 1)) = W) := Lib.hid (by
                          rw [← HK.out, show 3 - k = (3 - (k + 1)) + 1 by omega, tailN, hpk, hck])
                        clear hck
                        by_cases hD : ck < 128
                        · have HE : Hid (W = 0) := Lib.hid (by rw [← HS.out, if_pos (.inl hD)])
                          go_wp2_with fail
                          go_ret
                          rw [HE.out]
                          exact ⟨rfl, rfl⟩
                        · by_cases hE : 191 < ck
                          · have HE : Hid (W = 0) := Lib.hid (by rw [← HS.out, if_pos (.inr hE)])
                            go_wp2_with fail
                            go_ret
                            rw [HE.out]
                            exact ⟨rfl, rfl⟩
                          · have HN : Hid (tailN s i 3 (3 - (k + 1)) (k + 1) = W) := Lib.hid (by rw [← HS.out, if_neg (by omega)])
                            go_wp2_with fail
                            go_round
                            case rel => exact ⟨k + 1, by omega, by omega, by go_num, HN⟩
                            case measure => simp [intOf]; omega
                      · obtain rfl : k = 3 := by omega
                        have HE : Hid (W = 3) := Lib.hid (by rw [← HK.out]; rfl)
                        go_wp2_with fail
                        go_ret
                        rw [HE.out]
                        exact ⟨rfl, rfl⟩
            · have hx : True := trivial
              have b224 : (c == 224) = false := by simp; omega
              have b237 : (c == 237) = false := by simp; omega
              have b240 : (c == 240) = false := by simp; omega
              have b244 : (c == 244) = false := by simp; omega
              have HL : Hid (W = if s.size < i + 3 ∨ ch s (i + 1) < 128 ∨ 191 < ch s (i + 1) then 0 else tailN s i 3 1 2) := Lib.hid (by rw [← HW.out]; exact whole_lead hi (n := 3) (lo := 128) (hi := 191) (by rw [Hc.out]; unfold Lead; omega))
              obtain ⟨pn, hpn⟩ : ∃ p, i + 3 = p := ⟨_, rfl⟩
              obtain ⟨p1, hp1⟩ : ∃ p, i + 1 = p := ⟨_, rfl⟩
              have hwn : IntKind.i64.wrap ((i : Int) + 3) = (pn : Int) := by rw [IntWalk.i64_in _ (by omega)]; omega
              have hw1 : IntKind.i64.wrap ((i : Int) + 1) = (p1 : Int) := by rw [IntWalk.i64_in _ (by omega)]; omega
              go_enter Tryz.func78, Tryz.ntmps78
              go_upto_region 20 with fail
              by_cases hA : s.size < pn
              · have hA' : (s.size : Int) < (i : Int) + 3 := by omega
                have HE : Hid (W = 0) := Lib.hid (by rw [HL.out, if_pos (.inl (by omega))])
                go_wp2_with fail
                go_ret
                rw [HE.out]
                exact ⟨rfl, rfl⟩
              · have hA' : ¬ (s.size : Int) < (i : Int) + 3 := by omega
                have hA2 : (i : Int) + 3 ≤ (s.size : Int) := by omega
                have hl1 : p1 < s.size := by omega
                have hl1' : (i : Int) + 1 < (s.size : Int) := by omega
                obtain ⟨c1, hc1⟩ : ∃ c, ch s p1 = c := ⟨_, rfl⟩
                have hcs1 : ((s[i + 1]'(by omega)).toNat : Int) = c1 := by rw [← ch_in (s := s) (i := i + 1) (by omega), hp1]; exact hc1
                have hcs1b : ((s[p1]'hl1).toNat : Int) = c1 := by rw [← hc1]; exact (ch_in hl1).symm
                have Hc1 : Hid (ch s (i + 1) = c1) := Lib.hid (by rw [hp1]; exact hc1)
                clear hc1
                by_cases hB : c1 < 128
                · have hx : True := trivial
                  have HE : Hid (W = 0) := Lib.hid (by rw [HL.out, if_pos (.inr (.inl (by rw [Hc1.out]; exact hB)))])
                  go_wp2_with fail
                  go_ret
                  rw [HE.out]
                  exact ⟨rfl, rfl⟩
                · by_cases hC : 191 < c1
                  · have hx : True := trivial
                    have HE : Hid (W = 0) := Lib.hid (by rw [HL.out, if_pos (.inr (.inr (by rw [Hc1.out]; exact hC)))])
                    go_wp2_with fail
                    go_ret
                    rw [HE.out]
                    exact ⟨rfl, rfl⟩
                  · have HT : Hid (tailN s i 3 1 2 = W) := Lib.hid (by rw [HL.out, if_neg (by rw [Hc1.out]; omega)])
                    have Hpn := Lib.hid hpn
                    have HA := Lib.hid hA
                    go_wp2_with fail
                    clear hcs1 hcs1b hwn hw1 hpn hp1
                    clear hA
                    go_loop [8] (fun v => ∃ k : Nat, 2 ≤ k ∧ k ≤ 3 ∧ v = .int .i64 k ∧ Hid (tailN s i 3 (3 - k) k = W)) (fun v => 3 - (intOf v).toNat)
                    case atStart => exact ⟨2, by omega, by omega, rfl, HT⟩
                    case round =>
                      obtain ⟨k, hk2, hkn, rfl, HK⟩ := hrel
                      by_cases hkl : k < 3
                      · obtain ⟨pk, hpk⟩ : ∃ p, i + k = p := ⟨_, rfl⟩
                        have hwk : IntKind.i64.wrap ((i : Int) + (k : Int)) = (pk : Int) := by rw [IntWalk.i64_in _ (by omega)]; omega
                        have hlk : pk < s.size := by have := Hpn.out; have := HA.out; omega
                        have hlk' : (i : Int) + (k : Int) < (s.size : Int) := by omega
                        obtain ⟨ck, hck⟩ : ∃ c, ch s pk = c := ⟨_, rfl⟩
                        have hcsk : ((s[i + k]'(by omega)).toNat : Int) = ck := by rw [← ch_in (s := s) (i := i + k) (by omega), hpk]; exact hck
                        have hcskb : ((s[pk]'hlk).toNat : Int) = ck := by rw [← hck]; exact (ch_in hlk).symm
                        have HS : Hid ((if ck < 128 ∨ 191 < ck then 0 else tailN s i 3 (3 - (k + 1)) (k + 1)) = W) := Lib.hid (by
                          rw [← HK.out, show 3 - k = (3 - (k + 1)) + 1 by omega, tailN, hpk, hck])
                        clear hck
                        by_cases hD : ck < 128
                        · have HE : Hid (W = 0) := Lib.hid (by rw [← HS.out, if_pos (.inl hD)])
                          go_wp2_with fail
                          go_ret
                          rw [HE.out]
                          exact ⟨rfl, rfl⟩
                        · by_cases hE : 191 < ck
                          · have HE : Hid (W = 0) := Lib.hid (by rw [← HS.out, if_pos (.inr hE)])
                            go_wp2_with fail
                            go_ret
                            rw [HE.out]
                            exact ⟨rfl, rfl⟩
                          · have HN : Hid (tailN s i 3 (3 - (k + 1)) (k + 1) = W) := Lib.hid (by rw [← HS.out, if_neg (by omega)])
                            go_wp2_with fail
                            go_round
                            case rel => exact ⟨k + 1, by omega, by omega, by go_num, HN⟩
                            case measure => simp [intOf]; omega
                      · obtain rfl : k = 3 := by omega
                        have HE : Hid (W = 3) := Lib.hid (by rw [← HK.out]; rfl)
                        go_wp2_with fail
                        go_ret
                        rw [HE.out]
                        exact ⟨rfl, rfl⟩
        · have k3 : 240 ≤ c := by omega
          by_cases e240 : c = 240
          · subst e240
            have HL : Hid (W = if s.size < i + 4 ∨ ch s (i + 1) < 144 ∨ 191 < ch s (i + 1) then 0 else tailN s i 4 2 2) := Lib.hid (by rw [← HW.out]; exact whole_lead hi (n := 4) (lo := 144) (hi := 191) (by rw [Hc.out]; unfold Lead; omega))
            obtain ⟨pn, hpn⟩ : ∃ p, i + 4 = p := ⟨_, rfl⟩
            obtain ⟨p1, hp1⟩ : ∃ p, i + 1 = p := ⟨_, rfl⟩
            have hwn : IntKind.i64.wrap ((i : Int) + 4) = (pn : Int) := by rw [IntWalk.i64_in _ (by omega)]; omega
            have hw1 : IntKind.i64.wrap ((i : Int) + 1) = (p1 : Int) := by rw [IntWalk.i64_in _ (by omega)]; omega
            go_enter Tryz.func78, Tryz.ntmps78
            go_upto_region 20 with fail
            by_cases hA : s.size < pn
            · have hA' : (s.size : Int) < (i : Int) + 4 := by omega
              have HE : Hid (W = 0) := Lib.hid (by rw [HL.out, if_pos (.inl (by omega))])
              go_wp2_with fail
              go_ret
              rw [HE.out]
              exact ⟨rfl, rfl⟩
            · have hA' : ¬ (s.size : Int) < (i : Int) + 4 := by omega
              have hA2 : (i : Int) + 4 ≤ (s.size : Int) := by omega
              have hl1 : p1 < s.size := by omega
              have hl1' : (i : Int) + 1 < (s.size : Int) := by omega
              obtain ⟨c1, hc1⟩ : ∃ c, ch s p1 = c := ⟨_, rfl⟩
              have hcs1 : ((s[i + 1]'(by omega)).toNat : Int) = c1 := by rw [← ch_in (s := s) (i := i + 1) (by omega), hp1]; exact hc1
              have hcs1b : ((s[p1]'hl1).toNat : Int) = c1 := by rw [← hc1]; exact (ch_in hl1).symm
              have Hc1 : Hid (ch s (i + 1) = c1) := Lib.hid (by rw [hp1]; exact hc1)
              clear hc1
              by_cases hB : c1 < 144
              · have hx : True := trivial
                have HE : Hid (W = 0) := Lib.hid (by rw [HL.out, if_pos (.inr (.inl (by rw [Hc1.out]; exact hB)))])
                go_wp2_with fail
                go_ret
                rw [HE.out]
                exact ⟨rfl, rfl⟩
              · by_cases hC : 191 < c1
                · have hx : True := trivial
                  have HE : Hid (W = 0) := Lib.hid (by rw [HL.out, if_pos (.inr (.inr (by rw [Hc1.out]; exact hC)))])
                  go_wp2_with fail
                  go_ret
                  rw [HE.out]
                  exact ⟨rfl, rfl⟩
                · have HT : Hid (tailN s i 4 2 2 = W) := Lib.hid (by rw [HL.out, if_neg (by rw [Hc1.out]; omega)])
                  have Hpn := Lib.hid hpn
                  have HA := Lib.hid hA
                  go_wp2_with fail
                  clear hcs1 hcs1b hwn hw1 hpn hp1
                  clear hA
                  go_loop [8] (fun v => ∃ k : Nat, 2 ≤ k ∧ k ≤ 4 ∧ v = .int .i64 k ∧ Hid (tailN s i 4 (4 - k) k = W)) (fun v => 4 - (intOf v).toNat)
                  case atStart => exact ⟨2, by omega, by omega, rfl, HT⟩
                  case round =>
                    obtain ⟨k, hk2, hkn, rfl, HK⟩ := hrel
                    by_cases hkl : k < 4
                    · obtain ⟨pk, hpk⟩ : ∃ p, i + k = p := ⟨_, rfl⟩
                      have hwk : IntKind.i64.wrap ((i : Int) + (k : Int)) = (pk : Int) := by rw [IntWalk.i64_in _ (by omega)]; omega
                      have hlk : pk < s.size := by have := Hpn.out; have := HA.out; omega
                      have hlk' : (i : Int) + (k : Int) < (s.size : Int) := by omega
                      obtain ⟨ck, hck⟩ : ∃ c, ch s pk = c := ⟨_, rfl⟩
                      have hcsk : ((s[i + k]'(by omega)).toNat : Int) = ck := by rw [← ch_in (s := s) (i := i + k) (by omega), hpk]; exact hck
                      have hcskb : ((s[pk]'hlk).toNat : Int) = ck := by rw [← hck]; exact (ch_in hlk).symm
                      have HS : Hid ((if ck < 128 ∨ 191 < ck then 0 else tailN s i 4 (4 - (k + 1)) (k + 1)) = W) := Lib.hid (by
                        rw [← HK.out, show 4 - k = (4 - (k + 1)) + 1 by omega, tailN, hpk, hck])
                      clear hck
                      by_cases hD : ck < 128
                      · have HE : Hid (W = 0) := Lib.hid (by rw [← HS.out, if_pos (.inl hD)])
                        go_wp2_with fail
                        go_ret
                        rw [HE.out]
                        exact ⟨rfl, rfl⟩
                      · by_cases hE : 191 < ck
                        · have HE : Hid (W = 0) := Lib.hid (by rw [← HS.out, if_pos (.inr hE)])
                          go_wp2_with fail
                          go_ret
                          rw [HE.out]
                          exact ⟨rfl, rfl⟩
                        · have HN : Hid (tailN s i 4 (4 - (k + 1)) (k + 1) = W) := Lib.hid (by rw [← HS.out, if_neg (by omega)])
                          go_wp2_with fail
                          go_round
                          case rel => exact ⟨k + 1, by omega, by omega, by go_num, HN⟩
                          case measure => simp [intOf]; omega
                    · obtain rfl : k = 4 := by omega
                      have HE : Hid (W = 4) := Lib.hid (by rw [← HK.out]; rfl)
                      go_wp2_with fail
                      go_ret
                      rw [HE.out]
                      exact ⟨rfl, rfl⟩
          · by_cases e244 : c = 244
            · subst e244
              have HL : Hid (W = if s.size < i + 4 ∨ ch s (i + 1) < 128 ∨ 143 < ch s (i + 1) then 0 else tailN s i 4 2 2) := Lib.hid (by rw [← HW.out]; exact whole_lead hi (n := 4) (lo := 128) (hi := 143) (by rw [Hc.out]; unfold Lead; omega))
              obtain ⟨pn, hpn⟩ : ∃ p, i + 4 = p := ⟨_, rfl⟩
              obtain ⟨p1, hp1⟩ : ∃ p, i + 1 = p := ⟨_, rfl⟩
              have hwn : IntKind.i64.wrap ((i : Int) + 4) = (pn : Int) := by rw [IntWalk.i64_in _ (by omega)]; omega
              have hw1 : IntKind.i64.wrap ((i : Int) + 1) = (p1 : Int) := by rw [IntWalk.i64_in _ (by omega)]; omega
              go_enter Tryz.func78, Tryz.ntmps78
              go_upto_region 20 with fail
              by_cases hA : s.size < pn
              · have hA' : (s.size : Int) < (i : Int) + 4 := by omega
                have HE : Hid (W = 0) := Lib.hid (by rw [HL.out, if_pos (.inl (by omega))])
                go_wp2_with fail
                go_ret
                rw [HE.out]
                exact ⟨rfl, rfl⟩
              · have hA' : ¬ (s.size : Int) < (i : Int) + 4 := by omega
                have hA2 : (i : Int) + 4 ≤ (s.size : Int) := by omega
                have hl1 : p1 < s.size := by omega
                have hl1' : (i : Int) + 1 < (s.size : Int) := by omega
                obtain ⟨c1, hc1⟩ : ∃ c, ch s p1 = c := ⟨_, rfl⟩
                have hcs1 : ((s[i + 1]'(by omega)).toNat : Int) = c1 := by rw [← ch_in (s := s) (i := i + 1) (by omega), hp1]; exact hc1
                have hcs1b : ((s[p1]'hl1).toNat : Int) = c1 := by rw [← hc1]; exact (ch_in hl1).symm
                have Hc1 : Hid (ch s (i + 1) = c1) := Lib.hid (by rw [hp1]; exact hc1)
                clear hc1
                by_cases hB : c1 < 128
                · have hx : True := trivial
                  have HE : Hid (W = 0) := Lib.hid (by rw [HL.out, if_pos (.inr (.inl (by rw [Hc1.out]; exact hB)))])
                  go_wp2_with fail
                  go_ret
                  rw [HE.out]
                  exact ⟨rfl, rfl⟩
                · by_cases hC : 143 < c1
                  · have hx : True := trivial
                    have HE : Hid (W = 0) := Lib.hid (by rw [HL.out, if_pos (.inr (.inr (by rw [Hc1.out]; exact hC)))])
                    go_wp2_with fail
                    go_ret
                    rw [HE.out]
                    exact ⟨rfl, rfl⟩
                  · have HT : Hid (tailN s i 4 2 2 = W) := Lib.hid (by rw [HL.out, if_neg (by rw [Hc1.out]; omega)])
                    have Hpn := Lib.hid hpn
                    have HA := Lib.hid hA
                    go_wp2_with fail
                    clear hcs1 hcs1b hwn hw1 hpn hp1
                    clear hA
                    go_loop [8] (fun v => ∃ k : Nat, 2 ≤ k ∧ k ≤ 4 ∧ v = .int .i64 k ∧ Hid (tailN s i 4 (4 - k) k = W)) (fun v => 4 - (intOf v).toNat)
                    case atStart => exact ⟨2, by omega, by omega, rfl, HT⟩
                    case round =>
                      obtain ⟨k, hk2, hkn, rfl, HK⟩ := hrel
                      by_cases hkl : k < 4
                      · obtain ⟨pk, hpk⟩ : ∃ p, i + k = p := ⟨_, rfl⟩
                        have hwk : IntKind.i64.wrap ((i : Int) + (k : Int)) = (pk : Int) := by rw [IntWalk.i64_in _ (by omega)]; omega
                        have hlk : pk < s.size := by have := Hpn.out; have := HA.out; omega
                        have hlk' : (i : Int) + (k : Int) < (s.size : Int) := by omega
                        obtain ⟨ck, hck⟩ : ∃ c, ch s pk = c := ⟨_, rfl⟩
                        have hcsk : ((s[i + k]'(by omega)).toNat : Int) = ck := by rw [← ch_in (s := s) (i := i + k) (by omega), hpk]; exact hck
                        have hcskb : ((s[pk]'hlk).toNat : Int) = ck := by rw [← hck]; exact (ch_in hlk).symm
                        have HS : Hid ((if ck < 128 ∨ 191 < ck then 0 else tailN s i 4 (4 - (k + 1)) (k + 1)) = W) := Lib.hid (by
                          rw [← HK.out, show 4 - k = (4 - (k + 1)) + 1 by omega, tailN, hpk, hck])
                        clear hck
                        by_cases hD : ck < 128
                        · have HE : Hid (W = 0) := Lib.hid (by rw [← HS.out, if_pos (.inl hD)])
                          go_wp2_with fail
                          go_ret
                          rw [HE.out]
                          exact ⟨rfl, rfl⟩
                        · by_cases hE : 191 < ck
                          · have HE : Hid (W = 0) := Lib.hid (by rw [← HS.out, if_pos (.inr hE)])
                            go_wp2_with fail
                            go_ret
                            rw [HE.out]
                            exact ⟨rfl, rfl⟩
                          · have HN : Hid (tailN s i 4 (4 - (k + 1)) (k + 1) = W) := Lib.hid (by rw [← HS.out, if_neg (by omega)])
                            go_wp2_with fail
                            go_round
                            case rel => exact ⟨k + 1, by omega, by omega, by go_num, HN⟩
                            case measure => simp [intOf]; omega
                      · obtain rfl : k = 4 := by omega
                        have HE : Hid (W = 4) := Lib.hid (by rw [← HK.out]; rfl)
                        go_wp2_with fail
                        go_ret
                        rw [HE.out]
                        exact ⟨rfl, rfl⟩
            · have hx : True := trivial
              have b224 : (c == 224) = false := by simp; omega
              have b237 : (c == 237) = false := by simp; omega
              have b240 : (c == 240) = false := by simp; omega
              have b244 : (c == 244) = false := by simp; omega
              have HL : Hid (W = if s.size < i + 4 ∨ ch s (i + 1) < 128 ∨ 191 < ch s (i + 1) then 0 else tailN s i 4 2 2) := Lib.hid (by rw [← HW.out]; exact whole_lead hi (n := 4) (lo := 128) (hi := 191) (by rw [Hc.out]; unfold Lead; omega))
              obtain ⟨pn, hpn⟩ : ∃ p, i + 4 = p := ⟨_, rfl⟩
              obtain ⟨p1, hp1⟩ : ∃ p, i + 1 = p := ⟨_, rfl⟩
              have hwn : IntKind.i64.wrap ((i : Int) + 4) = (pn : Int) := by rw [IntWalk.i64_in _ (by omega)]; omega
              have hw1 : IntKind.i64.wrap ((i : Int) + 1) = (p1 : Int) := by rw [IntWalk.i64_in _ (by omega)]; omega
              go_enter Tryz.func78, Tryz.ntmps78
              go_upto_region 20 with fail
              by_cases hA : s.size < pn
              · have hA' : (s.size : Int) < (i : Int) + 4 := by omega
                have HE : Hid (W = 0) := Lib.hid (by rw [HL.out, if_pos (.inl (by omega))])
                go_wp2_with fail
                go_ret
                rw [HE.out]
                exact ⟨rfl, rfl⟩
              · have hA' : ¬ (s.size : Int) < (i : Int) + 4 := by omega
                have hA2 : (i : Int) + 4 ≤ (s.size : Int) := by omega
                have hl1 : p1 < s.size := by omega
                have hl1' : (i : Int) + 1 < (s.size : Int) := by omega
                obtain ⟨c1, hc1⟩ : ∃ c, ch s p1 = c := ⟨_, rfl⟩
                have hcs1 : ((s[i + 1]'(by omega)).toNat : Int) = c1 := by rw [← ch_in (s := s) (i := i + 1) (by omega), hp1]; exact hc1
                have hcs1b : ((s[p1]'hl1).toNat : Int) = c1 := by rw [← hc1]; exact (ch_in hl1).symm
                have Hc1 : Hid (ch s (i + 1) = c1) := Lib.hid (by rw [hp1]; exact hc1)
                clear hc1
                by_cases hB : c1 < 128
                · have hx : True := trivial
                  have HE : Hid (W = 0) := Lib.hid (by rw [HL.out, if_pos (.inr (.inl (by rw [Hc1.out]; exact hB)))])
                  go_wp2_with fail
                  go_ret
                  rw [HE.out]
                  exact ⟨rfl, rfl⟩
                · by_cases hC : 191 < c1
                  · have hx : True := trivial
                    have HE : Hid (W = 0) := Lib.hid (by rw [HL.out, if_pos (.inr (.inr (by rw [Hc1.out]; exact hC)))])
                    go_wp2_with fail
                    go_ret
                    rw [HE.out]
                    exact ⟨rfl, rfl⟩
                  · have HT : Hid (tailN s i 4 2 2 = W) := Lib.hid (by rw [HL.out, if_neg (by rw [Hc1.out]; omega)])
                    have Hpn := Lib.hid hpn
                    have HA := Lib.hid hA
                    go_wp2_with fail
                    clear hcs1 hcs1b hwn hw1 hpn hp1
                    clear hA
                    go_loop [8] (fun v => ∃ k : Nat, 2 ≤ k ∧ k ≤ 4 ∧ v = .int .i64 k ∧ Hid (tailN s i 4 (4 - k) k = W)) (fun v => 4 - (intOf v).toNat)
                    case atStart => exact ⟨2, by omega, by omega, rfl, HT⟩
                    case round =>
                      obtain ⟨k, hk2, hkn, rfl, HK⟩ := hrel
                      by_cases hkl : k < 4
                      · obtain ⟨pk, hpk⟩ : ∃ p, i + k = p := ⟨_, rfl⟩
                        have hwk : IntKind.i64.wrap ((i : Int) + (k : Int)) = (pk : Int) := by rw [IntWalk.i64_in _ (by omega)]; omega
                        have hlk : pk < s.size := by have := Hpn.out; have := HA.out; omega
                        have hlk' : (i : Int) + (k : Int) < (s.size : Int) := by omega
                        obtain ⟨ck, hck⟩ : ∃ c, ch s pk = c := ⟨_, rfl⟩
                        have hcsk : ((s[i + k]'(by omega)).toNat : Int) = ck := by rw [← ch_in (s := s) (i := i + k) (by omega), hpk]; exact hck
                        have hcskb : ((s[pk]'hlk).toNat : Int) = ck := by rw [← hck]; exact (ch_in hlk).symm
                        have HS : Hid ((if ck < 128 ∨ 191 < ck then 0 else tailN s i 4 (4 - (k + 1)) (k + 1)) = W) := Lib.hid (by
                          rw [← HK.out, show 4 - k = (4 - (k + 1)) + 1 by omega, tailN, hpk, hck])
                        clear hck
                        by_cases hD : ck < 128
                        · have HE : Hid (W = 0) := Lib.hid (by rw [← HS.out, if_pos (.inl hD)])
                          go_wp2_with fail
                          go_ret
                          rw [HE.out]
                          exact ⟨rfl, rfl⟩
                        · by_cases hE : 191 < ck
                          · have HE : Hid (W = 0) := Lib.hid (by rw [← HS.out, if_pos (.inr hE)])
                            go_wp2_with fail
                            go_ret
                            rw [HE.out]
                            exact ⟨rfl, rfl⟩
                          · have HN : Hid (tailN s i 4 (4 - (k + 1)) (k + 1) = W) := Lib.hid (by rw [← HS.out, if_neg (by omega)])
                            go_wp2_with fail
                            go_round
                            case rel => exact ⟨k + 1, by omega, by omega, by go_num, HN⟩
                            case measure => simp [intOf]; omega
                      · obtain rfl : k = 4 := by omega
                        have HE : Hid (W = 4) := Lib.hid (by rw [← HK.out]; rfl)
                        go_wp2_with fail
                        go_ret
                        rw [HE.out]
                        exact ⟨rfl, rfl⟩
end Go.Proofs.YtlbilofnbhhmjaaGreatDoor
