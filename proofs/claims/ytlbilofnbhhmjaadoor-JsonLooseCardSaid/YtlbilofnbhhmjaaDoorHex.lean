/- The statements' own: how a sign is spelt. -/
import Derived.Test.YtlbilofnbhhmjaaDoorForm
import Derived.Laws.Concat
namespace Go.Proofs.YtlbilofnbhhmjaaDoor
open Go.RowKit
set_option linter.unusedVariables false
set_option linter.unusedSimpArgs false
set_option maxHeartbeats 3200000 in
set_option maxRecDepth 100000 in
theorem utf_any (s : ByteArray) (w : World) (hs : s.size ≤ 1099511627776) : Calls Tryd.prog 22 #[.string s] w fun e w' => e = .returned (.bool (utfFrom s 0)) ∧ w = w' := by
  obtain ⟨U, hU⟩ : ∃ u, utfFrom s 0 = u := ⟨_, rfl⟩
  rw [hU]
  have HU := Lib.hid hU
  clear hU
  go_enter Tryd.func22, Tryd.ntmps22
  go_wp2_with fail
  go_loop [3] (fun v => ∃ i : Nat, i ≤ s.size ∧ v = .int .i64 (i : Int) ∧ Hid (utfFrom s i = U)) (fun v => s.size - (intOf v).toNat)
  case atStart => exact ⟨0, by omega, rfl, HU⟩
  case round =>
    obtain ⟨i, hi, rfl, HI⟩ := hrel
    by_cases hlt : i < s.size
    · have hst := utfFrom_step hlt
      have hw := rune_spec hlt
      obtain ⟨W, hW⟩ : ∃ x, wholeAt s i = x := ⟨_, rfl⟩
      rw [hW] at hst hw
      have hw2 : W = 0 ∨ (0 < W ∧ i + W ≤ s.size) := by
        rcases hw with h | h
        · exact .inl h.1
        · exact .inr ⟨h.1, h.2.2.2.1⟩
      have HW := Lib.hid hW
      have Hst := Lib.hid hst
      have e1 : (i : Int) < (s.size : Int) := by omega
      clear hw hW hst
      by_cases h0 : W = 0
      · subst h0
        go_wp2_with (go_at_call 23; refine (rwhole_any i s w (by omega) (by omega)).mono ?_; rw [HW.out]; rintro e w' ⟨rfl, rfl⟩)
        go_ret
        rw [← HI.out, Hst.out]
        exact ⟨rfl, rfl⟩
      · have hpos : 0 < W := by omega
        have hle : i + W ≤ s.size := by omega
        have e2 : ((W : Int) == 0) = false := by simpa using h0
        have HN : Hid (utfFrom s (i + W) = U) := Lib.hid (by rw [← HI.out, Hst.out, if_neg h0])
        clear hw2 h0
        go_wp2_with (go_at_call 23; refine (rwhole_any i s w (by omega) (by omega)).mono ?_; rw [HW.out]; rintro e w' ⟨rfl, rfl⟩)
        go_round
        case rel => exact ⟨i + W, hle, by go_num, HN⟩
        case measure => simp [intOf]; omega
    · have e1 : ¬ (i : Int) < (s.size : Int) := by omega
      have HF : Hid (U = true) := Lib.hid (by rw [← HI.out]; exact utfFrom_end (by omega))
      go_wp2_with fail
      go_ret
      rw [HF.out]
      exact ⟨rfl, rfl⟩
def lowS : ByteArray := ⟨#[48, 49, 50, 51, 52, 53, 54, 55, 56, 57, 97, 98, 99, 100, 101, 102]⟩
def uppS : ByteArray := ⟨#[48, 49, 50, 51, 52, 53, 54, 55, 56, 57, 65, 66, 67, 68, 69, 70]⟩
def hexS (S : ByteArray) (a b c d : Nat) : ByteArray := S.extract a (a + 1) ++ S.extract b (b + 1) ++ S.extract c (c + 1) ++ S.extract d (d + 1)
def hexT (how : Int) : ByteArray := if how % 2 = 1 then uppS else lowS
set_option maxHeartbeats 3200000 in
set_option maxRecDepth 100000 in
theorem hex_any (V : Int) (a b c d : Nat) (how : Int) (w : World) (hV : ((4096 * a + 256 * b + 16 * c + d : Nat) : Int) = V) (ha : a < 16) (hb : b < 16) (hc : c < 16) (hd : d < 16) (hh : 0 ≤ how) (hh2 : how ≤ 9223372036854775807) :
    Calls Tryd.prog 42 #[.int .i64 V, .int .i64 how] w fun e w' => e = .returned (.string (hexS (hexT how) a b c d)) ∧ ∃ n, w' = w.drewN n := by
  have r1 : V / 4096 = (a : Int) := by omega
  have r2 : V / 256 % 16 = (b : Int) := by omega
  have r3 : V / 16 % 16 = (c : Int) := by omega
  have r4 : V % 16 = (d : Int) := by omega
  have v0 : 0 ≤ V := by omega
  have v1 : V ≤ 65535 := by omega
  unfold hexT hexS
  by_cases h1 : how % 2 = 1
  · rw [if_pos h1]
    go_enter Tryd.func42, Tryd.ntmps42
    go_wp2_with fail
    obtain ⟨S, hS⟩ : ∃ s, uppS = s := ⟨_, rfl⟩
    have hsz : S.size = 16 := by rw [← hS]; rfl
    have e0 : (⟨#[48, 49, 50, 51, 52, 53, 54, 55, 56, 57, 65, 66, 67, 68, 69, 70]⟩ : ByteArray) = S := hS
    rw [e0]
    have t1 : V.tdiv 4096 = (a : Int) := by rw [Int.tdiv_eq_ediv_of_nonneg v0]; exact r1
    have t2 : (V.tdiv 256).tmod 16 = (b : Int) := by rw [Int.tdiv_eq_ediv_of_nonneg v0, Int.tmod_eq_emod_of_nonneg (by omega)]; exact r2
    have t3 : (V.tdiv 16).tmod 16 = (c : Int) := by rw [Int.tdiv_eq_ediv_of_nonneg v0, Int.tmod_eq_emod_of_nonneg (by omega)]; exact r3
    have t4 : V.tmod 16 = (d : Int) := by rw [Int.tmod_eq_emod_of_nonneg v0]; exact r4
    obtain ⟨a1, ha1⟩ : ∃ p, a + 1 = p := ⟨_, rfl⟩
    obtain ⟨b1, hb1⟩ : ∃ p, b + 1 = p := ⟨_, rfl⟩
    obtain ⟨c1, hc1⟩ : ∃ p, c + 1 = p := ⟨_, rfl⟩
    obtain ⟨d1, hd1⟩ : ∃ p, d + 1 = p := ⟨_, rfl⟩
    have q2 : IntKind.i64.wrap (V.tdiv 256) = V.tdiv 256 := IntWalk.i64_in _ (by rw [Int.tdiv_eq_ediv_of_nonneg v0]; omega)
    have q3 : IntKind.i64.wrap (V.tdiv 16) = V.tdiv 16 := IntWalk.i64_in _ (by rw [Int.tdiv_eq_ediv_of_nonneg v0]; omega)
    have u1 : IntKind.i64.wrap (a : Int) = (a : Int) := IntWalk.i64_in _ (by omega)
    have u2 : IntKind.i64.wrap (b : Int) = (b : Int) := IntWalk.i64_in _ (by omega)
    have u3 : IntKind.i64.wrap (c : Int) = (c : Int) := IntWalk.i64_in _ (by omega)
    have u4 : IntKind.i64.wrap (d : Int) = (d : Int) := IntWalk.i64_in _ (by omega)
    have w1 : IntKind.i64.wrap ((a : Int) + 1) = (a1 : Int) := by rw [IntWalk.i64_in _ (by omega)]; omega
    have w2 : IntKind.i64.wrap ((b : Int) + 1) = (b1 : Int) := by rw [IntWalk.i64_in _ (by omega)]; omega
    have w3 : IntKind.i64.wrap ((c : Int) + 1) = (c1 : Int) := by rw [IntWalk.i64_in _ (by omega)]; omega
    have w4 : IntKind.i64.wrap ((d : Int) + 1) = (d1 : Int) := by rw [IntWalk.i64_in _ (by omega)]; omega
    have n1 : a ≤ a1 := by omega
    have n2 : a1 ≤ S.size := by omega
    have n3 : b ≤ b1 := by omega
    have n4 : b1 ≤ S.size := by omega
    have n5 : c ≤ c1 := by omega
    have n6 : c1 ≤ S.size := by omega
    have n7 : d ≤ d1 := by omega
    have n8 : d1 ≤ S.size := by omega
    have sx : ∀ x y, (S.extract x y).size ≤ 16 := fun x y => by rw [ByteArray.size_extract]; omega
    obtain ⟨Xa, hXa⟩ : ∃ x, S.extract a a1 = x := ⟨_, rfl⟩
    obtain ⟨Xb, hXb⟩ : ∃ x, S.extract b b1 = x := ⟨_, rfl⟩
    obtain ⟨Xc, hXc⟩ : ∃ x, S.extract c c1 = x := ⟨_, rfl⟩
    obtain ⟨Xd, hXd⟩ : ∃ x, S.extract d d1 = x := ⟨_, rfl⟩
    have za := sx a a1
    have zb := sx b b1
    have zc := sx c c1
    have zd := sx d d1
    rw [hXa] at za
    rw [hXb] at zb
    rw [hXc] at zc
    rw [hXd] at zd
    have f1 : ∀ W : World, (Op.stringOp .add Xa Xb).run Tryd.prog W = .ok (.string (Xa ++ Xb)) W := fun W => run_string_add_sum W _ _ (by omega)
    have f2 : ∀ W : World, (Op.stringOp .add (Xa ++ Xb) Xc).run Tryd.prog W = .ok (.string (Xa ++ Xb ++ Xc)) W := fun W => run_string_add_sum W _ _ (by rw [ByteArray.size_append]; omega)
    have f3 : ∀ W : World, (Op.stringOp .add (Xa ++ Xb ++ Xc) Xd).run Tryd.prog W = .ok (.string (Xa ++ Xb ++ Xc ++ Xd)) W := fun W => run_string_add_sum W _ _ (by rw [ByteArray.size_append, ByteArray.size_append]; omega)
    have HXX := Lib.hid (And.intro hXa (And.intro hXb (And.intro hXc hXd)))
    clear sx za zb zc zd
    have HS := Lib.hid hS
    have HA := Lib.hid ha1
    have HB := Lib.hid hb1
    have HC := Lib.hid hc1
    have HDd := Lib.hid hd1
    clear hV hsz e0 hS ha1 hb1 hc1 hd1 r1 r2 r3 r4
    go_quiet (fail)
    clear f1 f2 f3
    go_wp2_with fail
    go_ret
    obtain ⟨e1, e2, e3, e4⟩ := HXX.out
    rw [← e1, ← e2, ← e3, ← e4, ← HA.out, ← HB.out, ← HC.out, ← HDd.out, ← HS.out]
    exact ⟨rfl, nq, rfl⟩
  · rw [if_neg h1]
    have h2 : (how % 2 == 1) = false := by simpa using h1
    go_enter Tryd.func42, Tryd.ntmps42
    go_wp2_with fail
    obtain ⟨S, hS⟩ : ∃ s, lowS = s := ⟨_, rfl⟩
    have hsz : S.size = 16 := by rw [← hS]; rfl
    have e0 : (⟨#[48, 49, 50, 51, 52, 53, 54, 55, 56, 57, 97, 98, 99, 100, 101, 102]⟩ : ByteArray) = S := hS
    rw [e0]
    have t1 : V.tdiv 4096 = (a : Int) := by rw [Int.tdiv_eq_ediv_of_nonneg v0]; exact r1
    have t2 : (V.tdiv 256).tmod 16 = (b : Int) := by rw [Int.tdiv_eq_ediv_of_nonneg v0, Int.tmod_eq_emod_of_nonneg (by omega)]; exact r2
    have t3 : (V.tdiv 16).tmod 16 = (c : Int) := by rw [Int.tdiv_eq_ediv_of_nonneg v0, Int.tmod_eq_emod_of_nonneg (by omega)]; exact r3
    have t4 : V.tmod 16 = (d : Int) := by rw [Int.tmod_eq_emod_of_nonneg v0]; exact r4
    obtain ⟨a1, ha1⟩ : ∃ p, a + 1 = p := ⟨_, rfl⟩
    obtain ⟨b1, hb1⟩ : ∃ p, b + 1 = p := ⟨_, rfl⟩
    obtain ⟨c1, hc1⟩ : ∃ p, c + 1 = p := ⟨_, rfl⟩
    obtain ⟨d1, hd1⟩ : ∃ p, d + 1 = p := ⟨_, rfl⟩
    have q2 : IntKind.i64.wrap (V.tdiv 256) = V.tdiv 256 := IntWalk.i64_in _ (by rw [Int.tdiv_eq_ediv_of_nonneg v0]; omega)
    have q3 : IntKind.i64.wrap (V.tdiv 16) = V.tdiv 16 := IntWalk.i64_in _ (by rw [Int.tdiv_eq_ediv_of_nonneg v0]; omega)
    have u1 : IntKind.i64.wrap (a : Int) = (a : Int) := IntWalk.i64_in _ (by omega)
    have u2 : IntKind.i64.wrap (b : Int) = (b : Int) := IntWalk.i64_in _ (by omega)
    have u3 : IntKind.i64.wrap (c : Int) = (c : Int) := IntWalk.i64_in _ (by omega)
    have u4 : IntKind.i64.wrap (d : Int) = (d : Int) := IntWalk.i64_in _ (by omega)
    have w1 : IntKind.i64.wrap ((a : Int) + 1) = (a1 : Int) := by rw [IntWalk.i64_in _ (by omega)]; omega
    have w2 : IntKind.i64.wrap ((b : Int) + 1) = (b1 : Int) := by rw [IntWalk.i64_in _ (by omega)]; omega
    have w3 : IntKind.i64.wrap ((c : Int) + 1) = (c1 : Int) := by rw [IntWalk.i64_in _ (by omega)]; omega
    have w4 : IntKind.i64.wrap ((d : Int) + 1) = (d1 : Int) := by rw [IntWalk.i64_in _ (by omega)]; omega
    have n1 : a ≤ a1 := by omega
    have n2 : a1 ≤ S.size := by omega
    have n3 : b ≤ b1 := by omega
    have n4 : b1 ≤ S.size := by omega
    have n5 : c ≤ c1 := by omega
    have n6 : c1 ≤ S.size := by omega
    have n7 : d ≤ d1 := by omega
    have n8 : d1 ≤ S.size := by omega
    have sx : ∀ x y, (S.extract x y).size ≤ 16 := fun x y => by rw [ByteArray.size_extract]; omega
    obtain ⟨Xa, hXa⟩ : ∃ x, S.extract a a1 = x := ⟨_, rfl⟩
    obtain ⟨Xb, hXb⟩ : ∃ x, S.extract b b1 = x := ⟨_, rfl⟩
    obtain ⟨Xc, hXc⟩ : ∃ x, S.extract c c1 = x := ⟨_, rfl⟩
    obtain ⟨Xd, hXd⟩ : ∃ x, S.extract d d1 = x := ⟨_, rfl⟩
    have za := sx a a1
    have zb := sx b b1
    have zc := sx c c1
    have zd := sx d d1
    rw [hXa] at za
    rw [hXb] at zb
    rw [hXc] at zc
    rw [hXd] at zd
    have f1 : ∀ W : World, (Op.stringOp .add Xa Xb).run Tryd.prog W = .ok (.string (Xa ++ Xb)) W := fun W => run_string_add_sum W _ _ (by omega)
    have f2 : ∀ W : World, (Op.stringOp .add (Xa ++ Xb) Xc).run Tryd.prog W = .ok (.string (Xa ++ Xb ++ Xc)) W := fun W => run_string_add_sum W _ _ (by rw [ByteArray.size_append]; omega)
    have f3 : ∀ W : World, (Op.stringOp .add (Xa ++ Xb ++ Xc) Xd).run Tryd.prog W = .ok (.string (Xa ++ Xb ++ Xc ++ Xd)) W := fun W => run_string_add_sum W _ _ (by rw [ByteArray.size_append, ByteArray.size_append]; omega)
    have HXX := Lib.hid (And.intro hXa (And.intro hXb (And.intro hXc hXd)))
    clear sx za zb zc zd
    have HS := Lib.hid hS
    have HA := Lib.hid ha1
    have HB := Lib.hid hb1
    have HC := Lib.hid hc1
    have HDd := Lib.hid hd1
    clear hV hsz e0 hS ha1 hb1 hc1 hd1 r1 r2 r3 r4
    go_quiet (fail)
    clear f1 f2 f3
    go_wp2_with fail
    go_ret
    obtain ⟨e1, e2, e3, e4⟩ := HXX.out
    rw [← e1, ← e2, ← e3, ← e4, ← HA.out, ← HB.out, ← HC.out, ← HDd.out, ← HS.out]
    exact ⟨rfl, nq, rfl⟩
end Go.Proofs.YtlbilofnbhhmjaaDoor
