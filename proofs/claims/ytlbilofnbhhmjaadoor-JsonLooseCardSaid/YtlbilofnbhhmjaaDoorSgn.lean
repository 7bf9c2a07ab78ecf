/- The statements' own: one sign, spelt as a number says. Printed by sgn.py. -/
import Derived.Test.YtlbilofnbhhmjaaDoorHex
namespace Go.Proofs.YtlbilofnbhhmjaaDoor
open Go.RowKit
set_option linter.unusedVariables false
set_option linter.unusedSimpArgs false
def SignP (r : Int) (L : Nat) (w : World) (e : Ending) (w' : World) : Prop := ∃ m : ByteArray, e = .returned (.string m) ∧ Spl (restAt m 0) r ∧ m.size ≤ 6 * L ∧ 0 < m.size ∧ ∃ n, w' = w.drewN n
theorem drewN2 (w : World) (a b : Nat) : (w.drewN a).drewN b = w.drewN (a + b) := by
  simp [World.drewN, Nat.add_assoc]
theorem restAt_append (x y : ByteArray) : restAt (x ++ y) 0 = restAt x 0 ++ restAt y 0 := by
  apply List.ext_getElem?
  intro k
  have get : ∀ (z : ByteArray) (i : Nat), (restAt z 0)[i]? = if i < z.size then some (ch z i) else none := fun z i => by
    unfold restAt bytesAt
    rw [List.getElem?_map]
    by_cases h : i < z.size
    · rw [List.getElem?_range (by omega), if_pos h]; simp
    · rw [List.getElem?_eq_none (by simp; omega), if_neg h]; rfl
  have hs : (x ++ y).size = x.size + y.size := ByteArray.size_append
  rw [get]
  by_cases h : k < x.size
  · rw [if_pos (by omega), List.getElem?_append_left (by rw [restAt_len]; exact h), get, if_pos h, ch_in (by omega), ch_in h]
    rw [ByteArray.getElem_append_left h]
  · rw [List.getElem?_append_right (by rw [restAt_len]; omega), get, restAt_len]
    by_cases h2 : k < x.size + y.size
    · rw [if_pos (by omega), if_pos (by omega), ch_in (by omega), ch_in (by omega)]
      rw [ByteArray.getElem_append_right (by omega)]
    · rw [if_neg (by omega), if_neg (by omega)]
theorem restAt_one {S : ByteArray} {a : Nat} (h : a < S.size) : restAt (S.extract a (a + 1)) 0 = [ch S a] := by
  have hz : (S.extract a (a + 1)).size = 1 := by rw [ByteArray.size_extract]; omega
  have hc : ch (S.extract a (a + 1)) 0 = ch S a := by rw [ch_extract S (by omega) (by omega)]; rfl
  unfold restAt
  rw [hz, bytesAt_one, hc]
theorem hexT_size (how : Int) : (hexT how).size = 16 := by unfold hexT; split <;> rfl
theorem hexT_v (how : Int) {a : Nat} (h : a < 16) : hexv (ch (hexT how) a) = some (a : Int) := by
  have h1 : ∀ a : Nat, a < 16 → hexv (ch uppS a) = some (a : Int) := by decide
  have h2 : ∀ a : Nat, a < 16 → hexv (ch lowS a) = some (a : Int) := by decide
  unfold hexT
  split
  · exact h1 a h
  · exact h2 a h
theorem hexS_rest (how : Int) {a b c d : Nat} (ha : a < 16) (hb : b < 16) (hc : c < 16) (hd : d < 16) : restAt (hexS (hexT how) a b c d) 0 = [ch (hexT how) a, ch (hexT how) b, ch (hexT how) c, ch (hexT how) d] := by
  have hz := hexT_size how
  unfold hexS
  rw [restAt_append, restAt_append, restAt_append, restAt_one (by omega), restAt_one (by omega), restAt_one (by omega), restAt_one (by omega)]
  rfl
theorem hexS_size (how : Int) {a b c d : Nat} (ha : a < 16) (hb : b < 16) (hc : c < 16) (hd : d < 16) : (hexS (hexT how) a b c d).size = 4 := by
  rw [← restAt_len, hexS_rest how ha hb hc hd]; rfl
def bu : ByteArray := ⟨#[92, 117]⟩
theorem bu_rest : restAt bu 0 = [92, 117] := by decide
/-- The four digits of a number. -/
theorem digits4 (r : Int) (h0 : 0 ≤ r) (h1 : r ≤ 65535) : ∃ a b c d : Nat, a < 16 ∧ b < 16 ∧ c < 16 ∧ d < 16 ∧ ((4096 * a + 256 * b + 16 * c + d : Nat) : Int) = r :=
  ⟨r.toNat / 4096, r.toNat / 256 % 16, r.toNat / 16 % 16, r.toNat % 16, by omega, by omega, by omega, by omega, by omega⟩
theorem spl_hex (how : Int) {a b c d : Nat} {r : Int} (ha : a < 16) (hb : b < 16) (hc : c < 16) (hd : d < 16) (hr : ((4096 * a + 256 * b + 16 * c + d : Nat) : Int) = r) (hp : r < 55296 ∨ 57343 < r) : Spl (restAt (bu ++ hexS (hexT how) a b c d) 0) r := by
  rw [restAt_append, bu_rest, hexS_rest how ha hb hc hd]
  exact spl_u (hexT_v how ha) (hexT_v how hb) (hexT_v how hc) (hexT_v how hd) (by omega) hp
theorem spl_hex2 (how : Int) {a b c d a' b' c' d' : Nat} {r v u : Int} (ha : a < 16) (hb : b < 16) (hc : c < 16) (hd : d < 16) (hv : ((4096 * a + 256 * b + 16 * c + d : Nat) : Int) = v)
    (ha' : a' < 16) (hb' : b' < 16) (hc' : c' < 16) (hd' : d' < 16) (hu : ((4096 * a' + 256 * b' + 16 * c' + d' : Nat) : Int) = u) (h1 : v = 55296 + (r - 65536) / 1024) (h2 : u = 56320 + (r - 65536) % 1024) (hr : 65536 ≤ r) (hr2 : r ≤ 1114111) :
    Spl (restAt (bu ++ hexS (hexT how) a b c d ++ bu ++ hexS (hexT how) a' b' c' d') 0) r := by
  rw [restAt_append, restAt_append, restAt_append, bu_rest, hexS_rest how ha hb hc hd, hexS_rest how ha' hb' hc' hd']
  exact spl_uu (v := v) (u := u) (hexT_v how ha) (hexT_v how hb) (hexT_v how hc) (hexT_v how hd) (by omega) (hexT_v how ha') (hexT_v how hb') (hexT_v how hc') (hexT_v how hd') (by omega) (by omega) (by omega) (by omega) (by omega) (by omega)
theorem spl_self {r : Int} {t : ByteArray} (hr : RuneV r) (ht : restAt t 0 = Lib.encodeRuneZ r) (h32 : 32 ≤ r) (h34 : r ≠ 34) (h92 : r ≠ 92) : Spl (restAt t 0) r := by
  rw [ht]; exact spl_raw hr h32 h34 h92
theorem ne_toList {t : ByteArray} {x : UInt8} (h : ∀ (hz : t.size = 1), ((t[0]'(by omega)).toNat : Int) ≠ (x.toNat : Int)) : ¬ t.toList = [x] := by
  intro e
  have e2 : t.data.toList = [x] := by rw [← ByteArray.toList_eq]; exact e
  have hz : t.size = 1 := by have := congrArg List.length e2; simpa using this
  refine h hz ?_
  have : t[0]'(by omega) = x := by
    have := congrArg (·[0]?) e2
    simp only [Array.getElem?_toList] at this
    rw [Array.getElem?_eq_getElem (show 0 < t.data.size from by show 0 < t.size; omega)] at this
    exact Option.some.inj this
  rw [this]
set_option maxHeartbeats 3200000 in
set_option maxRecDepth 100000 in
theorem sign2_any (t : ByteArray) (r how : Int) (w : World) (hR : RuneV r) (hr : 128 ≤ r) (hr2 : r ≤ 2047) (hE : restAt t 0 = Lib.encodeRuneZ r) (hsz : t.size = 2) (h0 : ch t 0 = 192 + r / 64) (h1 : ch t 1 = 128 + r % 64) (hh : 0 ≤ how) (hh2 : how ≤ 9223372036854775807) :
    Calls Tryd.prog 24 #[.string t, .int .i64 how] w (SignP r 2 w) := by
  have hi0 : 0 < t.size := by omega
  have hi1 : 1 < t.size := by omega
  have c0 : ((t[0]'hi0).toNat : Int) = 192 + r / 64 := by rw [← ch_in hi0]; exact h0
  have c1 : ((t[1]'hi1).toNat : Int) = 128 + r % 64 := by rw [← ch_in hi1]; exact h1
  have hz : (t.size : Int) = 2 := by omega
  have n47 : ¬ t.toList = [47] := ne_toList (fun hz1 => by omega)
  have n34 : ¬ t.toList = [34] := ne_toList (fun hz1 => by omega)
  have n92 : ¬ t.toList = [92] := ne_toList (fun hz1 => by omega)
  have b47 : (t.toList == [47]) = false := beq_eq_false_iff_ne.2 n47
  have b34 : (t.toList == [34]) = false := beq_eq_false_iff_ne.2 n34
  have b92 : (t.toList == [92]) = false := beq_eq_false_iff_ne.2 n92
  have HE := Lib.hid (And.intro hR hE)
  have HS := Lib.hid hsz
  by_cases m2 : how % 3 = 2
  · have e1 : (how % 3 == 1) = false := by simp [m2]
    have e2 : (how % 3 != 2) = false := by simp [m2]
    have HP : Hid (r < 55296 ∨ 57343 < r) := Lib.hid (by have := hR.2.2; omega)
    obtain ⟨a, b, c, d, ha, hb, hc, hd, hV⟩ := digits4 r (by omega) (by omega)
    obtain ⟨X, hX⟩ : ∃ x, hexS (hexT how) a b c d = x := ⟨_, rfl⟩
    have hXs : X.size = 4 := by rw [← hX]; exact hexS_size how ha hb hc hd
    have f1 : ∀ W : World, (Op.stringOp .add (⟨#[92, 117]⟩ : ByteArray) X).run Tryd.prog W = .ok (.string (bu ++ X)) W := fun W => run_string_add_sum W _ _ (by rw [hXs]; show 2 + 4 ≤ _; omega)
    have HV := Lib.hid hV
    have HX := Lib.hid hX
    have HXs := Lib.hid hXs
    clear hV hX hXs
    clear m2
    go_enter Tryd.func24, Tryd.ntmps24
    go_wp2_with fail
    go_quiet (fail)
    have ev : (192 + r / 64) % 32 * 64 + (128 + r) % 64 = r := by omega
    rw [ev]
    clear ev
    go_wp2_with fail
    refine (hex_any r a b c d how _ HV.out ha hb hc hd hh hh2).mono ?_
    rintro e w5 ⟨rfl, n5, rfl⟩
    rw [HX.out]
    go_wp2_with fail
    go_ret
    refine ⟨bu ++ X, rfl, ?_, by rw [ByteArray.size_append]; have := HXs.out; show 2 + _ ≤ 6 * _; omega, by rw [ByteArray.size_append]; show 0 < 2 + _; omega, _, rfl⟩
    rw [← HX.out]
    exact spl_hex how ha hb hc hd HV.out HP.out
  · have e2 : (how % 3 != 2) = true := by simpa using m2
    clear m2
    go_enter Tryd.func24, Tryd.ntmps24
    go_wp2_with fail
    go_quiet (fail)
    have ev : (192 + r / 64) % 32 * 64 + (128 + r) % 64 = r := by omega
    rw [ev]
    clear ev
    go_wp2_with fail
    go_ret
    exact ⟨t, rfl, spl_self HE.out.1 HE.out.2 (by omega) (by omega) (by omega), by have := HS.out; omega, by have := HS.out; omega, nq, rfl⟩
set_option maxHeartbeats 3200000 in
set_option maxRecDepth 100000 in
theorem sign3_any (t : ByteArray) (r how : Int) (w : World) (hR : RuneV r) (hr : 2048 ≤ r) (hr2 : r ≤ 65535) (hE : restAt t 0 = Lib.encodeRuneZ r) (hsz : t.size = 3) (h0 : ch t 0 = 224 + r / 4096) (h1 : ch t 1 = 128 + r / 64 % 64) (h2 : ch t 2 = 128 + r % 64) (hh : 0 ≤ how) (hh2 : how ≤ 9223372036854775807) :
    Calls Tryd.prog 24 #[.string t, .int .i64 how] w (SignP r 3 w) := by
  have hi0 : 0 < t.size := by omega
  have hi1 : 1 < t.size := by omega
  have hi2 : 2 < t.size := by omega
  have c0 : ((t[0]'hi0).toNat : Int) = 224 + r / 4096 := by rw [← ch_in hi0]; exact h0
  have c1 : ((t[1]'hi1).toNat : Int) = 128 + r / 64 % 64 := by rw [← ch_in hi1]; exact h1
  have c2 : ((t[2]'hi2).toNat : Int) = 128 + r % 64 := by rw [← ch_in hi2]; exact h2
  have hz : (t.size : Int) = 3 := by omega
  have n47 : ¬ t.toList = [47] := ne_toList (fun hz1 => by omega)
  have n34 : ¬ t.toList = [34] := ne_toList (fun hz1 => by omega)
  have n92 : ¬ t.toList = [92] := ne_toList (fun hz1 => by omega)
  have b47 : (t.toList == [47]) = false := beq_eq_false_iff_ne.2 n47
  have b34 : (t.toList == [34]) = false := beq_eq_false_iff_ne.2 n34
  have b92 : (t.toList == [92]) = false := beq_eq_false_iff_ne.2 n92
  have HE := Lib.hid (And.intro hR hE)
  have HS := Lib.hid hsz
  by_cases m2 : how % 3 = 2
  · have e1 : (how % 3 == 1) = false := by simp [m2]
    have e2 : (how % 3 != 2) = false := by simp [m2]
    have HP : Hid (r < 55296 ∨ 57343 < r) := Lib.hid (by have := hR.2.2; omega)
    obtain ⟨a, b, c, d, ha, hb, hc, hd, hV⟩ := digits4 r (by omega) (by omega)
    obtain ⟨X, hX⟩ : ∃ x, hexS (hexT how) a b c d = x := ⟨_, rfl⟩
    have hXs : X.size = 4 := by rw [← hX]; exact hexS_size how ha hb hc hd
    have f1 : ∀ W : World, (Op.stringOp .add (⟨#[92, 117]⟩ : ByteArray) X).run Tryd.prog W = .ok (.string (bu ++ X)) W := fun W => run_string_add_sum W _ _ (by rw [hXs]; show 2 + 4 ≤ _; omega)
    have HV := Lib.hid hV
    have HX := Lib.hid hX
    have HXs := Lib.hid hXs
    clear hV hX hXs
    clear m2
    go_enter Tryd.func24, Tryd.ntmps24
    go_wp2_with fail
    go_quiet (fail)
    have ev : (224 + r / 4096) % 16 * 4096 + (128 + r / 64) % 64 * 64 + (128 + r) % 64 = r := by omega
    rw [ev]
    clear ev
    go_wp2_with fail
    refine (hex_any r a b c d how _ HV.out ha hb hc hd hh hh2).mono ?_
    rintro e w5 ⟨rfl, n5, rfl⟩
    rw [HX.out]
    go_wp2_with fail
    go_ret
    refine ⟨bu ++ X, rfl, ?_, by rw [ByteArray.size_append]; have := HXs.out; show 2 + _ ≤ 6 * _; omega, by rw [ByteArray.size_append]; show 0 < 2 + _; omega, _, rfl⟩
    rw [← HX.out]
    exact spl_hex how ha hb hc hd HV.out HP.out
  · have e2 : (how % 3 != 2) = true := by simpa using m2
    clear m2
    go_enter Tryd.func24, Tryd.ntmps24
    go_wp2_with fail
    go_quiet (fail)
    have ev : (224 + r / 4096) % 16 * 4096 + (128 + r / 64) % 64 * 64 + (128 + r) % 64 = r := by omega
    rw [ev]
    clear ev
    go_wp2_with fail
    go_ret
    exact ⟨t, rfl, spl_self HE.out.1 HE.out.2 (by omega) (by omega) (by omega), by have := HS.out; omega, by have := HS.out; omega, nq, rfl⟩
set_option maxHeartbeats 3200000 in
set_option maxRecDepth 100000 in
theorem sign4_any (t : ByteArray) (r how : Int) (w : World) (hR : RuneV r) (hr : 65536 ≤ r) (hr2 : r ≤ 1114111) (hE : restAt t 0 = Lib.encodeRuneZ r) (hsz : t.size = 4) (h0 : ch t 0 = 240 + r / 262144) (h1 : ch t 1 = 128 + r / 4096 % 64) (h2 : ch t 2 = 128 + r / 64 % 64) (h3 : ch t 3 = 128 + r % 64) (hh : 0 ≤ how) (hh2 : how ≤ 9223372036854775807) :
    Calls Tryd.prog 24 #[.string t, .int .i64 how] w (SignP r 4 w) := by
  have hi0 : 0 < t.size := by omega
  have hi1 : 1 < t.size := by omega
  have hi2 : 2 < t.size := by omega
  have hi3 : 3 < t.size := by omega
  have c0 : ((t[0]'hi0).toNat : Int) = 240 + r / 262144 := by rw [← ch_in hi0]; exact h0
  have c1 : ((t[1]'hi1).toNat : Int) = 128 + r / 4096 % 64 := by rw [← ch_in hi1]; exact h1
  have c2 : ((t[2]'hi2).toNat : Int) = 128 + r / 64 % 64 := by rw [← ch_in hi2]; exact h2
  have c3 : ((t[3]'hi3).toNat : Int) = 128 + r % 64 := by rw [← ch_in hi3]; exact h3
  have hz : (t.size : Int) = 4 := by omega
  have n47 : ¬ t.toList = [47] := ne_toList (fun hz1 => by omega)
  have n34 : ¬ t.toList = [34] := ne_toList (fun hz1 => by omega)
  have n92 : ¬ t.toList = [92] := ne_toList (fun hz1 => by omega)
  have b47 : (t.toList == [47]) = false := beq_eq_false_iff_ne.2 n47
  have b34 : (t.toList == [34]) = false := beq_eq_false_iff_ne.2 n34
  have b92 : (t.toList == [92]) = false := beq_eq_false_iff_ne.2 n92
  have HE := Lib.hid (And.intro hR hE)
  have HS := Lib.hid hsz
  by_cases m2 : how % 3 = 2
  · have e1 : (how % 3 == 1) = false := by simp [m2]
    have e2 : (how % 3 != 2) = false := by simp [m2]
    obtain ⟨a, b, c, d, ha, hb, hc, hd, hV⟩ := digits4 (55296 + (r - 65536) / 1024) (by omega) (by omega)
    obtain ⟨a', b', c', d', ha', hb', hc', hd', hU⟩ := digits4 (56320 + (r - 65536) % 1024) (by omega) (by omega)
    obtain ⟨X, hX⟩ : ∃ x, hexS (hexT how) a b c d = x := ⟨_, rfl⟩
    obtain ⟨Y, hY⟩ : ∃ x, hexS (hexT how) a' b' c' d' = x := ⟨_, rfl⟩
    have hXs : X.size = 4 := by rw [← hX]; exact hexS_size how ha hb hc hd
    have hYs : Y.size = 4 := by rw [← hY]; exact hexS_size how ha' hb' hc' hd'
    have bs : bu.size = 2 := rfl
    have f1 : ∀ W : World, (Op.stringOp .add (⟨#[92, 117]⟩ : ByteArray) X).run Tryd.prog W = .ok (.string (bu ++ X)) W := fun W => run_string_add_sum W _ _ (by rw [hXs]; show 2 + 4 ≤ _; omega)
    have f2 : ∀ W : World, (Op.stringOp .add (bu ++ X) (⟨#[92, 117]⟩ : ByteArray)).run Tryd.prog W = .ok (.string (bu ++ X ++ bu)) W := fun W => run_string_add_sum W _ _ (by rw [ByteArray.size_append, hXs, bs]; show 2 + 4 + 2 ≤ _; omega)
    have f3 : ∀ W : World, (Op.stringOp .add (bu ++ X ++ bu) Y).run Tryd.prog W = .ok (.string (bu ++ X ++ bu ++ Y)) W := fun W => run_string_add_sum W _ _ (by rw [ByteArray.size_append, ByteArray.size_append, hXs, hYs, bs]; omega)
    have HZ : Hid ((bu ++ X ++ bu ++ Y).size = 12) := Lib.hid (by rw [ByteArray.size_append, ByteArray.size_append, ByteArray.size_append, hXs, hYs, bs])
    have hnr : ¬ r < 65536 := by omega
    have HV := Lib.hid hV
    have HU := Lib.hid hU
    have HX := Lib.hid hX
    have HY := Lib.hid hY
    clear hV hX hXs hU hY hYs bs
    clear m2
    go_enter Tryd.func24, Tryd.ntmps24
    go_wp2_with fail
    go_quiet (fail)
    have ev : (240 + r / 262144) % 8 * 262144 + (128 + r / 4096) % 64 * 4096 + (128 + r / 64) % 64 * 64 + (128 + r) % 64 = r := by omega
    rw [ev]
    clear ev
    go_wp2_with fail
    refine (hex_any _ a b c d how _ HV.out ha hb hc hd hh hh2).mono ?_
    rintro e w5 ⟨rfl, n5, rfl⟩
    rw [HX.out]
    go_wp2_with fail
    refine (hex_any _ a' b' c' d' how _ HU.out ha' hb' hc' hd' hh hh2).mono ?_
    rintro e w6 ⟨rfl, n6, rfl⟩
    rw [HY.out]
    go_wp2_with fail
    go_ret
    refine ⟨bu ++ X ++ bu ++ Y, rfl, ?_, by have := HZ.out; omega, by have := HZ.out; omega, _, rfl⟩
    rw [← HX.out, ← HY.out]
    exact spl_hex2 how ha hb hc hd HV.out ha' hb' hc' hd' HU.out rfl rfl hr hr2
  · have e2 : (how % 3 != 2) = true := by simpa using m2
    clear m2
    go_enter Tryd.func24, Tryd.ntmps24
    go_wp2_with fail
    go_quiet (fail)
    have ev : (240 + r / 262144) % 8 * 262144 + (128 + r / 4096) % 64 * 4096 + (128 + r / 64) % 64 * 64 + (128 + r) % 64 = r := by omega
    rw [ev]
    clear ev
    go_wp2_with fail
    go_ret
    exact ⟨t, rfl, spl_self HE.out.1 HE.out.2 (by omega) (by omega) (by omega), by have := HS.out; omega, by have := HS.out; omega, nq, rfl⟩
theorem eq_toList {t : ByteArray} {x : UInt8} (hz : t.size = 1) (h : ((t[0]'(by omega)).toNat : Int) = (x.toNat : Int)) : t.toList = [x] := by
  rw [ByteArray.toList_eq]
  apply List.ext_getElem
  · show t.data.toList.length = 1; rw [Array.length_toList]; exact hz
  · intro i h1 h2
    simp only [List.length_singleton] at h2
    obtain rfl : i = 0 := by omega
    have e : t[0]'(by omega) = x := UInt8.toNat_inj.1 (by omega)
    rw [Array.getElem_toList]
    exact e
set_option maxHeartbeats 3200000 in
set_option maxRecDepth 100000 in
theorem sign1_low (t : ByteArray) (r how : Int) (w : World) (hR : RuneV r) (hr : 0 ≤ r) (hr2 : r ≤ 31) (hE : restAt t 0 = Lib.encodeRuneZ r) (hsz : t.size = 1) (h0 : ch t 0 = r) (hh : 0 ≤ how) (hh2 : how ≤ 9223372036854775807) :
    Calls Tryd.prog 24 #[.string t, .int .i64 how] w (SignP r 1 w) := by
  have hi0 : 0 < t.size := by omega
  have c0 : ((t[0]'hi0).toNat : Int) = r := by rw [← ch_in hi0]; exact h0
  have hz : (t.size : Int) = 1 := by omega
  have n47 : ¬ t.toList = [47] := ne_toList (fun hz1 => by show _ ≠ (47 : Int); omega)
  have b47 : (t.toList == [47]) = false := beq_eq_false_iff_ne.2 n47
  have n34 : ¬ t.toList = [34] := ne_toList (fun hz1 => by show _ ≠ (34 : Int); omega)
  have b34 : (t.toList == [34]) = false := beq_eq_false_iff_ne.2 n34
  have n92 : ¬ t.toList = [92] := ne_toList (fun hz1 => by show _ ≠ (92 : Int); omega)
  have b92 : (t.toList == [92]) = false := beq_eq_false_iff_ne.2 n92
  have hlo : ¬ 32 ≤ r := by omega
  obtain ⟨a, b, c, d, ha, hb, hc, hd, hV⟩ := digits4 r (by omega) (by omega)
  obtain ⟨X, hX⟩ : ∃ x, hexS (hexT how) a b c d = x := ⟨_, rfl⟩
  have hXs : X.size = 4 := by rw [← hX]; exact hexS_size how ha hb hc hd
  have f1 : ∀ W : World, (Op.stringOp .add (⟨#[92, 117]⟩ : ByteArray) X).run Tryd.prog W = .ok (.string (bu ++ X)) W := fun W => run_string_add_sum W _ _ (by rw [hXs]; show 2 + 4 ≤ _; omega)
  have HV := Lib.hid hV
  have HX := Lib.hid hX
  have HXs := Lib.hid hXs
  clear hV hX hXs
  have HP : Hid (r < 55296 ∨ 57343 < r) := Lib.hid (by omega)
  go_enter Tryd.func24, Tryd.ntmps24
  go_wp2_with fail
  refine (hex_any r a b c d how _ HV.out ha hb hc hd hh hh2).mono ?_
  rintro e w5 ⟨rfl, n5, rfl⟩
  rw [HX.out]
  go_wp2_with fail
  go_ret
  refine ⟨bu ++ X, rfl, ?_, by rw [ByteArray.size_append]; have := HXs.out; show 2 + _ ≤ 6 * _; omega, by rw [ByteArray.size_append]; show 0 < 2 + _; omega, _, rfl⟩
  rw [← HX.out]
  exact spl_hex how ha hb hc hd HV.out HP.out
set_option maxHeartbeats 3200000 in
set_option maxRecDepth 100000 in
theorem sign1_34 (t : ByteArray) (r how : Int) (w : World) (hR : RuneV r) (hr : 34 ≤ r) (hr2 : r ≤ 34) (hE : restAt t 0 = Lib.encodeRuneZ r) (hsz : t.size = 1) (h0 : ch t 0 = r) (hh : 0 ≤ how) (hh2 : how ≤ 9223372036854775807) :
    Calls Tryd.prog 24 #[.string t, .int .i64 how] w (SignP r 1 w) := by
  have hi0 : 0 < t.size := by omega
  have c0 : ((t[0]'hi0).toNat : Int) = r := by rw [← ch_in hi0]; exact h0
  have hz : (t.size : Int) = 1 := by omega
  have n47 : ¬ t.toList = [47] := ne_toList (fun hz1 => by show _ ≠ (47 : Int); omega)
  have b47 : (t.toList == [47]) = false := beq_eq_false_iff_ne.2 n47
  have n34 : t.toList = [34] := eq_toList hsz (by show _ = (34 : Int); omega)
  have b34 : (t.toList == [34]) = true := beq_iff_eq.2 n34
  have n92 : ¬ t.toList = [92] := ne_toList (fun hz1 => by show _ ≠ (92 : Int); omega)
  have b92 : (t.toList == [92]) = false := beq_eq_false_iff_ne.2 n92
  obtain ⟨a, b, c, d, ha, hb, hc, hd, hV⟩ := digits4 r (by omega) (by omega)
  obtain ⟨X, hX⟩ : ∃ x, hexS (hexT how) a b c d = x := ⟨_, rfl⟩
  have hXs : X.size = 4 := by rw [← hX]; exact hexS_size how ha hb hc hd
  have f1 : ∀ W : World, (Op.stringOp .add (⟨#[92, 117]⟩ : ByteArray) X).run Tryd.prog W = .ok (.string (bu ++ X)) W := fun W => run_string_add_sum W _ _ (by rw [hXs]; show 2 + 4 ≤ _; omega)
  have HV := Lib.hid hV
  have HX := Lib.hid hX
  have HXs := Lib.hid hXs
  clear hV hX hXs
  have HP : Hid (r < 55296 ∨ 57343 < r) := Lib.hid (by omega)
  go_enter Tryd.func24, Tryd.ntmps24
  go_wp2_with fail
  refine (hex_any r a b c d how _ HV.out ha hb hc hd hh hh2).mono ?_
  rintro e w5 ⟨rfl, n5, rfl⟩
  rw [HX.out]
  go_wp2_with fail
  go_ret
  refine ⟨bu ++ X, rfl, ?_, by rw [ByteArray.size_append]; have := HXs.out; show 2 + _ ≤ 6 * _; omega, by rw [ByteArray.size_append]; show 0 < 2 + _; omega, _, rfl⟩
  rw [← HX.out]
  exact spl_hex how ha hb hc hd HV.out HP.out
set_option maxHeartbeats 3200000 in
set_option maxRecDepth 100000 in
theorem sign1_92 (t : ByteArray) (r how : Int) (w : World) (hR : RuneV r) (hr : 92 ≤ r) (hr2 : r ≤ 92) (hE : restAt t 0 = Lib.encodeRuneZ r) (hsz : t.size = 1) (h0 : ch t 0 = r) (hh : 0 ≤ how) (hh2 : how ≤ 9223372036854775807) :
    Calls Tryd.prog 24 #[.string t, .int .i64 how] w (SignP r 1 w) := by
  have hi0 : 0 < t.size := by omega
  have c0 : ((t[0]'hi0).toNat : Int) = r := by rw [← ch_in hi0]; exact h0
  have hz : (t.size : Int) = 1 := by omega
  have n47 : ¬ t.toList = [47] := ne_toList (fun hz1 => by show _ ≠ (47 : Int); omega)
  have b47 : (t.toList == [47]) = false := beq_eq_false_iff_ne.2 n47
  have n34 : ¬ t.toList = [34] := ne_toList (fun hz1 => by show _ ≠ (34 : Int); omega)
  have b34 : (t.toList == [34]) = false := beq_eq_false_iff_ne.2 n34
  have n92 : t.toList = [92] := eq_toList hsz (by show _ = (92 : Int); omega)
  have b92 : (t.toList == [92]) = true := beq_iff_eq.2 n92
  obtain ⟨a, b, c, d, ha, hb, hc, hd, hV⟩ := digits4 r (by omega) (by omega)
  obtain ⟨X, hX⟩ : ∃ x, hexS (hexT how) a b c d = x := ⟨_, rfl⟩
  have hXs : X.size = 4 := by rw [← hX]; exact hexS_size how ha hb hc hd
  have f1 : ∀ W : World, (Op.stringOp .add (⟨#[92, 117]⟩ : ByteArray) X).run Tryd.prog W = .ok (.string (bu ++ X)) W := fun W => run_string_add_sum W _ _ (by rw [hXs]; show 2 + 4 ≤ _; omega)
  have HV := Lib.hid hV
  have HX := Lib.hid hX
  have HXs := Lib.hid hXs
  clear hV hX hXs
  have HP : Hid (r < 55296 ∨ 57343 < r) := Lib.hid (by omega)
  go_enter Tryd.func24, Tryd.ntmps24
  go_wp2_with fail
  refine (hex_any r a b c d how _ HV.out ha hb hc hd hh hh2).mono ?_
  rintro e w5 ⟨rfl, n5, rfl⟩
  rw [HX.out]
  go_wp2_with fail
  go_ret
  refine ⟨bu ++ X, rfl, ?_, by rw [ByteArray.size_append]; have := HXs.out; show 2 + _ ≤ 6 * _; omega, by rw [ByteArray.size_append]; show 0 < 2 + _; omega, _, rfl⟩
  rw [← HX.out]
  exact spl_hex how ha hb hc hd HV.out HP.out
set_option maxHeartbeats 3200000 in
set_option maxRecDepth 100000 in
theorem sign1_slash2 (t : ByteArray) (r how : Int) (w : World) (hR : RuneV r) (hr : 47 ≤ r) (hr2 : r ≤ 47) (hE : restAt t 0 = Lib.encodeRuneZ r) (hsz : t.size = 1) (h0 : ch t 0 = r) (m2 : how % 3 = 2) (hh : 0 ≤ how) (hh2 : how ≤ 9223372036854775807) :
    Calls Tryd.prog 24 #[.string t, .int .i64 how] w (SignP r 1 w) := by
  have hi0 : 0 < t.size := by omega
  have c0 : ((t[0]'hi0).toNat : Int) = r := by rw [← ch_in hi0]; exact h0
  have hz : (t.size : Int) = 1 := by omega
  have n47 : t.toList = [47] := eq_toList hsz (by show _ = (47 : Int); omega)
  have b47 : (t.toList == [47]) = true := beq_iff_eq.2 n47
  have n34 : ¬ t.toList = [34] := ne_toList (fun hz1 => by show _ ≠ (34 : Int); omega)
  have b34 : (t.toList == [34]) = false := beq_eq_false_iff_ne.2 n34
  have n92 : ¬ t.toList = [92] := ne_toList (fun hz1 => by show _ ≠ (92 : Int); omega)
  have b92 : (t.toList == [92]) = false := beq_eq_false_iff_ne.2 n92
  have e1 : (how % 3 == 1) = false := by simp [m2]
  have e2 : (how % 3 != 2) = false := by simp [m2]
  clear m2
  obtain ⟨a, b, c, d, ha, hb, hc, hd, hV⟩ := digits4 r (by omega) (by omega)
  obtain ⟨X, hX⟩ : ∃ x, hexS (hexT how) a b c d = x := ⟨_, rfl⟩
  have hXs : X.size = 4 := by rw [← hX]; exact hexS_size how ha hb hc hd
  have f1 : ∀ W : World, (Op.stringOp .add (⟨#[92, 117]⟩ : ByteArray) X).run Tryd.prog W = .ok (.string (bu ++ X)) W := fun W => run_string_add_sum W _ _ (by rw [hXs]; show 2 + 4 ≤ _; omega)
  have HV := Lib.hid hV
  have HX := Lib.hid hX
  have HXs := Lib.hid hXs
  clear hV hX hXs
  have HP : Hid (r < 55296 ∨ 57343 < r) := Lib.hid (by omega)
  go_enter Tryd.func24, Tryd.ntmps24
  go_wp2_with fail
  refine (hex_any r a b c d how _ HV.out ha hb hc hd hh hh2).mono ?_
  rintro e w5 ⟨rfl, n5, rfl⟩
  rw [HX.out]
  go_wp2_with fail
  go_ret
  refine ⟨bu ++ X, rfl, ?_, by rw [ByteArray.size_append]; have := HXs.out; show 2 + _ ≤ 6 * _; omega, by rw [ByteArray.size_append]; show 0 < 2 + _; omega, _, rfl⟩
  rw [← HX.out]
  exact spl_hex how ha hb hc hd HV.out HP.out
set_option maxHeartbeats 3200000 in
set_option maxRecDepth 100000 in
theorem sign1_slash1 (t : ByteArray) (r how : Int) (w : World) (hR : RuneV r) (hr : 47 ≤ r) (hr2 : r ≤ 47) (hE : restAt t 0 = Lib.encodeRuneZ r) (hsz : t.size = 1) (h0 : ch t 0 = r) (m1 : how % 3 = 1) (hh : 0 ≤ how) (hh2 : how ≤ 9223372036854775807) :
    Calls Tryd.prog 24 #[.string t, .int .i64 how] w (SignP r 1 w) := by
  have hi0 : 0 < t.size := by omega
  have c0 : ((t[0]'hi0).toNat : Int) = r := by rw [← ch_in hi0]; exact h0
  have hz : (t.size : Int) = 1 := by omega
  have n47 : t.toList = [47] := eq_toList hsz (by show _ = (47 : Int); omega)
  have b47 : (t.toList == [47]) = true := beq_iff_eq.2 n47
  have n34 : ¬ t.toList = [34] := ne_toList (fun hz1 => by show _ ≠ (34 : Int); omega)
  have b34 : (t.toList == [34]) = false := beq_eq_false_iff_ne.2 n34
  have n92 : ¬ t.toList = [92] := ne_toList (fun hz1 => by show _ ≠ (92 : Int); omega)
  have b92 : (t.toList == [92]) = false := beq_eq_false_iff_ne.2 n92
  have e1 : (how % 3 == 1) = true := by simp [m1]
  have hr47 : r = 47 := by omega
  have HR := Lib.hid hr47
  clear m1 hr47
  go_enter Tryd.func24, Tryd.ntmps24
  go_wp2_with fail
  go_ret
  refine ⟨⟨#[92, 47]⟩, rfl, ?_, by decide, by decide, 0, rfl⟩
  rw [HR.out, show restAt (⟨#[92, 47]⟩ : ByteArray) 0 = [92, 47] by decide]
  exact spl_two fun s i h => by unfold escape; rw [h]; rfl
set_option maxHeartbeats 3200000 in
set_option maxRecDepth 100000 in
theorem sign1_slash0 (t : ByteArray) (r how : Int) (w : World) (hR : RuneV r) (hr : 47 ≤ r) (hr2 : r ≤ 47) (hE : restAt t 0 = Lib.encodeRuneZ r) (hsz : t.size = 1) (h0 : ch t 0 = r) (m0 : how % 3 = 0) (hh : 0 ≤ how) (hh2 : how ≤ 9223372036854775807) :
    Calls Tryd.prog 24 #[.string t, .int .i64 how] w (SignP r 1 w) := by
  have hi0 : 0 < t.size := by omega
  have c0 : ((t[0]'hi0).toNat : Int) = r := by rw [← ch_in hi0]; exact h0
  have hz : (t.size : Int) = 1 := by omega
  have n47 : t.toList = [47] := eq_toList hsz (by show _ = (47 : Int); omega)
  have b47 : (t.toList == [47]) = true := beq_iff_eq.2 n47
  have n34 : ¬ t.toList = [34] := ne_toList (fun hz1 => by show _ ≠ (34 : Int); omega)
  have b34 : (t.toList == [34]) = false := beq_eq_false_iff_ne.2 n34
  have n92 : ¬ t.toList = [92] := ne_toList (fun hz1 => by show _ ≠ (92 : Int); omega)
  have b92 : (t.toList == [92]) = false := beq_eq_false_iff_ne.2 n92
  have e1 : (how % 3 == 1) = false := by simp [m0]
  have e2 : (how % 3 != 2) = true := by simp [m0]
  have HE := Lib.hid (And.intro hR hE)
  have HS := Lib.hid hsz
  clear m0 hR hE hsz
  go_enter Tryd.func24, Tryd.ntmps24
  go_wp2_with fail
  go_ret
  exact ⟨t, rfl, spl_self HE.out.1 HE.out.2 (by omega) (by omega) (by omega), by have := HS.out; omega, by have := HS.out; omega, 0, rfl⟩
set_option maxHeartbeats 3200000 in
set_option maxRecDepth 100000 in
theorem sign1_hex (t : ByteArray) (r how : Int) (w : World) (hR : RuneV r) (hr : 32 ≤ r) (hr2 : r ≤ 127) (hE : restAt t 0 = Lib.encodeRuneZ r) (hsz : t.size = 1) (h0 : ch t 0 = r) (x47 : r ≠ 47) (x34 : r ≠ 34) (x92 : r ≠ 92) (m2 : how % 3 = 2) (hh : 0 ≤ how) (hh2 : how ≤ 9223372036854775807) :
    Calls Tryd.prog 24 #[.string t, .int .i64 how] w (SignP r 1 w) := by
  have hi0 : 0 < t.size := by omega
  have c0 : ((t[0]'hi0).toNat : Int) = r := by rw [← ch_in hi0]; exact h0
  have hz : (t.size : Int) = 1 := by omega
  have n47 : ¬ t.toList = [47] := ne_toList (fun hz1 => by show _ ≠ (47 : Int); omega)
  have b47 : (t.toList == [47]) = false := beq_eq_false_iff_ne.2 n47
  have n34 : ¬ t.toList = [34] := ne_toList (fun hz1 => by show _ ≠ (34 : Int); omega)
  have b34 : (t.toList == [34]) = false := beq_eq_false_iff_ne.2 n34
  have n92 : ¬ t.toList = [92] := ne_toList (fun hz1 => by show _ ≠ (92 : Int); omega)
  have b92 : (t.toList == [92]) = false := beq_eq_false_iff_ne.2 n92
  have e1 : (how % 3 == 1) = false := by simp [m2]
  have e2 : (how % 3 != 2) = false := by simp [m2]
  clear m2
  obtain ⟨a, b, c, d, ha, hb, hc, hd, hV⟩ := digits4 r (by omega) (by omega)
  obtain ⟨X, hX⟩ : ∃ x, hexS (hexT how) a b c d = x := ⟨_, rfl⟩
  have hXs : X.size = 4 := by rw [← hX]; exact hexS_size how ha hb hc hd
  have f1 : ∀ W : World, (Op.stringOp .add (⟨#[92, 117]⟩ : ByteArray) X).run Tryd.prog W = .ok (.string (bu ++ X)) W := fun W => run_string_add_sum W _ _ (by rw [hXs]; show 2 + 4 ≤ _; omega)
  have HV := Lib.hid hV
  have HX := Lib.hid hX
  have HXs := Lib.hid hXs
  clear hV hX hXs
  have HP : Hid (r < 55296 ∨ 57343 < r) := Lib.hid (by omega)
  go_enter Tryd.func24, Tryd.ntmps24
  go_wp2_with fail
  refine (hex_any r a b c d how _ HV.out ha hb hc hd hh hh2).mono ?_
  rintro e w5 ⟨rfl, n5, rfl⟩
  rw [HX.out]
  go_wp2_with fail
  go_ret
  refine ⟨bu ++ X, rfl, ?_, by rw [ByteArray.size_append]; have := HXs.out; show 2 + _ ≤ 6 * _; omega, by rw [ByteArray.size_append]; show 0 < 2 + _; omega, _, rfl⟩
  rw [← HX.out]
  exact spl_hex how ha hb hc hd HV.out HP.out
set_option maxHeartbeats 3200000 in
set_option maxRecDepth 100000 in
theorem sign1_self (t : ByteArray) (r how : Int) (w : World) (hR : RuneV r) (hr : 32 ≤ r) (hr2 : r ≤ 127) (hE : restAt t 0 = Lib.encodeRuneZ r) (hsz : t.size = 1) (h0 : ch t 0 = r) (x47 : r ≠ 47) (x34 : r ≠ 34) (x92 : r ≠ 92) (m2 : how % 3 ≠ 2) (hh : 0 ≤ how) (hh2 : how ≤ 9223372036854775807) :
    Calls Tryd.prog 24 #[.string t, .int .i64 how] w (SignP r 1 w) := by
  have hi0 : 0 < t.size := by omega
  have c0 : ((t[0]'hi0).toNat : Int) = r := by rw [← ch_in hi0]; exact h0
  have hz : (t.size : Int) = 1 := by omega
  have n47 : ¬ t.toList = [47] := ne_toList (fun hz1 => by show _ ≠ (47 : Int); omega)
  have b47 : (t.toList == [47]) = false := beq_eq_false_iff_ne.2 n47
  have n34 : ¬ t.toList = [34] := ne_toList (fun hz1 => by show _ ≠ (34 : Int); omega)
  have b34 : (t.toList == [34]) = false := beq_eq_false_iff_ne.2 n34
  have n92 : ¬ t.toList = [92] := ne_toList (fun hz1 => by show _ ≠ (92 : Int); omega)
  have b92 : (t.toList == [92]) = false := beq_eq_false_iff_ne.2 n92
  have e2 : (how % 3 != 2) = true := by simpa using m2
  have HE := Lib.hid (And.intro hR hE)
  have HS := Lib.hid hsz
  clear m2 hR hE hsz
  go_enter Tryd.func24, Tryd.ntmps24
  go_wp2_with fail
  go_ret
  exact ⟨t, rfl, spl_self HE.out.1 HE.out.2 (by omega) (by omega) (by omega), by have := HS.out; omega, by have := HS.out; omega, 0, rfl⟩
/-- A sign, spelt as a number says. -/
theorem lawsign_any (r how : Int) (t : ByteArray) (w : World) (hR : RuneV r) (hE : restAt t 0 = Lib.encodeRuneZ r) (hh : 0 ≤ how) (hh2 : how ≤ 9223372036854775807) : Calls Tryd.prog 24 #[.string t, .int .i64 how] w (SignP r t.size w) := by
  have hR' := hR
  obtain ⟨g0, g1, g2⟩ := hR
  have hl := congrArg List.length hE
  rw [restAt_len] at hl
  have hc : ∀ k x, (Lib.encodeRuneZ r)[k]? = some x → ch t k = x := fun k x hk => by
    rw [← hE] at hk
    unfold restAt bytesAt at hk
    rw [List.getElem?_map] at hk
    obtain ⟨i, hi, rfl⟩ := Option.map_eq_some_iff.1 hk
    have := List.getElem?_eq_some_iff.1 hi
    obtain ⟨h1, h2⟩ := this
    simp at h2
    subst h2
    rw [Nat.zero_add]
  by_cases r1 : r ≤ 127
  · have ee := Lib.encodeRuneZ_one g0 r1
    rw [ee] at hl
    have h0 := hc 0 r (by rw [ee]; rfl)
    by_cases l32 : r ≤ 31
    · rw [hl]; exact sign1_low t r how w hR' g0 l32 hE hl h0 hh hh2
    by_cases x34 : r = 34
    · rw [hl]; exact sign1_34 t r how w hR' (by omega) (by omega) hE hl h0 hh hh2
    by_cases x92 : r = 92
    · rw [hl]; exact sign1_92 t r how w hR' (by omega) (by omega) hE hl h0 hh hh2
    by_cases x47 : r = 47
    · by_cases m2 : how % 3 = 2
      · rw [hl]; exact sign1_slash2 t r how w hR' (by omega) (by omega) hE hl h0 m2 hh hh2
      · by_cases m1 : how % 3 = 1
        · rw [hl]; exact sign1_slash1 t r how w hR' (by omega) (by omega) hE hl h0 m1 hh hh2
        · rw [hl]; exact sign1_slash0 t r how w hR' (by omega) (by omega) hE hl h0 (by omega) hh hh2
    · by_cases m2 : how % 3 = 2
      · rw [hl]; exact sign1_hex t r how w hR' (by omega) r1 hE hl h0 x47 x34 x92 m2 hh hh2
      · rw [hl]; exact sign1_self t r how w hR' (by omega) r1 hE hl h0 x47 x34 x92 m2 hh hh2
  by_cases r2 : r ≤ 2047
  · have ee := Lib.encodeRuneZ_two (show 128 ≤ r by omega) r2
    rw [ee] at hl
    rw [hl]; exact sign2_any t r how w hR' (by omega) r2 hE hl (hc 0 _ (by rw [ee]; rfl)) (hc 1 _ (by rw [ee]; rfl)) hh hh2
  by_cases r3 : r ≤ 65535
  · have ee := Lib.encodeRuneZ_three (show (2048 ≤ r ∧ r < 55296) ∨ (57343 < r ∧ r ≤ 65535) by omega)
    rw [ee] at hl
    rw [hl]; exact sign3_any t r how w hR' (by omega) r3 hE hl (hc 0 _ (by rw [ee]; rfl)) (hc 1 _ (by rw [ee]; rfl)) (hc 2 _ (by rw [ee]; rfl)) hh hh2
  · have ee := Lib.encodeRuneZ_four (show 65536 ≤ r by omega) g1
    rw [ee] at hl
    rw [hl]; exact sign4_any t r how w hR' (by omega) g1 hE hl (hc 0 _ (by rw [ee]; rfl)) (hc 1 _ (by rw [ee]; rfl)) (hc 2 _ (by rw [ee]; rfl)) (hc 3 _ (by rw [ee]; rfl)) hh hh2
end Go.Proofs.YtlbilofnbhhmjaaDoor
