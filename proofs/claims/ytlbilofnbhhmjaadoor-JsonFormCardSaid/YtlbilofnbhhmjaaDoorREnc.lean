/- The reference's reader: Encoded. -/
import Derived.Test.YtlbilofnbhhmjaaDoorRFour
namespace Go.Proofs.YtlbilofnbhhmjaaDoor
open Go.RowKit
set_option linter.unusedVariables false
set_option linter.unusedSimpArgs false
/-- New bytes in a block of their own. -/
def NewBytes (l : List Int) (w : World) (e : Ending) (w' : World) : Prop :=
  e = .returned (.slice (some ⟨w.heap.size, 0, none⟩) l.length l.length) ∧ Row w' w.heap.size 5 (l.map (Value.int .u8)) ∧ w.grownBy w' none
set_option maxHeartbeats 3200000 in
set_option maxRecDepth 100000 in
theorem rencoded_any (v : Int) (w : World) (h0 : 0 ≤ v) (h1 : v ≤ 1114111) (hs : v < 55296 ∨ 57343 < v) :
    Calls Tryd.prog 116 #[.int .i64 v] w (NewBytes (Lib.encodeRuneZ v) w) := by
  have q1 : IntKind.i64.wrap (v.tdiv 64) = v / 64 := IntWalk.i64_quo v 64 ⟨h0, by omega, by omega⟩
  have q2 : IntKind.i64.wrap (v.tdiv 4096) = v / 4096 := IntWalk.i64_quo v 4096 ⟨h0, by omega, by omega⟩
  have q3 : IntKind.i64.wrap (v.tdiv 262144) = v / 262144 := IntWalk.i64_quo v 262144 ⟨h0, by omega, by omega⟩
  have r1 : v.tmod 64 = v % 64 := IntWalk.rem_in v 64 h0
  have r2 : (v / 64).tmod 64 = v / 64 % 64 := IntWalk.rem_in _ 64 (by omega)
  have r3 : (v / 4096).tmod 64 = v / 4096 % 64 := IntWalk.rem_in _ 64 (by omega)
  have hm : 0 ≤ v % 64 ∧ v % 64 ≤ 63 := by omega
  have hm2 : 0 ≤ v / 64 % 64 ∧ v / 64 % 64 ≤ 63 := by omega
  have hm3 : 0 ≤ v / 4096 % 64 ∧ v / 4096 % 64 ≤ 63 := by omega
  by_cases k1 : v < 128
  · have HE := Lib.hid (Lib.encodeRuneZ_one h0 (by omega))
    have hw1 : IntKind.u8.wrap v = v := IntWalk.u8_in _ (by omega)
    go_enter Tryd.func116, Tryd.ntmps116
    go_wp2
    go_ret
    rw [HE.out]
    exact ⟨rfl, Row.new w [.int .u8 v] 5, (grown_new w _).1⟩
  · by_cases k2 : v < 2048
    · have HE := Lib.hid (Lib.encodeRuneZ_two (r := v) (by omega) (by omega))
      go_enter Tryd.func116, Tryd.ntmps116
      go_wp2
      go_ret
      rw [HE.out]
      exact ⟨rfl, Row.new w [.int .u8 (192 + v / 64), .int .u8 (128 + v % 64)] 5, (grown_new w _).1⟩
    · by_cases k3 : v < 65536
      · have HE := Lib.hid (Lib.encodeRuneZ_three (r := v) (by omega))
        go_enter Tryd.func116, Tryd.ntmps116
        go_wp2
        go_ret
        rw [HE.out]
        exact ⟨rfl, Row.new w [.int .u8 (224 + v / 4096), .int .u8 (128 + v / 64 % 64), .int .u8 (128 + v % 64)] 5, (grown_new w _).1⟩
      · have HE := Lib.hid (Lib.encodeRuneZ_four (r := v) (by omega) h1)
        go_enter Tryd.func116, Tryd.ntmps116
        go_wp2
        go_ret
        rw [HE.out]
        exact ⟨rfl, Row.new w [.int .u8 (240 + v / 262144), .int .u8 (128 + v / 4096 % 64), .int .u8 (128 + v / 64 % 64), .int .u8 (128 + v % 64)] 5, (grown_new w _).1⟩
/-- What the reference's escapes hand out: bytes in new memory, the reader behind the escape; or a failure. -/
def REsc (r : R Int) (b : Nat) (s : ByteArray) (w : World) (e : Ending) (w' : World) : Prop :=
  w.grownBy w' (some b) ∧ match r with
    | .ok v j => (∃ g, w.heap.size ≤ g ∧ e = .returned (.slice (some ⟨g, 0, none⟩) (Lib.encodeRuneZ v).length (Lib.encodeRuneZ v).length) ∧ Row w' g 5 ((Lib.encodeRuneZ v).map (Value.int .u8))) ∧ Sc w' b s j 0
    | .no j er => e = .returned (.slice none 0 0) ∧ Sc w' b s j er ∧ er ≠ 0
theorem REsc.ok {r : R Int} {b : Nat} {s : ByteArray} {w w' : World} {e : Ending} (h : REsc r b s w e w') {v : Int} {j : Nat} (hr : r = .ok v j) :
    ∃ g, e = .returned (.slice (some ⟨g, 0, none⟩) (Lib.encodeRuneZ v).length (Lib.encodeRuneZ v).length) ∧ w.heap.size ≤ g ∧ Row w' g 5 ((Lib.encodeRuneZ v).map (Value.int .u8)) ∧ Sc w' b s j 0 ∧ w.grownBy w' (some b) := by
  subst hr; obtain ⟨h1, ⟨g, h2, h3, h4⟩, h5⟩ := h; exact ⟨g, h3, h2, h4, h5, h1⟩
theorem REsc.no {r : R Int} {b : Nat} {s : ByteArray} {w w' : World} {e : Ending} (h : REsc r b s w e w') {er : Int} {j : Nat} (hr : r = .no j er) :
    e = .returned (.slice none 0 0) ∧ Sc w' b s j er ∧ er ≠ 0 ∧ w.grownBy w' (some b) := by subst hr; exact ⟨h.2.1, h.2.2.1, h.2.2.2, h.1⟩
end Go.Proofs.YtlbilofnbhhmjaaDoor
