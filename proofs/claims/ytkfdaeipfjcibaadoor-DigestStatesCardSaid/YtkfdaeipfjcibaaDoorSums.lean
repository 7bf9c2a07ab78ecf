/- DigestSums: the walk. -/
import Derived.Test.YtkfdaeipfjcibaaDoorRSum
import Derived.Test.YtkfdaeipfjcibaaDoorWorks
import Derived.Test.YtkfdaeipfjcibaaDoorEq
namespace Go.Proofs.YtkfdaeipfjcibaaDoor
open Go.RowKit
set_option linter.unusedVariables false
set_option linter.unusedSimpArgs false
theorem below_trans' {w w1 w2 : World} (h : Below w.heap.size w w1) (k : Below w1.heap.size w1 w2) : Below w.heap.size w w2 :=
  below_of_grown (grown_below (grown_of_below h none) k h.size)
theorem HasK.below {w w' : World} (h : HasK w) (hb : Below w.heap.size w w') : HasK w' := h.grown (grown_of_below hb none) (by simp)
theorem Src.below {w w' : World} {A : Option Addr} {x : List Int} (h : Src w A x) (hb : Below w.heap.size w w') : Src w' A x := h.grown (grown_of_below hb none) (by simp)
set_option maxHeartbeats 1600000 in
set_option maxRecDepth 100000 in
theorem sums_any (A : Option Addr) (c : Nat) (x : List Int) (w : World) (hA : A = none → x = [] ∧ c = 0) (hx : Src w A x) (hc : x.length ≤ c) (hK : HasK w) :
    Calls Tryd.prog 3 #[.slice A x.length c] w fun e w' => e = .returned (.bool true) ∧ Below w.heap.size w w' := by
  have HX := Lib.hid hx
  have HA := Lib.hid hA
  have HK := Lib.hid hK
  have Hc := Lib.hid hc
  clear hx hA hK hc
  by_cases hgt : (x.length : Int) > 65536
  · go_enter Tryd.func3, Tryd.ntmps3
    go_wp2_with (go_at_call 8; refine (works_any w HK.out).mono ?_; rintro e w1 ⟨rfl, hb1⟩; have Hb1 := Lib.hid hb1; clear hb1)
    go_ret
    exact ⟨rfl, Hb1.out⟩
  · have hlen : x.length ≤ 65536 := by omega
    obtain ⟨S, hS⟩ : ∃ S, sha x = S := ⟨_, rfl⟩
    have hSl : S.length = 32 := by rw [← hS]; exact sha_length x
    have heq := fun w => eql_same w S hSl
    have HS := Lib.hid hS
    clear hS hSl
    go_enter Tryd.func3, Tryd.ntmps3
    go_wp2_with (first
      | (go_at_call 9; refine (roomy_any A c x w HA.out HX.out (by omega)).mono ?_; rintro e w1 ⟨g, cap, rfl, hgb, hr1, hg1⟩
         have Hr1 := Lib.hid hr1
         have HB1 : Hid (Below w.heap.size w w1) := Lib.hid (below_of_grown hg1)
         have HK1 : Hid (HasK w1) := Lib.hid (HK.out.below HB1.out)
         have HX1 : Hid (Src w1 A x) := Lib.hid (HX.out.below HB1.out)
         have Hcap : Hid (x.length ≤ cap) := Lib.hid (by obtain ⟨_, _, _, h, _⟩ := hr1; omega)
         clear hgb hr1 hg1)
      | (go_at_call 10; refine (dsum_any (some ⟨g, 0, none⟩) cap x w1 Hr1.out.src Hcap.out HK1.out (by omega)).mono ?_; rintro e w2 ⟨rfl, hb2⟩
         rw [HS.out]
         have HB2 : Hid (Below w.heap.size w w2) := Lib.hid (below_trans' HB1.out hb2)
         have HK2 : Hid (HasK w2) := Lib.hid (HK1.out.below hb2)
         have HX2 : Hid (Src w2 A x) := Lib.hid (HX1.out.below hb2)
         have Hr2 : Hid (Roomed w2 g cap x) := Lib.hid (Hr1.out.grown (grown_of_below hb2 none) (by simp))
         clear hb2)
      | (go_at_call 11; refine (rsum_any A c x w2 HA.out HX2.out (by omega)).mono ?_; rintro e w3 ⟨rfl, hb3⟩
         rw [HS.out]
         unfold bytesA
         have HB3 : Hid (Below w.heap.size w w3) := Lib.hid (below_trans' HB2.out hb3)
         have HK3 : Hid (HasK w3) := Lib.hid (HK2.out.below hb3)
         have HX3 : Hid (Src w3 A x) := Lib.hid (HX2.out.below hb3)
         have Hr3 : Hid (Roomed w3 g cap x) := Lib.hid (Hr2.out.grown (grown_of_below hb3 none) (by simp))
         clear hb3)
      | (go_at_call 12; refine (kept_any g cap A c x w3 Hr3.out (fun h => (HA.out h).1) HX3.out (by omega)).mono ?_; rintro e w4 ⟨rfl, rfl⟩)
      | (go_at_call 8; refine (works_any w3 HK3.out).mono ?_; rintro e w5 ⟨rfl, hb5⟩
         have HB5 : Hid (Below w.heap.size w w5) := Lib.hid (below_trans' HB3.out hb5)
         clear hb5))
    go_ret
    exact ⟨rfl, HB5.out⟩
end Go.Proofs.YtkfdaeipfjcibaaDoor
