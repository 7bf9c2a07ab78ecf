/- DigestMacs: the walk. -/
import Derived.Test.YtkfdaeipfjcibaaDoorRMac
import Derived.Test.YtkfdaeipfjcibaaDoorSums
namespace Go.Proofs.YtkfdaeipfjcibaaDoor
open Go.RowKit
set_option linter.unusedVariables false
set_option linter.unusedSimpArgs false
theorem mac_length (key x : List Int) : (mac key x).length = 32 := sha_length _
set_option maxHeartbeats 1600000 in
set_option maxRecDepth 100000 in
theorem macs_any (Ak Ab : Option Addr) (ck cb : Nat) (key x : List Int) (w : World) (hAk : Ak = none → key = [] ∧ ck = 0) (hAb : Ab = none → x = [] ∧ cb = 0) (hk : Src w Ak key) (hx : Src w Ab x)
    (hck : key.length ≤ ck) (hcb : x.length ≤ cb) (hK : HasK w) :
    Calls Tryd.prog 6 #[.slice Ak key.length ck, .slice Ab x.length cb] w fun e w' => e = .returned (.bool true) ∧ Below w.heap.size w w' := by
  have HX := Lib.hid hx
  have HKy := Lib.hid hk
  have HAb := Lib.hid hAb
  have HAk := Lib.hid hAk
  have HK := Lib.hid hK
  clear hx hk hAb hAk hK
  by_cases hg1 : (key.length : Int) > 32768
  · go_enter Tryd.func6, Tryd.ntmps6
    go_wp2_with (go_at_call 8; refine (works_any w HK.out).mono ?_; rintro e w1 ⟨rfl, hb1⟩; have Hb1 := Lib.hid hb1; clear hb1)
    go_ret
    exact ⟨rfl, Hb1.out⟩
  · by_cases hg2 : (x.length : Int) > 32768
    · go_enter Tryd.func6, Tryd.ntmps6
      go_wp2_with (go_at_call 8; refine (works_any w HK.out).mono ?_; rintro e w1 ⟨rfl, hb1⟩; have Hb1 := Lib.hid hb1; clear hb1)
      go_ret
      exact ⟨rfl, Hb1.out⟩
    · obtain ⟨S, hS⟩ : ∃ S, mac key x = S := ⟨_, rfl⟩
      have hSl : S.length = 32 := by rw [← hS]; exact mac_length key x
      have heq := fun w => eql_same w S hSl
      have HS := Lib.hid hS
      clear hS hSl
      go_enter Tryd.func6, Tryd.ntmps6
      go_wp2_with (first
        | (go_at_call 8; refine (works_any w4 (HK.out.below HB4.out)).mono ?_; rintro e w5 ⟨rfl, hb5⟩
           have HB5 : Hid (Below w.heap.size w w5) := Lib.hid (below_trans' HB4.out hb5)
           clear hb5)
        | (go_at_call_of 12 (Value.slice (some ⟨g2, 0, none⟩) x.length cap2); refine (kept_any g2 cap2 Ab cb x w4 Hr4.out (fun h => (HAb.out h).1) (HX.out.below HB4.out) (by omega)).mono ?_; rintro e w6 ⟨rfl, rfl⟩)
        | (go_at_call_of 12 (Value.slice (some ⟨g1, 0, none⟩) key.length cap1); refine (kept_any g1 cap1 Ak ck key w4 Hk4.out (fun h => (HAk.out h).1) (HKy.out.below HB4.out) (by omega)).mono ?_; rintro e w5 ⟨rfl, rfl⟩)
        | (go_at_call 20; refine (rmac_any Ak Ab ck cb key x w3 HAk.out HAb.out (HKy.out.below HB3.out) (HX.out.below HB3.out) (by omega) (by omega)).mono ?_; rintro e w4 ⟨rfl, hb4⟩
           rw [HS.out]
           unfold bytesA
           have HB4 : Hid (Below w.heap.size w w4) := Lib.hid (below_trans' HB3.out hb4)
           have Hk4 : Hid (Roomed w4 g1 cap1 key) := Lib.hid (Hk3.out.grown (grown_of_below hb4 none) (by simp))
           have Hr4 : Hid (Roomed w4 g2 cap2 x) := Lib.hid (Hr3.out.grown (grown_of_below hb4 none) (by simp))
           clear hb4)
        | (go_at_call 19; refine (mac_any (some ⟨g1, 0, none⟩) (some ⟨g2, 0, none⟩) cap1 cap2 key x w2 Hk2.out.src Hr2.out.src Hcap1.out Hcap2.out (HK.out.below HB2.out) (by omega) (by omega)).mono ?_; rintro e w3 ⟨rfl, hb3⟩
           rw [HS.out]
           have HB3 : Hid (Below w.heap.size w w3) := Lib.hid (below_trans' HB2.out hb3)
           have Hk3 : Hid (Roomed w3 g1 cap1 key) := Lib.hid (Hk2.out.grown (grown_of_below hb3 none) (by simp))
           have Hr3 : Hid (Roomed w3 g2 cap2 x) := Lib.hid (Hr2.out.grown (grown_of_below hb3 none) (by simp))
           clear hb3)
        | (go_at_call 9; refine (roomy_any Ab cb x w1 HAb.out (HX.out.below HB1.out) (by omega)).mono ?_; rintro e w2 ⟨g2, cap2, rfl, hgb, hr2, hgr2⟩
           have Hr2 := Lib.hid hr2
           have Hk2 : Hid (Roomed w2 g1 cap1 key) := Lib.hid (Hr1.out.grown hgr2 (by simp))
           have HB2 : Hid (Below w.heap.size w w2) := Lib.hid (below_trans' HB1.out (below_of_grown hgr2))
           have Hcap2 : Hid (x.length ≤ cap2) := Lib.hid (by obtain ⟨_, _, _, h, _⟩ := hr2; omega)
           clear hgb hr2 hgr2)
        | (go_at_call 9; refine (roomy_any Ak ck key w HAk.out HKy.out (by omega)).mono ?_; rintro e w1 ⟨g1, cap1, rfl, hgb, hr1, hgr1⟩
           have Hr1 := Lib.hid hr1
           have HB1 : Hid (Below w.heap.size w w1) := Lib.hid (below_of_grown hgr1)
           have Hcap1 : Hid (key.length ≤ cap1) := Lib.hid (by obtain ⟨_, _, _, h, _⟩ := hr1; omega)
           clear hgb hr1 hgr1))
      go_ret
      exact ⟨rfl, HB5.out⟩
end Go.Proofs.YtkfdaeipfjcibaaDoor
