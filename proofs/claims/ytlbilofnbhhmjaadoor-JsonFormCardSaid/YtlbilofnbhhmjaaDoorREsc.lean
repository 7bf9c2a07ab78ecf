/- The reference's reader: escape. -/
import Derived.Test.YtlbilofnbhhmjaaDoorRSign
namespace Go.Proofs.YtlbilofnbhhmjaaDoor
open Go.RowKit
set_option linter.unusedVariables false
set_option linter.unusedSimpArgs false
theorem esc_one {W w : World} {b j g : Nat} {s : ByteArray} {v : Int} (hgz : g = w.heap.size) (hv0 : 0 ≤ v) (hv1 : v ≤ 127) (hg : W.grownBy w (some b)) (hs : Sc w b s j 0) :
    REsc (.ok v j) b s W (.returned (.slice (some ⟨g, 0, none⟩) 1 1)) (w.alloc (.cells #[.int .u8 v] 5)) := by
  subst hgz
  have he := Lib.encodeRuneZ_one hv0 hv1
  refine ⟨grown_alloc hg _, ⟨w.heap.size, hg.size, ?_, ?_⟩, Row.alloc hs _⟩
  · rw [he]; rfl
  · rw [he]; exact Row.new w [.int .u8 v] 5
set_option maxHeartbeats 6400000 in
set_option maxRecDepth 100000 in
theorem rescape_any (b i : Nat) (s : ByteArray) (w : World) (hr : Sc w b s i 0) (hs : s.size ≤ 1099511627776) (hi : i < s.size) :
    Calls Tryd.prog 76 #[.pointer (some ⟨b, 0, none⟩)] w (REsc (escape s i) b s w) := by
  obtain ⟨RES, hR⟩ : ∃ r, escape s i = r := ⟨_, rfl⟩
  rw [hR]
  have HR := Lib.hid hR
  have Hr := Lib.hid hr
  have c0 := hr.s
  have c1 := hr.i
  have d1 := hr.free 1
  obtain ⟨p1, hp1⟩ : ∃ p, i + 1 = p := ⟨_, rfl⟩
  obtain ⟨p2, hp2⟩ : ∃ p, i + 2 = p := ⟨_, rfl⟩
  have hw1 : IntKind.i64.wrap ((i : Int) + 1) = (p1 : Int) := by rw [IntWalk.i64_in _ (by omega)]; omega
  have hw2 : IntKind.i64.wrap ((i : Int) + 2) = (p2 : Int) := by rw [IntWalk.i64_in _ (by omega)]; omega
  have HP1 := Lib.hid hp1
  have HP2 := Lib.hid hp2
  have Hi := Lib.hid hi
  clear hR hr
  by_cases hend : p1 = s.size
  · have he : ((p1 : Int) == (s.size : Int)) = true := by simp; omega
    have h0 : ch s (i + 1) = 0 := ch_out (by omega)
    have HE : Hid (RES = .no p1 130) := Lib.hid (by rw [← HR.out]; unfold escape; rw [h0, hp1]; rfl)
    clear hp1 hp2 hi hend h0
    go_enter Tryd.func76, Tryd.ntmps76
    go_wp2_with (first
      | (go_at_call 37; refine (rfail_any b i p1 0 130 s w Hr.out).mono ?_; rintro e w2 ⟨rfl, hsc, hg⟩; have Hsc := Lib.hid hsc; have HG2 := Lib.hid hg; clear hsc hg))
    go_ret
    rw [HE.out]
    exact ⟨HG2.out, rfl, Hsc.out, by decide⟩
  · have he : ((p1 : Int) == (s.size : Int)) = false := by simp; omega
    have hlt : p1 < s.size := by omega
    have hl3 : (p1 : Int) < (s.size : Int) := by omega
    obtain ⟨c, hc⟩ : ∃ c, ch s p1 = c := ⟨_, rfl⟩
    have hcs : ((s[p1]'hlt).toNat : Int) = c := by rw [← hc]; exact (ch_in hlt).symm
    have Hc : Hid (ch s (i + 1) = c) := Lib.hid (by rw [hp1]; exact hc)
    have Hp2 : Hid (p2 ≤ s.size) := Lib.hid (by omega)
    have HS : Hid (Sc (w.setCell ⟨b, 1, none⟩ (.int .i64 (p2 : Int))) b s p2 0) := Lib.hid (Hr.out.set p2)
    have HG : Hid (w.grownBy (w.setCell ⟨b, 1, none⟩ (.int .i64 (p2 : Int))) (some b)) := Lib.hid (grown_set (grown_refl _ _) (.inl rfl) _ _)
    have hRE : Hid (escape s i = RES) := HR
    clear hp1 hp2 hi hend hc HR
    go_enter Tryd.func76, Tryd.ntmps76
    go_upto_region 7 with fail
    by_cases h34 : c = 34
    · have HE : Hid (RES = .ok 34 p2) := Lib.hid (by rw [← hRE.out]; unfold escape; rw [Hc.out, h34, HP2.out]; rfl)
      subst h34
      go_wp2_with fail
      go_ret
      rw [HE.out]
      exact esc_one (v := 34) (by simp) (by decide) (by decide) HG.out HS.out
    by_cases h92 : c = 92
    · have HE : Hid (RES = .ok 92 p2) := Lib.hid (by rw [← hRE.out]; unfold escape; rw [Hc.out, h92, HP2.out]; rfl)
      subst h92
      go_wp2_with fail
      go_ret
      rw [HE.out]
      exact esc_one (v := 92) (by simp) (by decide) (by decide) HG.out HS.out
    by_cases h47 : c = 47
    · have HE : Hid (RES = .ok 47 p2) := Lib.hid (by rw [← hRE.out]; unfold escape; rw [Hc.out, h47, HP2.out]; rfl)
      subst h47
      go_wp2_with fail
      go_ret
      rw [HE.out]
      exact esc_one (v := 47) (by simp) (by decide) (by decide) HG.out HS.out
    by_cases h98 : c = 98
    · have HE : Hid (RES = .ok 8 p2) := Lib.hid (by rw [← hRE.out]; unfold escape; rw [Hc.out, h98, HP2.out]; rfl)
      subst h98
      go_wp2_with fail
      go_ret
      rw [HE.out]
      exact esc_one (v := 8) (by simp) (by decide) (by decide) HG.out HS.out
    by_cases h102 : c = 102
    · have HE : Hid (RES = .ok 12 p2) := Lib.hid (by rw [← hRE.out]; unfold escape; rw [Hc.out, h102, HP2.out]; rfl)
      subst h102
      go_wp2_with fail
      go_ret
      rw [HE.out]
      exact esc_one (v := 12) (by simp) (by decide) (by decide) HG.out HS.out
    by_cases h110 : c = 110
    · have HE : Hid (RES = .ok 10 p2) := Lib.hid (by rw [← hRE.out]; unfold escape; rw [Hc.out, h110, HP2.out]; rfl)
      subst h110
      go_wp2_with fail
      go_ret
      rw [HE.out]
      exact esc_one (v := 10) (by simp) (by decide) (by decide) HG.out HS.out
    by_cases h114 : c = 114
    · have HE : Hid (RES = .ok 13 p2) := Lib.hid (by rw [← hRE.out]; unfold escape; rw [Hc.out, h114, HP2.out]; rfl)
      subst h114
      go_wp2_with fail
      go_ret
      rw [HE.out]
      exact esc_one (v := 13) (by simp) (by decide) (by decide) HG.out HS.out
    by_cases h116 : c = 116
    · have HE : Hid (RES = .ok 9 p2) := Lib.hid (by rw [← hRE.out]; unfold escape; rw [Hc.out, h116, HP2.out]; rfl)
      subst h116
      go_wp2_with fail
      go_ret
      rw [HE.out]
      exact esc_one (v := 9) (by simp) (by decide) (by decide) HG.out HS.out
    by_cases h117 : c = 117
    · have HE : Hid (signOf s i = RES) := Lib.hid (by rw [← hRE.out]; unfold escape; rw [Hc.out, h117]; rfl)
      subst h117
      have hsg := rsign_any b i s (w.setCell ⟨b, 1, none⟩ (.int .i64 (p2 : Int))) (by rw [HP2.out]; exact HS.out) hs (by rw [HP2.out]; exact Hp2.out)
      rw [HE.out] at hsg
      have Hsg := Lib.hid hsg
      clear hsg
      cases hres : RES with
      | no j er =>
        have HX := Lib.hid hres
        clear hres
        go_wp2_with (first
          | (go_at_call 90; refine Hsg.out.mono ?_; intro e w2 hd; obtain ⟨rfl, hsc, hne, hg⟩ := hd.no HX.out; have Hsc := Lib.hid hsc; have Hg2 := Lib.hid (grown_trans HG.out hg); have Hne := Lib.hid hne; clear hd hsc hne hg))
        go_ret
        rw [HX.out]
        exact ⟨Hg2.out, rfl, Hsc.out, Hne.out⟩
      | ok v j =>
        have HX := Lib.hid hres
        clear hres
        go_wp2_with (first
          | (go_at_call 90; refine Hsg.out.mono ?_; intro e w2 hd; obtain ⟨g, rfl, hgl, hrow, hsc, hg⟩ := hd.ok HX.out; have Hsc := Lib.hid hsc; have Hrow := Lib.hid hrow; have Hgl : Hid (w.heap.size ≤ g) := Lib.hid (Nat.le_trans HG.out.size hgl); have Hg2 := Lib.hid (grown_trans HG.out hg); clear hd hsc hrow hgl hg))
        go_ret
        rw [HX.out]
        exact ⟨Hg2.out, ⟨g, Hgl.out, rfl, Hrow.out⟩, Hsc.out⟩
    · have HE : Hid (RES = .no p1 130) := Lib.hid (by
        rw [← hRE.out]; unfold escape
        rw [Hc.out, if_neg (by omega), if_neg h98, if_neg h102, if_neg h110, if_neg h114, if_neg h116, if_neg h117, HP1.out])
      have b34 : (c == 34) = false := by simpa using h34
      have b92 : (c == 92) = false := by simpa using h92
      have b47 : (c == 47) = false := by simpa using h47
      have b98 : (c == 98) = false := by simpa using h98
      have b102 : (c == 102) = false := by simpa using h102
      have b110 : (c == 110) = false := by simpa using h110
      have b114 : (c == 114) = false := by simpa using h114
      have b116 : (c == 116) = false := by simpa using h116
      have b117 : (c == 117) = false := by simpa using h117
      clear h34 h92 h47 h98 h102 h110 h114 h116 h117
      go_wp2_with (first
        | (go_at_call 37; refine (rfail_any b p2 p1 0 130 s _ HS.out).mono ?_; rintro e w2 ⟨rfl, hsc, hg⟩; have Hsc := Lib.hid hsc; have HG2 := Lib.hid (grown_trans HG.out hg); clear hsc hg))
      go_ret
      rw [HE.out]
      exact ⟨HG2.out, rfl, Hsc.out, by decide⟩
end Go.Proofs.YtlbilofnbhhmjaaDoor
