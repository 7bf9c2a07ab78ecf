/- The reference's reader: sign. -/
import Derived.Test.YtlbilofnbhhmjaaDoorREnc
namespace Go.Proofs.YtlbilofnbhhmjaaDoor
open Go.RowKit
set_option linter.unusedVariables false
set_option linter.unusedSimpArgs false
theorem ret_sl {g h n : Nat} (e : g = h) : Ending.returned (.slice (some ⟨g, 0, none⟩) n n) = .returned (.slice (some ⟨h, 0, none⟩) n n) := by rw [e]
theorem ret_nil {a : Value} (e : a = .slice none 0 0) : Ending.returned a = .returned (.slice none 0 0) := by rw [e]
set_option maxHeartbeats 400000 in
set_option maxRecDepth 100000 in
theorem rsign_no (b i j p2 : Nat) (e : Int) (s : ByteArray) (w : World) (RES : R Int) (HS : Hid (R.no j e = RES)) (Hr : Hid (Sc w b s p2 0)) (hw2 : IntKind.i64.wrap ((i : Int) + 2) = (p2 : Int)) (hs : s.size ≤ 1099511627776) (Hi : Hid (p2 ≤ s.size)) (Hf : Hid (four s p2 = .no j e)) :
    Calls Tryd.prog 90 #[.pointer (some ⟨b, 0, none⟩), .int .i64 i] w (REsc RES b s w) := by
  go_enter Tryd.func90, Tryd.ntmps90
  go_wp2_with fail
  refine (rfour_any b p2 p2 s w Hr.out hs Hi.out).mono ?_
  intro e1 w1 hd
  obtain ⟨rfl, hsc, hne, hg⟩ := hd.no Hf.out
  have Hg := Lib.hid hg; have Hsc := Lib.hid hsc; have c2 := hsc.e
  have hne2 : (e != 0) = true := by simpa using hne
  have Hne := Lib.hid hne
  clear hg hd hsc hne
  go_wp2_with fail
  go_ret
  rw [← HS.out]
  exact ⟨Hg.out, rfl, Hsc.out, Hne.out⟩
set_option maxHeartbeats 12800000 in
set_option maxRecDepth 100000 in
theorem rsign_any (b i : Nat) (s : ByteArray) (w : World) (hr : Sc w b s (i + 2) 0) (hs : s.size ≤ 1099511627776) (hi : i + 2 ≤ s.size) :
    Calls Tryd.prog 90 #[.pointer (some ⟨b, 0, none⟩), .int .i64 i] w (REsc (signOf s i) b s w) := by
  obtain ⟨RES, hR⟩ : ∃ r, signOf s i = r := ⟨_, rfl⟩
  rw [hR]
  obtain ⟨p2, hp2⟩ : ∃ p, i + 2 = p := ⟨_, rfl⟩
  have hw2 : IntKind.i64.wrap ((i : Int) + 2) = (p2 : Int) := by rw [IntWalk.i64_in _ (by omega)]; omega
  rw [hp2] at hr hi
  have Hr := Lib.hid hr
  have Hi := Lib.hid hi
  have HIle : Hid (i ≤ 1099511627776) := Lib.hid (by omega)
  have HP2 := Lib.hid hp2
  clear hi hp2
  cases hf : four s p2 with
  | no j e =>
    have HS : Hid (R.no j e = RES) := Lib.hid (by rw [← hR]; unfold signOf; rw [HP2.out, hf])
    have Hf := Lib.hid hf
    clear hR hr hf
    exact rsign_no b i j p2 e s w RES HS Hr hw2 hs Hi Hf
  | ok v j =>
    obtain ⟨hj, hjs, hv0, hv1⟩ := four_ok hf
    have hjs' := hjs Hi.out
    have Hf := Lib.hid hf
    have his := signIs (i := i) (j := j) (v := v) (by rw [HP2.out]; exact hf)
    rw [hR] at his
    have HPj : Hid (j = i + 6) := Lib.hid (by have := HP2.out; omega)
    have hw6 : IntKind.i64.wrap ((i : Int) + 6) = (j : Int) := by have := HPj.out; have := HIle.out; rw [IntWalk.i64_in _ (by omega)]; omega
    have Hjs := Lib.hid hjs'
    clear hjs'
    have HI := Lib.hid his
    clear hR hr hf hj hjs his
    go_enter Tryd.func90, Tryd.ntmps90
    go_upto_region 5 with (go_at_call 115; refine (rfour_any b p2 p2 s w Hr.out hs Hi.out).mono ?_; intro e1 w1 hd; obtain ⟨rfl, hsc, hg⟩ := hd.ok Hf.out; have Hg := Lib.hid hg; have Hs1 := Lib.hid hsc; have c0 := hsc.s; have c1 := hsc.i; have d1 := hsc.free 1; have c2 := hsc.e; clear hg hd hsc)
    by_cases h1 : v < 55296
    · have hx : True := trivial
      go_wp2_with (first
        | (have _ := w1; go_at_call 116; refine (rencoded_any v _ hv0 (by omega) (by omega)).mono ?_; rintro e w2 ⟨rfl, hrow, hg⟩; have Hrow := Lib.hid hrow; have HG2 := Lib.hid hg; clear hrow hg))
      go_ret
      rw [HI.out.plain (.inl h1)]
      have hg1 := grown_set Hg.out (.inl rfl) 1 (.int .i64 (j : Int))
      exact ⟨grown_trans hg1 (grown_none HG2.out _), ⟨_, hg1.size, ret_sl (by simp), Hrow.out⟩, (Hs1.out.set j).grown HG2.out (by simp)⟩
    · by_cases h2 : 57343 < v
      · have hx : True := trivial
        go_wp2_with (first
          | (have _ := w1; go_at_call 116; refine (rencoded_any v _ hv0 (by omega) (by omega)).mono ?_; rintro e w2 ⟨rfl, hrow, hg⟩; have Hrow := Lib.hid hrow; have HG2 := Lib.hid hg; clear hrow hg))
        go_ret
        rw [HI.out.plain (.inr h2)]
        have hg1 := grown_set Hg.out (.inl rfl) 1 (.int .i64 (j : Int))
        exact ⟨grown_trans hg1 (grown_none HG2.out _), ⟨_, hg1.size, ret_sl (by simp), Hrow.out⟩, (Hs1.out.set j).grown HG2.out (by simp)⟩
      · have h1' : 55296 ≤ v := by omega
        have h2' : v ≤ 57343 := by omega
        clear h1 h2
        by_cases h3 : 56319 < v
        · have hx : True := trivial
          go_wp2_with (first
            | (have _ := w1; go_at_call 37; refine (rfail_any b j i 0 131 s _ (Hs1.out.set j)).mono ?_; rintro e w2 ⟨rfl, hsc, hg⟩; have Hsc := Lib.hid hsc; have HG2 := Lib.hid (grown_trans (grown_set Hg.out (.inl rfl) 1 (.int .i64 (j : Int))) hg); clear hsc hg))
          go_ret
          rw [HI.out.half h1' h2' (.inl h3)]
          exact ⟨HG2.out, rfl, Hsc.out, by decide⟩
        · have h3' : v ≤ 56319 := by omega
          clear h3
          obtain ⟨p7, hp7⟩ : ∃ p, j + 1 = p := ⟨_, rfl⟩
          have hw7 : IntKind.i64.wrap ((i : Int) + 7) = (p7 : Int) := by have := HPj.out; have := HIle.out; rw [IntWalk.i64_in _ (by omega)]; omega
          have HP7 := Lib.hid hp7
          by_cases h4 : p7 < s.size
          · have h4' : (p7 : Int) < (s.size : Int) := by omega
            have h4j : j < s.size := by omega
            have hc6 := (ch_in (s := s) (i := j) h4j).symm
            have hc7 := (ch_in (s := s) (i := p7) h4).symm
            obtain ⟨p8, hp8⟩ : ∃ p, j + 2 = p := ⟨_, rfl⟩
            have hw8 : IntKind.i64.wrap ((i : Int) + 8) = (p8 : Int) := by have := HPj.out; have := HIle.out; rw [IntWalk.i64_in _ (by omega)]; omega
            have H8 : Hid (p8 ≤ s.size) := Lib.hid (by omega)
            have HP8 := Lib.hid hp8
            clear hp7 hp8
            by_cases h6 : ch s j = 92
            · by_cases h7 : ch s p7 = 117
              · have H6 := Lib.hid h6
                have H7 : Hid (ch s (j + 1) = 117) := Lib.hid (by rw [HP7.out]; exact h7)
                rw [h6] at hc6
                rw [h7] at hc7
                clear h6 h7
                cases hf2 : four s p8 with
                | no k e =>
                  have Hf2 : Hid (four s p8 = R.no k e) := Lib.hid hf2
                  clear hf2
                  go_wp2_with fail
                  refine (rfour_any b j p8 s _ (Hs1.out.set j) hs H8.out).mono ?_
                  intro e1 w2 hd
                  obtain ⟨rfl, hsc, hne, hg⟩ := hd.no Hf2.out
                  have Hg2 := Lib.hid (grown_trans (grown_set Hg.out (.inl rfl) 1 (.int .i64 (j : Int))) hg); have Hs2 := Lib.hid hsc; have c3 := hsc.e
                  have hne2 : (e != 0) = true := by simpa using hne
                  have Hne := Lib.hid hne
                  clear hg hd hsc hne
                  go_wp2_with fail
                  go_ret
                  rw [HI.out.bad h1' h3' H6.out H7.out _ _ (by rw [HP8.out]; exact Hf2.out)]
                  exact ⟨Hg2.out, rfl, Hs2.out, Hne.out⟩
                | ok u k =>
                  obtain ⟨hk, _, hu0, hu1⟩ := four_ok hf2
                  have hw12 : IntKind.i64.wrap ((i : Int) + 12) = (k : Int) := by have := HPj.out; have := HP8.out; have := HIle.out; rw [IntWalk.i64_in _ (by omega)]; omega
                  have Hf2 : Hid (four s p8 = R.ok u k) := Lib.hid hf2
                  clear hf2 hk
                  by_cases hu2 : u < 56320
                  · have hx : True := trivial
                    go_wp2_with (first
                      | (have _ := w2; go_at_call 37; refine (rfail_any b j i 0 131 s _ Hs2.out).mono ?_; rintro e w3 ⟨rfl, hsc, hg⟩; have Hsc := Lib.hid hsc; have HG3 := Lib.hid (grown_trans Hg2.out hg); clear hsc hg)
                      | (have _ := w1; go_at_call 115; refine (rfour_any b j p8 s _ (Hs1.out.set j) hs H8.out).mono ?_; intro e1 w2 hd; obtain ⟨rfl, hsc, hg⟩ := hd.ok Hf2.out; have Hg2 := Lib.hid (grown_trans (grown_set Hg.out (.inl rfl) 1 (.int .i64 (j : Int))) hg); have Hs2 := Lib.hid hsc; have c0 := hsc.s; have c1 := hsc.i; have d1 := hsc.free 1; have c2 := hsc.e; clear hg hd hsc))
                    go_ret
                    rw [HI.out.two h1' h3' H6.out H7.out _ _ (by rw [HP8.out]; exact Hf2.out), if_pos (.inl hu2)]
                    exact ⟨HG3.out, rfl, Hsc.out, by decide⟩
                  · by_cases hu3 : 57343 < u
                    · have hx : True := trivial
                      go_wp2_with (first
                        | (have _ := w2; go_at_call 37; refine (rfail_any b j i 0 131 s _ Hs2.out).mono ?_; rintro e w3 ⟨rfl, hsc, hg⟩; have Hsc := Lib.hid hsc; have HG3 := Lib.hid (grown_trans Hg2.out hg); clear hsc hg)
                        | (have _ := w1; go_at_call 115; refine (rfour_any b j p8 s _ (Hs1.out.set j) hs H8.out).mono ?_; intro e1 w2 hd; obtain ⟨rfl, hsc, hg⟩ := hd.ok Hf2.out; have Hg2 := Lib.hid (grown_trans (grown_set Hg.out (.inl rfl) 1 (.int .i64 (j : Int))) hg); have Hs2 := Lib.hid hsc; have c0 := hsc.s; have c1 := hsc.i; have d1 := hsc.free 1; have c2 := hsc.e; clear hg hd hsc))
                      go_ret
                      rw [HI.out.two h1' h3' H6.out H7.out _ _ (by rw [HP8.out]; exact Hf2.out), if_pos (.inr hu3)]
                      exact ⟨HG3.out, rfl, Hsc.out, by decide⟩
                    · have hV : 65536 + 1024 * (v - 55296) + u - 56320 = 65536 + (v - 55296) * 1024 + (u - 56320) := by omega
                      go_wp2_with (first
                        | (have _ := w2; go_at_call 116; refine (rencoded_any (65536 + (v - 55296) * 1024 + (u - 56320)) _ (by omega) (by omega) (by omega)).mono ?_; rintro e w3 ⟨rfl, hrow, hg⟩; have Hrow := Lib.hid hrow; have HG3 := Lib.hid hg; clear hrow hg)
                        | (have _ := w1; go_at_call 115; refine (rfour_any b j p8 s _ (Hs1.out.set j) hs H8.out).mono ?_; intro e1 w2 hd; obtain ⟨rfl, hsc, hg⟩ := hd.ok Hf2.out; have Hg2 := Lib.hid (grown_trans (grown_set Hg.out (.inl rfl) 1 (.int .i64 (j : Int))) hg); have Hs2 := Lib.hid hsc; have c0 := hsc.s; have c1 := hsc.i; have d1 := hsc.free 1; have c2 := hsc.e; clear hg hd hsc))
                      go_ret
                      rw [HI.out.two h1' h3' H6.out H7.out _ _ (by rw [HP8.out]; exact Hf2.out), if_neg (by omega)]
                      have hg1 := grown_set Hg2.out (.inl rfl) 1 (.int .i64 (k : Int))
                      exact ⟨grown_trans hg1 (grown_none HG3.out _), ⟨_, hg1.size, ret_sl (by simp), Hrow.out⟩, (Hs2.out.set k).grown HG3.out (by simp)⟩
              · have H5 : Hid (56319 < v ∨ ch s j ≠ 92 ∨ ch s (j + 1) ≠ 117) := Lib.hid (.inr (.inr (by rw [HP7.out]; exact h7)))
                have hb7 : (ch s p7 != 117) = true := by simpa using h7
                rw [h6] at hc6
                clear h6 h7
                go_wp2_with (first
                  | (have _ := w1; go_at_call 37; refine (rfail_any b j i 0 131 s _ (Hs1.out.set j)).mono ?_; rintro e w2 ⟨rfl, hsc, hg⟩; have Hsc := Lib.hid hsc; have HG2 := Lib.hid (grown_trans (grown_set Hg.out (.inl rfl) 1 (.int .i64 (j : Int))) hg); clear hsc hg))
                go_ret
                rw [HI.out.half h1' h2' H5.out]
                exact ⟨HG2.out, rfl, Hsc.out, by decide⟩
            · have H5 : Hid (56319 < v ∨ ch s j ≠ 92 ∨ ch s (j + 1) ≠ 117) := Lib.hid (.inr (.inl h6))
              have hb6 : (ch s j != 92) = true := by simpa using h6
              clear h6
              go_wp2_with (first
                | (have _ := w1; go_at_call 37; refine (rfail_any b j i 0 131 s _ (Hs1.out.set j)).mono ?_; rintro e w2 ⟨rfl, hsc, hg⟩; have Hsc := Lib.hid hsc; have HG2 := Lib.hid (grown_trans (grown_set Hg.out (.inl rfl) 1 (.int .i64 (j : Int))) hg); clear hsc hg))
              go_ret
              rw [HI.out.half h1' h2' H5.out]
              exact ⟨HG2.out, rfl, Hsc.out, by decide⟩
          · have h4' : ¬ (p7 : Int) < (s.size : Int) := by omega
            have h4'' : (s.size : Int) ≤ (p7 : Int) := by omega
            have H5 : Hid (56319 < v ∨ ch s j ≠ 92 ∨ ch s (j + 1) ≠ 117) := Lib.hid (.inr (.inr (by rw [ch_out (by omega)]; decide)))
            go_wp2_with (first
              | (have _ := w1; go_at_call 37; refine (rfail_any b j i 0 131 s _ (Hs1.out.set j)).mono ?_; rintro e w2 ⟨rfl, hsc, hg⟩; have Hsc := Lib.hid hsc; have HG2 := Lib.hid (grown_trans (grown_set Hg.out (.inl rfl) 1 (.int .i64 (j : Int))) hg); clear hsc hg))
            go_ret
            rw [HI.out.half h1' h2' H5.out]
            exact ⟨HG2.out, rfl, Hsc.out, by decide⟩
end Go.Proofs.YtlbilofnbhhmjaaDoor
