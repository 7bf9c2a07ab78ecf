/- The reference's reader: a text. -/
import Derived.Test.YtlbilofnbhhmjaaDoorRSmall
import Derived.Test.YtlbilofnbhhmjaaDoorRWhole
import Derived.Test.YtlbilofnbhhmjaaDoorText
import Derived.Test.YtlbilofnbhhmjaaDoorShape
namespace Go.Proofs.YtlbilofnbhhmjaaDoor
open Go.RowKit
set_option linter.unusedVariables false
set_option linter.unusedSimpArgs false
/-- No text. -/
def noText (v : Value) : Prop := v = .string ⟨#[]⟩
theorem rwhole_same (i : Nat) (s : ByteArray) (w : World) (hs : s.size ≤ 1099511627776) (hi : i < s.size) :
    Calls Tryd.prog 23 #[.string s, .int .i64 i] w fun e w' => e = .returned (.int .i64 (wholeAt s i : Nat)) ∧ w' = w := (rwhole_any i s w hs hi).mono fun e w' ⟨h1, h2⟩ => ⟨h1, h2.symm⟩
set_option maxHeartbeats 6400000 in
set_option maxRecDepth 100000 in
theorem rtext_any (b i : Nat) (s : ByteArray) (w : World) (hr : Sc w b s i 0) (hs : s.size ≤ 1073741824) (hi : i < s.size) :
    Calls Tryd.prog 55 #[.pointer (some ⟨b, 0, none⟩)] w (RDoes (text s i) (fun l => .string (str l)) noText b s w) := by
  obtain ⟨RES, hR⟩ : ∃ r, text s i = r := ⟨_, rfl⟩
  rw [hR]
  have HR := Lib.hid hR
  have Hr := Lib.hid hr
  have c1 := hr.i
  have d1 := hr.free 1
  have HB : Hid (b < w.heap.size) := Lib.hid hr.lt
  clear hR hr
  go_enter Tryd.func55, Tryd.ntmps55
  go_wp2_with fail
  have HG0 : Hid (w.grownBy (w.setCell ⟨b, 1, none⟩ (.int .i64 ((i + 1 : Nat) : Int))) (some b)) := Lib.hid (grown_set (grown_refl _ _) (.inl rfl) _ _)
  have HR0 := Lib.hid (Hr.out.set (i + 1))
  have e1 : (i : Int) + 1 = ((i + 1 : Nat) : Int) := by omega
  rw [e1]
  clear e1
  go_loopg [3] (s.size - (i + 1)) (fun d v wr => ∃ (f k : Nat) (acc : List Int), k ≤ s.size ∧ d = s.size - k ∧ s.size + 1 ≤ f + k ∧ Hid (textN s f k acc = RES) ∧ Hid (Sc wr b s k 0) ∧ Hid (Own wr w.heap.size v acc) ∧ Hid (acc.length ≤ 4 * k) ∧ Hid (w.grownBy wr (some b)))
  case atStart => exact ⟨s.size + 1, i + 1, [], by omega, rfl, by omega, HR, HR0, Lib.hid (own_nil _ _), Lib.hid (by simp), HG0⟩
  case round =>
    clear HR HR0 HG0 c1 d1
    obtain ⟨f, k, acc, hk, rfl, hf, Hw, Hrd, Ho, Hl, HG⟩ := hrel
    have c0 := Hrd.out.s
    have c1 := Hrd.out.i
    obtain ⟨f, rfl⟩ : ∃ g, f = g + 1 := ⟨f - 1, by omega⟩
    have HI : Hid (TextIs s f k acc RES) := Lib.hid (by rw [← Hw.out]; exact textIs s f k acc)
    clear Hw
    have HBW : Hid (w.heap.size ≤ wr.heap.size) := Lib.hid HG.out.size
    have HOB : Hid (u3.ownBlock = none ∨ u3.ownBlock ≠ some b) := Lib.hid (by
      cases hob : u3.ownBlock with
      | none => exact .inl rfl
      | some g => right; intro e; have := (Ho.out.block g hob).1; have := HB.out; have := Option.some.inj e; omega)
    by_cases hks : k = s.size
    · subst hks
      have hkk : (((s.size : Nat) : Int) == ((s.size : Nat) : Int)) = true := by simp
      go_wp2_with fail
      go_quiet (fail)
      have Hrd1 := Lib.hid (Hrd.out.drewN nq)
      have HG1 := Lib.hid (grown_drewN HG.out nq)
      generalize hw1 : wr.drewN nq = w1 at Hrd1 HG1
      clear hw1 c0 c1
      have c1 := Hrd1.out.i
      go_wp2_with (go_at_call 37; refine (rfail_any b s.size s.size 0 130 s w1 Hrd1.out).mono ?_; rintro e w2 ⟨rfl, hsc, hg⟩; have Hsc := Lib.hid hsc; have HG2 := Lib.hid hg; clear hsc hg)
      go_ret
      rw [HI.out.end_ (.inl (Nat.le_refl _))]
      exact ⟨grown_trans HG1.out HG2.out, ⟨_, rfl, rfl⟩, Hsc.out, by decide⟩
    · have hlt : k < s.size := by omega
      have hkk : ((k : Int) == ((s.size : Nat) : Int)) = false := by simp; omega
      obtain ⟨c, hcc⟩ : ∃ c, ch s k = c := ⟨_, rfl⟩
      have hcr := ch_range s k
      rw [hcc] at hcr
      have hc : (s[k].toNat : Int) = c := by rw [← ch_in hlt]; exact hcc
      have Hcc := Lib.hid hcc
      clear hcc hks
      go_wp2_with fail
      go_quiet (fail)
      have Hrd1 := Lib.hid (Hrd.out.drewN nq)
      have hG1 := grown_drewN (grown_refl wr (some b)) nq
      generalize hw1 : wr.drewN nq = w1 at Hrd1 hG1
      clear hw1 c0 c1
      have c0 := Hrd1.out.s
      have c1 := Hrd1.out.i
      go_wp2_with fail
      go_quiet (fail)
      have Hrd2 := Lib.hid (Hrd1.out.drewN nq)
      have HG2 : Hid (wr.grownBy (w1.drewN nq) (some b)) := Lib.hid (grown_drewN hG1 nq)
      generalize hw2 : w1.drewN nq = w2 at Hrd2 HG2
      clear hw2 c0 c1 hG1 Hrd1
      have c0 := Hrd2.out.s
      have c1 := Hrd2.out.i
      have d1 := Hrd2.out.free 1
      have HB2 : Hid (w.heap.size ≤ w2.heap.size) := Lib.hid (Nat.le_trans HBW.out HG2.out.size)
      by_cases h34 : c = 34
      · subst h34
        obtain ⟨A, cp, rfl, hA, hcp, hsrc, hbk⟩ := own_slice Ho.out
        have hconv : (convert 22 9 (.slice A acc.length cp)).run Tryd.prog (w2.setCell ⟨b, 1, none⟩ (.int .i64 ((k : Int) + 1))) = .ok (.string (strOfNums acc)) _ :=
          conv_src cp (hsrc.grown (grown_set HG2.out (.inl rfl) 1 (.int .i64 ((k : Int) + 1))) (fun h0 a ha e => by
            have := (hbk a ha).1; have := HB.out; have := Option.some.inj e; omega)) (fun h => (hA h).1)
        clear hA hcp hsrc hbk
        go_wp2_with fail
        go_ret
        rw [HI.out.quote hlt Hcc.out]
        exact ⟨grown_set (grown_trans HG.out HG2.out) (.inl rfl) _ _, rfl, Hrd2.out.set (k + 1)⟩
      have b34 : (c == 34) = false := by simpa using h34
      by_cases h32 : c < 32
      · go_wp2_with (go_at_call 37; refine (rfail_any b k k 0 130 s w2 Hrd2.out).mono ?_; rintro e w3 ⟨rfl, hsc, hg⟩; have Hsc := Lib.hid hsc; have HG3 := Lib.hid hg; clear hsc hg)
        go_ret
        rw [HI.out.end_ (.inr (by rw [Hcc.out]; exact h32))]
        exact ⟨grown_trans (grown_trans HG.out HG2.out) HG3.out, ⟨_, rfl, rfl⟩, Hsc.out, by decide⟩
      have h32' : decide (c < 32) = false := by simpa using h32
      have h32'' : 32 ≤ c := by omega
      clear h32
      by_cases h92 : c = 92
      · subst h92
        cases he : escape s k with
        | no j er =>
          have He := Lib.hid he
          clear he
          go_upto_region 15 with (go_at_call 76; refine (rescape_any b k s _ Hrd2.out (by omega) hlt).mono ?_; intro e w3 hd; obtain ⟨rfl, hsc, hne, hg⟩ := hd.no He.out; have Hg3 := Lib.hid hg; have Hsc := Lib.hid hsc; have ce := hsc.e; have bne : (er != 0) = true := (by simpa using hne); clear hg hd hsc)
          go_wp2_with fail
          go_ret
          rw [HI.out.escNo hlt Hcc.out _ _ He.out]
          exact ⟨grown_trans (grown_trans HG.out HG2.out) Hg3.out, ⟨_, rfl, rfl⟩, Hsc.out, hne⟩
        | ok v j =>
          obtain ⟨hj1, hj2, hv1, hv2, _⟩ := escape_ok hlt he
          have He := Lib.hid he
          have HIn := Lib.hid (HI.out.esc hlt Hcc.out v j he)
          clear he
          go_upto_region 15 with (go_at_call 76; refine (rescape_any b k s _ Hrd2.out (by omega) hlt).mono ?_; intro e w3 hd; obtain ⟨g, rfl, hgs, hrow, hsc, hg⟩ := hd.ok He.out; have Hg3 := Lib.hid hg; have Hsc := Lib.hid hsc; have Hrow := Lib.hid hrow; have ce := hsc.e; clear hg hd hsc hrow)
          have hel := (Lib.encodeRuneZ_length v).2
          go_wp2_with (refine wpList_append_bytes rfl (.tmp 67) (.tmp 68) rfl w.heap.size u3 acc (Lib.encodeRuneZ v) rfl ((Ho.out.grown HG2.out HOB.out).grown Hg3.out HOB.out) (some ⟨g, 0, none⟩) _ rfl (by intro h; cases h) (src_row Hrow.out) (by have := Hl.out; omega) (by have := HB2.out; have := Hg3.out.size; omega) ?_; intro v4 w4 ho4 hg4; simp only [Act.put, List.setIfInBounds_toArray, List.set_cons_zero, List.set_cons_succ]; have Ho4 := Lib.hid ho4; have Hg4 := Lib.hid hg4; clear ho4 hg4)
          go_roundg (s.size - j)
          case measure => omega
          case rel =>
            have hg5 : w.grownBy w4 (some b) := grown_own (grown_trans (grown_trans HG.out HG2.out) Hg3.out) Hg4.out (fun g hg => .inr (Ho.out.block g hg).1)
            exact ⟨f, j, _, hj2, rfl, by omega, Lib.hid HIn.out.symm, Lib.hid (Hsc.out.grown Hg4.out (fun e => by rcases HOB.out with h | h; (rw [h] at e; cases e); exact h e.symm)), Lib.hid Ho4.out, Lib.hid (by have := Hl.out; rw [List.length_append]; omega), Lib.hid hg5⟩
      · have b92 : (c == 92) = false := by simpa using h92
        have H34 : Hid (ch s k ≠ 34) := Lib.hid (by rw [Hcc.out]; exact h34)
        have H92 : Hid (ch s k ≠ 92) := Lib.hid (by rw [Hcc.out]; exact h92)
        have H32 : Hid (32 ≤ ch s k) := Lib.hid (by rw [Hcc.out]; exact h32'')
        clear h34 h92
        obtain ⟨n, hn⟩ : ∃ n, wholeAt s k = n := ⟨_, rfl⟩
        have hwh : ∀ W, Calls Tryd.prog 23 #[.string s, .int .i64 (k : Int)] W fun e w' => e = .returned (.int .i64 (n : Int)) ∧ w' = W := fun W => by
          have := rwhole_same k s W (by omega) hlt
          rwa [hn] at this
        have HWh := Lib.hid hwh
        clear hwh
        go_upto_region 18 with fail
        go_quiet ((go_at_call 23; exact Calls.quiet_of_same (HWh.out _)))
        have Hrd3 := Lib.hid (Hrd2.out.drewN nq)
        have HG3 : Hid (wr.grownBy (w2.drewN nq) (some b)) := Lib.hid (grown_drewN HG2.out nq)
        generalize hw3 : w2.drewN nq = w3 at Hrd3 HG3
        clear hw3 c0 c1 d1
        have c0 := Hrd3.out.s
        have c1 := Hrd3.out.i
        have HB3 : Hid (w.heap.size ≤ w3.heap.size) := Lib.hid (Nat.le_trans HBW.out HG3.out.size)
        by_cases hn0 : n = 0
        · subst hn0
          go_wp2_with (go_at_call 37; refine (rfail_any b k k 0 131 s w3 Hrd3.out).mono ?_; rintro e w4 ⟨rfl, hsc, hg⟩; have Hsc := Lib.hid hsc; have HG4 := Lib.hid hg; clear hsc hg)
          go_ret
          rw [HI.out.bad hlt H32.out H34.out H92.out hn]
          exact ⟨grown_trans (grown_trans HG.out HG3.out) HG4.out, ⟨_, rfl, rfl⟩, Hsc.out, by decide⟩
        · have bn : ((n : Int) == 0) = false := by simp; omega
          obtain ⟨_, _, _, hn4, hfit, _⟩ := runeAt_some hlt (by rw [hn]; exact hn0)
          rw [hn] at hn4 hfit
          have HIn := Lib.hid (HI.out.sign hlt H32.out H34.out H92.out (by rw [hn]; exact hn0))
          rw [hn] at HIn
          clear hn
          have hc3 : (k : Int) < (s.size : Int) := by omega
          obtain ⟨m, hm⟩ : ∃ m, k + n = m := ⟨_, rfl⟩
          have hnw : IntKind.i64.wrap ((k : Int) + (n : Int)) = (m : Int) := by rw [IntWalk.i64_in _ (by omega)]; omega
          have k1 : k ≤ m := by omega
          have k2 : m ≤ s.size := by omega
          have Hm := Lib.hid hm
          have hy : restAt (s.extract k m) 0 = bytesAt s k n := by
            unfold restAt bytesAt
            have hz : (s.extract k m).size = n := by simp; omega
            rw [hz, Nat.sub_zero]
            apply List.map_congr_left
            intro j hj
            have hj' : j < n := by simpa using hj
            rw [ch_in (by rw [hz]; omega), ch_in (by omega)]
            simp only [Nat.zero_add]
            congr 2
            exact ByteArray.getElem_extract _
          have Hy := Lib.hid hy
          have Hys : Hid ((s.extract k m).size = n) := Lib.hid (by simp; omega)
          clear hm hy
          go_upto_region 22 with fail
          refine wp_region_drawn_tail 16 (by kernel_rfl) (by kernel_rfl) ?_
          simp only [List.take_succ_cons, List.take_zero, List.drop_succ_cons, List.drop_zero]
          repeat (go_big_quiet_step (fail))
          refine wpQuiet_nil ?_
          rintro _ ⟨nq, rfl⟩
          have Hrd4 := Lib.hid (Hrd3.out.drewN nq)
          have HG4 : Hid (wr.grownBy (w3.drewN nq) (some b)) := Lib.hid (grown_drewN HG3.out nq)
          generalize hw4 : w3.drewN nq = w4 at Hrd4 HG4 ⊢
          have HB4 : Hid (w.heap.size ≤ w4.heap.size) := Lib.hid (Nat.le_trans HBW.out HG4.out.size)
          clear hw4 c0 c1
          refine wpList_append_str rfl (.tmp 87) (.tmp 102) rfl w.heap.size u3 acc rfl (Ho.out.grown HG4.out HOB.out) (s.extract k m) rfl (by have := Hl.out; have := Hys.out; omega) HB4.out ?_
          intro v5 w5 ho5 hg5
          simp only [Act.put, List.setIfInBounds_toArray, List.set_cons_zero, List.set_cons_succ]
          rw [Hy.out] at ho5
          have Ho5 := Lib.hid ho5
          have Hg5 := Lib.hid hg5
          have Hrd5 := Lib.hid (Hrd4.out.grown hg5 (fun e => by rcases HOB.out with h | h; (rw [h] at e; cases e); exact h e.symm))
          have c1 := Hrd5.out.i
          have d1 := Hrd5.out.free 1
          clear ho5 hg5
          go_wp2_with fail
          go_roundg (s.size - m)
          case measure => have := Hm.out; omega
          case rel =>
            have hg6 : w.grownBy w5 (some b) := grown_own (grown_trans HG.out HG4.out) Hg5.out (fun g hg => .inr (Ho.out.block g hg).1)
            have hle : (acc ++ bytesAt s k n).length ≤ 4 * m := by have := Hl.out; have := Hm.out; rw [List.length_append, bytesAt_length]; omega
            have hgs := grown_set hg6 (.inl rfl) 1 (.int .i64 (m : Int))
            have ho6 : Own (w5.setCell ⟨b, 1, none⟩ (.int .i64 (m : Int))) w.heap.size v5 (acc ++ bytesAt s k n) := Ho5.out.grown (grown_set (grown_refl w5 (some b)) (.inl rfl) 1 _) (by
              cases hob : v5.ownBlock with
              | none => exact .inl rfl
              | some g => right; intro e; have := (Ho5.out.block g hob).1; have := HB.out; have := Option.some.inj e; omega)
            exact ⟨f, m, _, by omega, rfl, by have := Hm.out; omega, Lib.hid (by have := HIn.out; rw [Hm.out] at this; exact this.symm), Lib.hid (Hrd5.out.set m), Lib.hid ho6, Lib.hid hle, Lib.hid hgs⟩
end Go.Proofs.YtlbilofnbhhmjaaDoor
