/- json's reader: text. -/
import Derived.Test.YtlbilofnbhhmjaaGreatDoorRead
import Derived.Test.YtlbilofnbhhmjaaGreatDoorUtf
import Derived.Test.YtlbilofnbhhmjaaGreatDoorLaws
import Derived.Test.YtlbilofnbhhmjaaGreatDoorShelf
import Derived.Lib.QuietBelow
namespace Go.Proofs.YtlbilofnbhhmjaaGreatDoor
open Go.RowKit
set_option linter.unusedVariables false
set_option linter.unusedSimpArgs false
theorem tabs_grown {w w' : World} {row : Option Nat} (h : Lib.Utf8Tabs 1 2 w) (hg : w.grownBy w' row) (h0 : some 1 ≠ row) (h1 : some 2 ≠ row) : Lib.Utf8Tabs 1 2 w' :=
  ⟨fun c hc => by have := h.1 c hc; rw [grown_cell hg (block_lt_of_cell this) h0]; exact this,
   fun i hi => ⟨by have := (h.2 i hi).1; rw [grown_cell hg (block_lt_of_cell this) h1]; exact this, by have := (h.2 i hi).2; rw [grown_cell hg (block_lt_of_cell this) h1]; exact this⟩⟩
theorem tabs_lt {w : World} (h : Lib.Utf8Tabs 1 2 w) : 2 < w.heap.size := block_lt_of_cell (h.2 0 (by omega)).1
theorem appendRune_any (base : Nat) (v : Value) (acc : List Int) (r : Int) (w : World) (hown : Own w base v acc) (h0 : 0 ≤ r) (h1 : r ≤ 1114111) (hl : acc.length ≤ 1099511627776) (hb : base ≤ w.heap.size) :
    Calls Tryz.prog 68 #[v, .int .i32 r] w fun e w' => ∃ v', e = .returned v' ∧ Own w' base v' (acc ++ Lib.encodeRuneZ r) ∧ w.grownBy w' v.ownBlock :=
  (Tryz.utf8_AppendRune_plain base v acc.length _ r (by omega) (by omega) w hown (by omega) hb).mono fun e w' ⟨v', he, ho, o, hg⟩ =>
    ⟨v', he, by unfold Own; rw [List.map_append, List.length_append, show (Lib.encodeRuneZ r).length = (Lib.runeCells r).length by simp [Lib.runeCells]]; exact ho, grown_trans (World.grownBy_alloc w o _) hg⟩
theorem decode_any (s : ByteArray) (k : Nat) (w : World) (hk : k < s.size) (hT : Lib.Utf8Tabs 1 2 w) :
    Calls Tryz.prog 70 #[.string (s.extract k s.size)] w fun e w' => e = .returned (.tuple #[.int .i32 ((Utf8.decode s k).1 : Nat), .int .i64 ((Utf8.decode s k).2 : Nat)]) ∧ Below w.heap.size w w' :=
  (Tryz.utf8_DecodeRuneInString (s.extract k s.size) w hT).mono fun e w' ⟨he, hb⟩ => by
    have hz : ¬ (s.extract k s.size).size = 0 := by rw [Lib.tail_size]; omega
    unfold Lib.decodeGo at he
    rw [if_neg hz, Lib.tail_decode, Nat.add_zero] at he
    exact ⟨he, hb⟩
theorem signOf_ok {s : ByteArray} {i j : Nat} {v : Int} (hi : i + 2 ≤ s.size) (h : signOf s i = .ok v j) : i + 2 < j ∧ j ≤ s.size ∧ 0 ≤ v ∧ v ≤ 1114111 ∧ ¬ (55296 ≤ v ∧ v ≤ 57343) := by
  cases hf : four s (i + 2) with
  | no k e => unfold signOf at h; rw [hf] at h; cases h
  | ok u k =>
    have his := signIs hf
    obtain ⟨h1, h2, h3, h4⟩ := four_ok hf
    have h2' := h2 hi
    by_cases h5 : u < 55296 ∨ 57343 < u
    · rw [his.plain h5] at h
      cases h
      exact ⟨by omega, by omega, h3, by omega, by omega⟩
    · by_cases h6 : 56319 < u ∨ ch s k ≠ 92 ∨ ch s (k + 1) ≠ 117
      · rw [his.half (by omega) (by omega) h6] at h; cases h
      · have h7 : ch s k = 92 := by omega
        have h8 : ch s (k + 1) = 117 := by omega
        have hlt := ch_pos (s := s) (i := k + 1) (by omega)
        cases hg : four s (k + 2) with
        | no m e => rw [his.bad (by omega) (by omega) h7 h8 _ _ hg] at h; cases h
        | ok x m =>
          obtain ⟨g1, g2, g3, g4⟩ := four_ok hg
          have g2' := g2 (by omega)
          rw [his.two (by omega) (by omega) h7 h8 _ _ hg] at h
          split at h
          · cases h
          · cases h
            exact ⟨by omega, by omega, by omega, by omega, by omega⟩
theorem escape_ok {s : ByteArray} {i j : Nat} {v : Int} (hi : i < s.size) (h : escape s i = .ok v j) : i + 1 < j ∧ j ≤ s.size ∧ 0 ≤ v ∧ v ≤ 1114111 ∧ ¬ (55296 ≤ v ∧ v ≤ 57343) := by
  have hr := ch_range s (i + 1)
  have hp := ch_pos (s := s) (i := i + 1)
  obtain ⟨c, hc⟩ : ∃ c, ch s (i + 1) = c := ⟨_, rfl⟩
  rw [hc] at hr hp
  unfold escape at h
  rw [hc] at h
  by_cases h117 : c = 117
  · subst h117
    have hlt := hp (by omega)
    simp at h
    obtain ⟨a, b⟩ := signOf_ok (by omega) h
    exact ⟨by omega, b⟩
  · have hne : c ≠ 0 → i + 1 < s.size := hp
    repeat' split at h
    all_goals first
      | (cases h; have := hne (by omega); refine ⟨by omega, by omega, by omega, by omega, by omega⟩)
      | (exfalso; omega)
      | cases h
/-- One round of a text's reading, way by way. -/
structure TextIs (s : ByteArray) (f k : Nat) (acc : List Int) (RES : R (List Int)) : Prop where
  end_ : (s.size ≤ k ∨ ch s k < 32) → RES = .no k 130
  quote : k < s.size → ch s k = 34 → RES = .ok acc (k + 1)
  esc : k < s.size → ch s k = 92 → ∀ v j, escape s k = .ok v j → RES = textN s f j (acc ++ Lib.encodeRuneZ v)
  escNo : k < s.size → ch s k = 92 → ∀ j e, escape s k = .no j e → RES = .no j e
  bad : k < s.size → 32 ≤ ch s k → ch s k ≠ 34 → ch s k ≠ 92 → wholeAt s k = 0 → RES = .no k 131
  sign : k < s.size → 32 ≤ ch s k → ch s k ≠ 34 → ch s k ≠ 92 → wholeAt s k ≠ 0 → RES = textN s f (k + wholeAt s k) (acc ++ bytesAt s k (wholeAt s k))
theorem textN_succ (s : ByteArray) (f i : Nat) (acc : List Int) : textN s (f + 1) i acc =
    if s.size ≤ i ∨ ch s i < 32 then .no i 130
    else if ch s i = 34 then .ok acc (i + 1)
    else if ch s i = 92 then match escape s i with
      | .ok v j => textN s f j (acc ++ Lib.encodeRuneZ v)
      | .no j e => .no j e
    else if (runeAt s i).2 = 0 then .no i 131
    else textN s f (i + (runeAt s i).2) (acc ++ Lib.encodeRuneZ (runeAt s i).1) := rfl
theorem textIs (s : ByteArray) (f k : Nat) (acc : List Int) : TextIs s f k acc (textN s (f + 1) k acc) := by
  refine ⟨fun h => ?_, fun h h1 => ?_, fun h h1 v j h2 => ?_, fun h h1 j e h2 => ?_, fun h h1 h2 h3 h4 => ?_, fun h h1 h2 h3 h4 => ?_⟩
  · rw [textN_succ]; rw [if_pos h]
  · rw [textN_succ]; rw [if_neg (by omega), if_pos h1]
  · rw [textN_succ]; rw [if_neg (by omega), if_neg (by omega), if_pos h1, h2]
  · rw [textN_succ]; rw [if_neg (by omega), if_neg (by omega), if_pos h1, h2]
  · obtain ⟨a, _⟩ := runeAt_none h h4
    rw [textN_succ]; rw [if_neg (by omega), if_neg h2, if_neg h3, a]; simp
  · obtain ⟨a, _, hp, _, _, _, he, _⟩ := runeAt_some h h4
    rw [textN_succ]; rw [if_neg (by omega), if_neg h2, if_neg h3, a]; simp only
    rw [if_neg h4, he]
set_option maxHeartbeats 6400000 in
set_option maxRecDepth 100000 in
theorem text_any (b i : Nat) (s : ByteArray) (w : World) (hr : Rd w b s i) (hs : s.size ≤ 1073741824) (hi : i < s.size) (hT : Lib.Utf8Tabs 1 2 w) (hb : 2 < b) :
    Calls Tryz.prog 44 #[.pointer (some ⟨b, 0, none⟩)] w (Does (text s i) (fun l => .string (str l)) b s w) := by
  obtain ⟨RES, hR⟩ : ∃ r, text s i = r := ⟨_, rfl⟩
  rw [hR]
  have HR := Lib.hid hR
  have Hr := Lib.hid hr
  have HT := Lib.hid hT
  have c1 := hr.i
  have d1 := hr.free 1
  have HB : Hid (b < w.heap.size) := Lib.hid hr.lt
  clear hR hr hT
  go_enter Tryz.func44, Tryz.ntmps44
  go_wp2_with fail
  have HG0 : Hid (w.grownBy (w.setCell ⟨b, 1, none⟩ (.int .i64 ((i + 1 : Nat) : Int))) (some b)) := Lib.hid (grown_set (grown_refl _ _) (.inl rfl) _ _)
  have HR0 := Lib.hid (Hr.out.set (i + 1))
  have e1 : (i : Int) + 1 = ((i + 1 : Nat) : Int) := by omega
  rw [e1]
  clear e1
  go_loopg [3] (s.size - (i + 1)) (fun d v wr => ∃ (f k : Nat) (acc : List Int), k ≤ s.size ∧ d = s.size - k ∧ s.size + 1 ≤ f + k ∧ Hid (textN s f k acc = RES) ∧ Hid (Rd wr b s k) ∧ Hid (Own wr w.heap.size v acc) ∧ Hid (acc.length ≤ 4 * k) ∧ Hid (w.grownBy wr (some b)))
  case atStart => exact ⟨s.size + 1, i + 1, [], by omega, rfl, by omega, HR, HR0, Lib.hid (own_nil _ _), Lib.hid (by simp), HG0⟩
  case round =>
    clear HR HR0 HG0 c1 d1
    obtain ⟨f, k, acc, hk, rfl, hf, Hw, Hrd, Ho, Hl, HG⟩ := hrel
    have c0 := Hrd.out.s
    have c1 := Hrd.out.i
    obtain ⟨f, rfl⟩ : ∃ g, f = g + 1 := ⟨f - 1, by omega⟩
    have HI : Hid (TextIs s f k acc RES) := Lib.hid (by rw [← Hw.out]; exact textIs s f k acc)
    clear Hw
    have HT1 : Hid (Lib.Utf8Tabs 1 2 wr) := Lib.hid (tabs_grown HT.out HG.out (by simp; omega) (by simp; omega))
    have HBW : Hid (w.heap.size ≤ wr.heap.size) := Lib.hid HG.out.size
    have HOB : Hid (u3.ownBlock = none ∨ u3.ownBlock ≠ some b) := Lib.hid (by
      cases hob : u3.ownBlock with
      | none => exact .inl rfl
      | some g => right; intro e; have := (Ho.out.block g hob).1; have := HB.out; have := Option.some.inj e; omega)
    by_cases hks : k = s.size
    · subst hks
      have hkk : (((s.size : Nat) : Int) == ((s.size : Nat) : Int)) = true := by simp
      go_wp2_with fail
      go_quiet (fail)
      have Hrd1 := Lib.hid (Hrd.out.drewN nq)
      have HG1 := Lib.hid (grown_drewN HG.out nq)
      generalize hw1 : wr.drewN nq = w1 at Hrd1 HG1
      clear hw1 c0 c1
      have c1 := Hrd1.out.i
      go_wp2_with (go_at_call 29; refine (fail_any _ 130 _).mono ?_; rintro e w2 ⟨rfl, rfl⟩)
      exact ⟨rfl, by rw [HI.out.end_ (.inl (Nat.le_refl _))]; exact ⟨HG1.out, rfl⟩⟩
    · have hlt : k < s.size := by omega
      have hkk : ((k : Int) == ((s.size : Nat) : Int)) = false := by simp; omega
      obtain ⟨c, hcc⟩ : ∃ c, ch s k = c := ⟨_, rfl⟩
      have hcr := ch_range s k
      rw [hcc] at hcr
      have hc : (s[k].toNat : Int) = c := by rw [← ch_in hlt]; exact hcc
      have Hcc := Lib.hid hcc
      clear hcc hks
      by_cases h32 : c < 32
      · go_wp2_with fail
        go_quiet (fail)
        have Hrd1 := Lib.hid (Hrd.out.drewN nq)
        have HG1 := Lib.hid (grown_drewN HG.out nq)
        generalize hw1 : wr.drewN nq = w1 at Hrd1 HG1
        clear hw1 c0 c1
        have c1 := Hrd1.out.i
        go_wp2_with (go_at_call 29; refine (fail_any _ 130 _).mono ?_; rintro e w2 ⟨rfl, rfl⟩)
        exact ⟨rfl, by rw [HI.out.end_ (.inr (by rw [Hcc.out]; exact h32))]; exact ⟨HG1.out, rfl⟩⟩
      · have h32' : decide (c < 32) = false := by simpa using h32
        have h32'' : 32 ≤ c := by omega
        clear h32
        go_wp2_with fail
        go_quiet (fail)
        have Hrd1 := Lib.hid (Hrd.out.drewN nq)
        have hG1 := grown_drewN (grown_refl wr (some b)) nq
        generalize hw1 : wr.drewN nq = w1 at Hrd1 hG1
        clear hw1 c0 c1
        have c0 := Hrd1.out.s
        have c1 := Hrd1.out.i
        go_wp2_with fail
        go_quiet (fail)
        have Hrd2 := Lib.hid (Hrd1.out.drewN nq)
        have HG2 : Hid (wr.grownBy (w1.drewN nq) (some b)) := Lib.hid (grown_drewN hG1 nq)
        generalize hw2 : w1.drewN nq = w2 at Hrd2 HG2
        clear hw2 c0 c1 hG1 Hrd1
        have c0 := Hrd2.out.s
        have c1 := Hrd2.out.i
        have d1 := Hrd2.out.free 1
        by_cases h34 : c = 34
        · subst h34
          obtain ⟨A, cp, rfl, hA, hcp, hsrc, hbk⟩ := own_slice Ho.out
          have hconv : (convert 41 9 (.slice A acc.length cp)).run Tryz.prog (w2.setCell ⟨b, 1, none⟩ (.int .i64 ((k : Int) + 1))) = .ok (.string (strOfNums acc)) _ :=
            conv_src cp (hsrc.grown (grown_set HG2.out (.inl rfl) 1 (.int .i64 ((k : Int) + 1))) (fun h0 a ha e => by
              have := (hbk a ha).1; have := HB.out; have := Option.some.inj e; omega)) (fun h => (hA h).1)
          clear hA hcp hsrc hbk
          go_wp2_with fail
          go_ret
          rw [HI.out.quote hlt Hcc.out]
          exact ⟨grown_set (grown_trans HG.out HG2.out) (.inl rfl) _ _, rfl, Hrd2.out.set (k + 1)⟩
        · by_cases h92 : c = 92
          · subst h92
            cases he : escape s k with
            | no j er =>
              have He := Lib.hid he
              clear he
              go_wp2_with (go_at_call 69; refine (escape_any b k s _ Hrd2.out (by omega) hlt).mono ?_; intro e w3 hd; obtain ⟨rfl, hg⟩ := hd.no He.out; have Hg3 := Lib.hid hg; clear hg hd)
              exact ⟨rfl, by rw [HI.out.escNo hlt Hcc.out _ _ He.out]; exact ⟨grown_trans (grown_trans HG.out HG2.out) Hg3.out, rfl⟩⟩
            | ok v j =>
              obtain ⟨hj1, hj2, hv1, hv2, _⟩ := escape_ok hlt he
              have He := Lib.hid he
              have HIn := Lib.hid (HI.out.esc hlt Hcc.out v j he)
              clear he
              go_wp2_with (first
                | (have _ := w3; go_at_call 68; refine (appendRune_any w.heap.size u3 acc v w3 ((Ho.out.grown HG2.out HOB.out).grown Hg3.out HOB.out) hv1 hv2 (by have := Hl.out; omega) (by have := HBW.out; have := HG2.out.size; have := Hg3.out.size; omega)).mono ?_; rintro e w4 ⟨v4, rfl, ho4, hg4⟩; have Ho4 := Lib.hid ho4; have Hg4 := Lib.hid hg4; clear ho4 hg4)
                | (go_at_call 69; refine (escape_any b k s _ Hrd2.out (by omega) hlt).mono ?_; intro e w3 hd; obtain ⟨rfl, hrd, hg⟩ := hd.ok He.out; have Hg3 := Lib.hid hg; have Hrd3 := Lib.hid hrd; clear hg hd hrd))
              go_roundg (s.size - j)
              case measure => omega
              case rel =>
                have hg5 : w.grownBy w4 (some b) := grown_own (grown_trans (grown_trans HG.out HG2.out) Hg3.out) Hg4.out (fun g hg => .inr (Ho.out.block g hg).1)
                exact ⟨f, j, _, hj2, rfl, by omega, Lib.hid HIn.out.symm, Lib.hid (Hrd3.out.grown Hg4.out (fun e => by rcases HOB.out with h | h; (rw [h] at e; cases e); exact h e.symm)), Lib.hid Ho4.out, Lib.hid (by have := Hl.out; have := (Lib.encodeRuneZ_length v).2; rw [List.length_append]; omega), Lib.hid hg5⟩
          · have b34 : (c == 34) = false := by simpa using h34
            have b92 : (c == 92) = false := by simpa using h92
            have H34 : Hid (ch s k ≠ 34) := Lib.hid (by rw [Hcc.out]; exact h34)
            have H92 : Hid (ch s k ≠ 92) := Lib.hid (by rw [Hcc.out]; exact h92)
            have H32 : Hid (32 ≤ ch s k) := Lib.hid (by rw [Hcc.out]; exact h32'')
            clear h34 h92
            have HT2 : Hid (Lib.Utf8Tabs 1 2 w2) := Lib.hid (tabs_grown HT1.out HG2.out (by simp; omega) (by simp; omega))
            obtain ⟨x, hx⟩ : ∃ x, (Utf8.decode s k).1 = x := ⟨_, rfl⟩
            obtain ⟨n, hn⟩ : ∃ n, (Utf8.decode s k).2 = n := ⟨_, rfl⟩
            have hdec : Hid (∀ wx, Below w2.heap.size w2 wx → Calls Tryz.prog 70 #[.string (s.extract k s.size)] wx fun e w' => e = .returned (.tuple #[.int .i32 (x : Int), .int .i64 (n : Int)]) ∧ Below wx.heap.size wx w') := Lib.hid (fun wx hb => by
              have h := decode_any s k wx hlt (tabs_grown HT2.out (grown_of_below hb none) (by simp) (by simp))
              rw [hx, hn] at h; exact h)
            go_upto_region 6 with fail
            have hc0 := fun d os => cell_regrown c0 d os
            have hc1 := fun d os => cell_regrown c1 d os
            by_cases hwz : wholeAt s k = 0
            · obtain ⟨_, hd⟩ := runeAt_none hlt hwz
              rw [hd] at hx hn
              simp only at hx hn
              subst hx hn
              refine wp_region_quiet_below (by kernel_rfl) (by kernel_rfl) ?_
              repeat (go_big_quiet_step ((go_at_call 70; exact Calls.regrown_of (hdec.out _ (below_regrown _ _ _)))))
              refine wpQuiet_nil ?_
              rintro _ ⟨p, rfl⟩
              have hbp := below_regrown w2 p.d p.os
              generalize hwz2 : Sort.grow (redrawn w2 p.d) p.os = w3 at hbp ⊢
              have Hrd3 := Lib.hid (Hrd2.out.grown (grown_of_below hbp none) (by simp))
              have HG3 : Hid (w.grownBy w3 (some b)) := Lib.hid (grown_trans (grown_trans HG.out HG2.out) (grown_of_below hbp _))
              clear hwz2 hbp hc0 hc1 c0 c1
              have c1 := Hrd3.out.i
              go_wp2_with (go_at_call 29; refine (fail_any _ 131 _).mono ?_; rintro e w4 ⟨rfl, rfl⟩)
              exact ⟨rfl, by rw [HI.out.bad hlt H32.out H34.out H92.out hwz]; exact ⟨HG3.out, rfl⟩⟩
            · obtain ⟨_, hd2, hp, h4, hfit, hxl, henc, hne, _⟩ := runeAt_some hlt hwz
              have HIn := Lib.hid (HI.out.sign hlt H32.out H34.out H92.out hwz)
              rw [hx] at hxl henc hne
              rw [hn] at hne hd2
              obtain ⟨m, hm⟩ : ∃ m, wholeAt s k = m := ⟨_, rfl⟩
              rw [hm] at hd2 hp h4 hfit henc HIn
              subst hd2
              have Henc := Lib.hid henc
              have hne' : ¬ ((x : Int) = 65533 ∧ (n : Int) < 2) := by omega
              clear hx hn hwz hne hm henc
              refine wp_region_quiet_below (by kernel_rfl) (by kernel_rfl) ?_
              repeat (go_big_quiet_step ((go_at_call 70; exact Calls.regrown_of (hdec.out _ (below_regrown _ _ _)))))
              refine wpQuiet_nil ?_
              rintro _ ⟨p, rfl⟩
              have hbp := below_regrown w2 p.d p.os
              generalize hwz2 : Sort.grow (redrawn w2 p.d) p.os = w3 at hbp ⊢
              have Hrd3 := Lib.hid (Hrd2.out.grown (grown_of_below hbp none) (by simp))
              have HG3 : Hid (wr.grownBy w3 (some b)) := Lib.hid (grown_trans HG2.out (grown_of_below hbp _))
              clear hwz2 hbp hc0 hc1 c0 c1
              by_cases h65 : (x : Int) = 65533
              · have h2n : ¬ (n : Int) < 2 := fun h => hne' ⟨h65, h⟩
                have hb65 : ((x : Int) == 65533) = true := by simpa using h65
                clear h65 hne'
                go_wp2_with (go_at_call 68; refine (appendRune_any w.heap.size u3 acc (x : Int) w3 (Ho.out.grown HG3.out HOB.out) (by omega) (by omega) (by have := Hl.out; omega) (by have := HBW.out; have := HG3.out.size; omega)).mono ?_; rintro e w4 ⟨v4, rfl, ho4, hg4⟩; have Ho4 := Lib.hid ho4; have Hg4 := Lib.hid hg4; have Hrd4 := Lib.hid (Hrd3.out.grown hg4 (fun e => by rcases HOB.out with h | h; (rw [h] at e; cases e); exact h e.symm)); have c1 := Hrd4.out.i; have d1 := Hrd4.out.free 1; clear ho4 hg4)
                go_roundg (s.size - (k + n))
                case measure => omega
                case rel =>
                  have hg5 : w.grownBy w4 (some b) := grown_own (grown_trans HG.out HG3.out) Hg4.out (fun g hg => .inr (Ho.out.block g hg).1)
                  have hle : (acc ++ Lib.encodeRuneZ (x : Int)).length ≤ 4 * (k + n) := by have := Hl.out; have := (Lib.encodeRuneZ_length (x : Int)).2; rw [List.length_append]; omega
                  have hgs := grown_set hg5 (.inl rfl) 1 (.int .i64 ((k + n : Nat) : Int))
                  have ho6 : Own (w4.setCell ⟨b, 1, none⟩ (.int .i64 ((k + n : Nat) : Int))) w.heap.size v4 (acc ++ Lib.encodeRuneZ (x : Int)) := Ho4.out.grown (grown_set (grown_refl w4 (some b)) (.inl rfl) 1 _) (by
                    cases hob : v4.ownBlock with
                    | none => exact .inl rfl
                    | some g => right; intro e; have := (Ho4.out.block g hob).1; have := HB.out; have := Option.some.inj e; omega)
                  exact ⟨f, k + n, _, by omega, rfl, by omega, Lib.hid (by rw [Henc.out]; exact HIn.out.symm), Lib.hid (Hrd4.out.set (k + n)), Lib.hid ho6, Lib.hid hle, Lib.hid hgs⟩
              · have hb65 : ((x : Int) == 65533) = false := by simpa using h65
                clear h65 hne'
                go_wp2_with (go_at_call 68; refine (appendRune_any w.heap.size u3 acc (x : Int) w3 (Ho.out.grown HG3.out HOB.out) (by omega) (by omega) (by have := Hl.out; omega) (by have := HBW.out; have := HG3.out.size; omega)).mono ?_; rintro e w4 ⟨v4, rfl, ho4, hg4⟩; have Ho4 := Lib.hid ho4; have Hg4 := Lib.hid hg4; have Hrd4 := Lib.hid (Hrd3.out.grown hg4 (fun e => by rcases HOB.out with h | h; (rw [h] at e; cases e); exact h e.symm)); have c1 := Hrd4.out.i; have d1 := Hrd4.out.free 1; clear ho4 hg4)
                go_roundg (s.size - (k + n))
                case measure => omega
                case rel =>
                  have hg5 : w.grownBy w4 (some b) := grown_own (grown_trans HG.out HG3.out) Hg4.out (fun g hg => .inr (Ho.out.block g hg).1)
                  have hle : (acc ++ Lib.encodeRuneZ (x : Int)).length ≤ 4 * (k + n) := by have := Hl.out; have := (Lib.encodeRuneZ_length (x : Int)).2; rw [List.length_append]; omega
                  have hgs := grown_set hg5 (.inl rfl) 1 (.int .i64 ((k + n : Nat) : Int))
                  have ho6 : Own (w4.setCell ⟨b, 1, none⟩ (.int .i64 ((k + n : Nat) : Int))) w.heap.size v4 (acc ++ Lib.encodeRuneZ (x : Int)) := Ho4.out.grown (grown_set (grown_refl w4 (some b)) (.inl rfl) 1 _) (by
                    cases hob : v4.ownBlock with
                    | none => exact .inl rfl
                    | some g => right; intro e; have := (Ho4.out.block g hob).1; have := HB.out; have := Option.some.inj e; omega)
                  exact ⟨f, k + n, _, by omega, rfl, by omega, Lib.hid (by rw [Henc.out]; exact HIn.out.symm), Lib.hid (Hrd4.out.set (k + n)), Lib.hid ho6, Lib.hid hle, Lib.hid hgs⟩
end Go.Proofs.YtlbilofnbhhmjaaGreatDoor
