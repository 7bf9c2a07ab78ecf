/- json's write: an object. json's write: a value's text. Conditions: the value is right (what check lets through); there is room. -/
import Derived.Test.YtlbilofnbhhmjaaGreatDoorSort
namespace Go.Proofs.YtlbilofnbhhmjaaGreatDoor
section
open Go.RowKit
set_option linter.unusedVariables false
set_option linter.unusedSimpArgs false
set_option maxHeartbeats 12800000 in
set_option maxRecDepth 100000 in
theorem write_object (w0 : World) (f : Nat) (IH : ∀ j, WIs w0 f j) (bb : Bool) (t : ByteArray) (ks : List ByteArray) (ls : List J) : WIs w0 (f + 1) (.mk 5 bb t ks ls) := by
  intro cs w v acc hj hr hb ho hsz
  unfold JR at hj
  obtain ⟨A, c, B, dd, rfl, hkc, hlc, hA, hB⟩ := hj
  unfold Right at hr
  obtain ⟨r1, r2, r3, r4, r5, r6⟩ := hr
  simp only [J.ls, J.ks, J.kd, J.bl, J.tx] at r1 r2 r5 r6
  obtain ⟨r5, r7⟩ : (∀ k ∈ ks, validB k = true) ∧ ks.Nodup := by simpa using r5
  have hlen : ks.length = ls.length := by
    simp [shapeV] at r1
    exact r1.1.1
  have hw : writeJ (f + 1) (.mk 5 bb t ks ls) = 123 :: (joinFrom 0 ((ordOf ks).map (membS (writeJ f) ks ls)) ++ [125]) := rfl
  rw [hw] at hsz ⊢
  obtain ⟨RES, hR⟩ : ∃ r, acc ++ 123 :: (joinFrom 0 ((ordOf ks).map (membS (writeJ f) ks ls)) ++ [125]) = r := ⟨_, rfl⟩
  have hRl : acc.length + (123 :: (joinFrom 0 ((ordOf ks).map (membS (writeJ f) ks ls)) ++ [125])).length = RES.length := by rw [← hR, List.length_append]
  rw [hR]
  obtain ⟨X, hX⟩ : ∃ x, (123 :: (joinFrom 0 ((ordOf ks).map (membS (writeJ f) ks ls)) ++ [125])).length = x := ⟨_, rfl⟩
  rw [hX] at hsz hRl
  have hX1 : 2 ≤ X := by rw [← hX]; simp
  have HI0 : Hid ((acc ++ [123]) ++ (joinFrom 0 (((ordOf ks).drop 0).map (membS (writeJ f) ks ls)) ++ [125]) = RES) := Lib.hid (by rw [← hR]; simp)
  have IH := Lib.hid IH
  have Ho := Lib.hid ho
  have Hb := Lib.hid hb
  have HA := Lib.hid hA
  have HB := Lib.hid hB
  have HRt := Lib.hid r6
  have HVk := Lib.hid r5
  have HNd := Lib.hid r7
  have hbs := hb.size
  have hn256 : ks.length ≤ 256 := by omega
  have Hlen := Lib.hid hlen
  clear hlen r2 hA hB r1 r3 r4 r5 r6 r7 hkc hlc ho hb hw hR hX
  go_enter Tryz.func31, Tryz.ntmps31
  go_upto_region 1 with (refine wpList_box_abs rfl 26 (.tmp 1) rfl [.int .i8 5, .bool bb, .string t, .slice A ks.length c, .slice B ls.length dd] rfl ?_; intro w1 hr1 hg1 hs1; simp only [Act.put, List.setIfInBounds_toArray, List.set_cons_zero, List.set_cons_succ])
  obtain ⟨CS, hCS⟩ : ∃ x, [Value.int .i8 5, .bool bb, .string t, .slice A ks.length c, .slice B ls.length dd] = x := ⟨_, rfl⟩
  rw [hCS] at hr1
  have HCS := Lib.hid hCS
  have HBx1 := Lib.hid hr1
  have HK1 := Lib.hid (kp_grown (base := w0.heap.size) hg1)
  have Ho1 := Lib.hid (own_none_grown Ho.out hg1)
  have ck : w1.cell? ⟨w.heap.size, 0, none⟩ = some (.int .i8 5) := hr1.at_ (by rw [← hCS]; rfl)
  have ck3 : w1.cell? ⟨w.heap.size, 3, none⟩ = some (.slice A ks.length c) := hr1.at_ (by rw [← hCS]; rfl)
  have hgs := hg1.size
  have HBl : Hid (w.heap.size < w1.heap.size) := Lib.hid (by omega)
  obtain ⟨Bb, hBb⟩ : ∃ x, w.heap.size = x := ⟨_, rfl⟩
  have hwb : w.heap.size ≤ Bb := by omega
  rw [hBb] at HBx1 ck ck3 HBl ⊢
  have HBb := Lib.hid hBb
  clear hr1 hg1 hs1 hCS hBb
  go_upto_region 21 with (first
    | (have _ := w2; refine wpList_alloc_abs rfl 86 rfl [.slice none 0 0] _ (zero37 _) rfl ?_; intro w3 hr3 hg3 hs3; clear hs3; have cc3 := hr3.at_ (j := 0) rfl; have dc3 := hr3.frozen 0; simp only [Act.put, List.setIfInBounds_toArray, List.set_cons_zero, List.set_cons_succ])
    | (refine wpList_make37 rfl (.tmp 62) (.tmp 62) rfl ks.length rfl rfl (by omega) ?_; intro w2 hr2 hg2 hs2; clear hs2; simp only [Act.put, List.setIfInBounds_toArray, List.set_cons_zero, List.set_cons_succ]))
  obtain ⟨blk, hblk⟩ : ∃ x, w1.heap.size = x := ⟨_, rfl⟩
  obtain ⟨Bo, hBo⟩ : ∃ x, w2.heap.size = x := ⟨_, rfl⟩
  rw [hblk] at hr2 ⊢
  rw [hBo] at hr3 ⊢
  have h12 : Bb < blk := by have := HBl.out; omega
  have h23 : blk < Bo := by have := hr2.lt; omega
  obtain ⟨w4, hw4⟩ : ∃ x, w3.setCell ⟨Bo, 0, none⟩ (.slice (some ⟨blk, 0, none⟩) ks.length ks.length) = x := ⟨_, rfl⟩
  have hg4 : w3.grownBy w4 (some Bo) := by rw [← hw4]; exact grown_set (grown_refl _ _) (.inl rfl) 0 _
  have HBo := Lib.hid (show Row w4 Bo 86 [.slice (some ⟨blk, 0, none⟩) ks.length ks.length] by rw [← hw4]; exact hr3.set 0 _)
  have HPl := Lib.hid (show Row w4 blk 3 (places (List.range 0) ++ List.replicate (ks.length - 0) (Value.int .i64 0)) from (hr2.grown hg3 (by simp)).grown hg4 (by simp; omega))
  have HBx4 := Lib.hid (show Row w4 Bb 26 CS from ((HBx1.out.grown hg2 (by simp)).grown hg3 (by simp)).grown hg4 (by simp; omega))
  have HK4 := Lib.hid (show Kp w0.heap.size w w4 from ((HK1.out.grown hg2).grown hg3).new hg4 (by omega))
  have Ho4 := Lib.hid (show Own w4 w0.heap.size v acc from (own_none_grown (own_none_grown Ho1.out hg2) hg3).grown hg4 (by
    rcases hq : v.ownBlock with _ | b
    · exact .inl rfl
    · have := (Ho1.out.block b hq).2
      exact .inr (by simp; omega)))
  rw [hw4]
  have Hbk := Lib.hid h12
  have Hko := Lib.hid h23
  have Hwb := Lib.hid hwb
  have c4 := HBo.out.at_ (j := 0) rfl
  clear hr2 hr3 hg2 hg3 hg4 hw4 hblk hBo cc3 dc3 ck ck3 h12 h23 hwb hgs HBx1 HK1 Ho1 HBl HBb
  go_upto_region 22 with fail
  clear c4
  go_loopw [66] (fun i' wr => ∃ i : Nat, i ≤ ks.length ∧ i' = .int .i64 (i : Int) ∧ Hid (Row wr Bo 86 [.slice (some ⟨blk, 0, none⟩) ks.length ks.length]) ∧ Hid (Row wr blk 3 (places (List.range i) ++ List.replicate (ks.length - i) (Value.int .i64 0))) ∧ Hid (Row wr Bb 26 CS) ∧ Hid (Kp w0.heap.size w wr) ∧ Hid (Own wr w0.heap.size v acc)) (fun i' _ => ks.length - (intOf i').toNat)
  case atStart => exact ⟨0, by omega, rfl, HBo, HPl, HBx4, HK4, Ho4⟩
  case round =>
    obtain ⟨i, hi, rfl, HBo', HPl', HBr, HKr, Hor⟩ := hrel
    clear HBo HPl HBx4 HK4 Ho4
    have c4 := HBo'.out.at_ (j := 0) rfl
    by_cases hlt : i < ks.length
    · have cc := HPl'.out.at_ (j := i) (v := (places (List.range i) ++ List.replicate (ks.length - i) (Value.int .i64 0))[i]'(by simp [places]; omega)) (List.getElem?_eq_getElem _)
      have dc := HPl'.out.frozen i
      go_wp2_with fail
      have hgr : wr.grownBy (wr.setCell ⟨blk, i, none⟩ (.int .i64 (i : Int))) (some blk) := grown_set (grown_refl _ _) (.inl rfl) i _
      go_roundw
      case rel =>
        refine ⟨i + 1, by omega, by go_num, Lib.hid (HBo'.out.grown hgr (by have := Hko.out; simp; omega)), Lib.hid ?_, Lib.hid (HBr.out.grown hgr (by have := Hbk.out; simp; omega)), Lib.hid (HKr.out.new hgr (by have := Hbk.out; have := Hwb.out; omega)), Lib.hid (Hor.out.grown hgr ?_)⟩
        · have := HPl'.out.set i (.int .i64 (i : Int))
          rw [places_set _ _ hlt] at this
          exact this
        · rcases hq : v.ownBlock with _ | b
          · exact .inl rfl
          · have := (Ho.out.block b hq).2
            have := Hbk.out
            have := Hwb.out
            exact .inr (by simp; omega)
      case measure => simp [intOf]; omega
    · obtain rfl : i = ks.length := by omega
      have HPn : Hid (Row wr blk 3 (places (List.range ks.length))) := Lib.hid (by have := HPl'.out; rwa [places_full] at this)
      clear hlt HPl'
      have hq0 : ∀ a, 0 < ks.length → A = some a → a.block ≠ blk := fun a h0 e => by
        obtain ⟨ab, ao, hA, hc⟩ := HA.out h0
        rw [hA] at e
        obtain rfl := Option.some.inj e
        have := block_lt_of_cell (hc 0 _ (List.getElem?_eq_getElem h0))
        have h1 := Hbk.out
        have h2 := Hwb.out
        simp only at this ⊢
        omega
      have hsa : Hid (StrAt wr A ks) := Lib.hid (HA.out.below (kp_below Hb.out HKr.out))
      have HQ0 := Lib.hid hq0
      clear hq0
      go_upto_region 27 with (go_at_call 50; refine (sort_all ks HNd.out Bb Bo blk A c ks.length wr (by omega) HPn.out (HBr.out.at_ (by rw [← HCS.out]; rfl)) c4 hsa.out HQ0.out (by have := Hbk.out; omega) (by have := Hko.out; omega)).mono ?_; rintro e w5 ⟨rfl, hr5, hg5⟩)
      have HP5 := Lib.hid hr5
      have HBo5 := Lib.hid (HBo'.out.grown hg5 (by have := Hko.out; simp; omega))
      have HB5 := Lib.hid (HBr.out.grown hg5 (by have := Hbk.out; simp; omega))
      have HK5 := Lib.hid (HKr.out.new hg5 (by have := Hbk.out; have := Hwb.out; omega))
      have Ho5 := Lib.hid (Hor.out.grown hg5 (by
        rcases hq : v.ownBlock with _ | b
        · exact .inl rfl
        · have := (Ho.out.block b hq).2
          have := Hbk.out
          have := Hwb.out
          exact .inr (by simp; omega)))
      have hs5 := HK5.out.size
      clear hr5 hg5 c4 HPn hsa HQ0 HBo' HBr HKr Hor
      go_upto_region 28 with (first
        | (have _ := w6; refine wpList_append_bytes rfl (.tmp 78) (.tmp 79) rfl w0.heap.size v acc [123] rfl (own_none_grown Ho5.out hg6) (some ⟨w5.heap.size, 0, none⟩) 1 rfl (by intro h; cases h) (src_build hr6) (by simp; omega) (by have := hg6.size; omega) ?_; intro v7 w7 ho7 hg7; simp only [Act.put, List.setIfInBounds_toArray, List.set_cons_zero, List.set_cons_succ]
           have Ho7 := Lib.hid ho7; have HKx : Hid (Kp w0.heap.size w5 w7) := Lib.hid ((kp_grown (base := w0.heap.size) hg6).own (own_none_grown Ho5.out hg6) hg7); clear ho7 hg7 hr6 hg6)
        | (refine wpList_build1 rfl 41 5 (.const (.int .u8 123)) rfl Tryz.underlying41 (.int .u8 123) rfl _ info5 (by kernel_rfl) (.int .u8 0) (by kernel_rfl) rfl rfl ?_; intro w6 hr6 hg6 hs6; clear hs6; simp only [Act.put, List.setIfInBounds_toArray, List.set_cons_zero, List.set_cons_succ]))
      have HK7 := Lib.hid (HK5.out.trans HKx.out)
      have HP7 := Lib.hid (HKx.out.row HP5.out (by decide))
      have HBo7 := Lib.hid (HKx.out.row HBo5.out (by decide))
      have HB7 := Lib.hid (HKx.out.row HB5.out (by decide))
      have c7 := HBo7.out.at_ (j := 0) rfl
      clear HKx HK5 HP5 HBo5 HB5 Ho5 hs5
      go_upto_region 29 with fail
      clear c7 HBo7
      go_loopw [0, 83] (fun v' i' wr => ∃ (i : Nat) (acc' : List Int), i ≤ ks.length ∧ i' = .int .i64 (i : Int) ∧ Hid (Own wr w0.heap.size v' acc') ∧ Hid (Kp w0.heap.size w wr) ∧ Hid (Row wr Bb 26 CS) ∧ Hid (Row wr blk 3 (places (ordOf ks))) ∧ Hid (acc.length ≤ acc'.length) ∧ Hid (acc' ++ (joinFrom i (((ordOf ks).drop i).map (membS (writeJ f) ks ls)) ++ [125]) = RES)) (fun _ i' _ => ks.length - (intOf i').toNat)
      case atStart => exact ⟨0, acc ++ [123], by omega, rfl, Ho7, HK7, HB7, HP7, Lib.hid (by simp), HI0⟩
      case round =>
        obtain ⟨i, acc', hi, rfl, Hor, HKr, HBr, HPr, HL, HI⟩ := hrel
        clear HI0 Ho7 HK7 HB7 HP7
        by_cases hlt : i < ks.length
        · have hol := ordOf_length ks
          obtain ⟨o, hoo⟩ : ∃ o, (ordOf ks)[i]? = some o := ⟨_, List.getElem?_eq_getElem (by omega)⟩
          have hok : o < ks.length := ordOf_lt (List.mem_of_getElem? hoo)
          have hol' : o < ls.length := by have := Hlen.out; omega
          have co : wr.cell? ⟨blk, i, none⟩ = some (.int .i64 (o : Int)) := HPr.out.at_ (by unfold places; rw [List.getElem?_map, hoo]; rfl)
          obtain ⟨key, hkey⟩ : ∃ key, ks[o]? = some key := ⟨_, List.getElem?_eq_getElem hok⟩
          obtain ⟨jv, hjv⟩ : ∃ jv, ls[o]? = some jv := ⟨_, List.getElem?_eq_getElem hol'⟩
          obtain ⟨ab, ao, rfl, hac⟩ := HA.out (by omega)
          obtain ⟨b, fo, cj, rfl, hJ, hcell⟩ := HB.out.get hjv
          obtain ⟨p0, p1, p2, p3, p4, rfl⟩ := five_of hJ.five
          have HJ := Lib.hid hJ
          have HC0 : Hid (∀ W, Below w0.heap.size w0 W → W.cell? ⟨ab, ao + o, none⟩ = some (.string key)) := Lib.hid (fun W hW => below_cell hW (hac o key hkey))
          have HC1 : Hid (∀ W, Below w0.heap.size w0 W → W.cell? ⟨b, fo + o * 5, none⟩ = some p0 ∧ W.cell? ⟨b, fo + o * 5 + 1, none⟩ = some p1 ∧ W.cell? ⟨b, fo + o * 5 + 2, none⟩ = some p2 ∧ W.cell? ⟨b, fo + o * 5 + 3, none⟩ = some p3 ∧ W.cell? ⟨b, fo + o * 5 + 4, none⟩ = some p4) := Lib.hid (fun W hW => ⟨
            by have := below_cell hW (hcell 0 _ rfl); rwa [show fo + (0 + o * 5 + 0) = fo + o * 5 by omega] at this,
            by have := below_cell hW (hcell 1 _ rfl); rwa [show fo + (0 + o * 5 + 1) = fo + o * 5 + 1 by omega] at this,
            by have := below_cell hW (hcell 2 _ rfl); rwa [show fo + (0 + o * 5 + 2) = fo + o * 5 + 2 by omega] at this,
            by have := below_cell hW (hcell 3 _ rfl); rwa [show fo + (0 + o * 5 + 3) = fo + o * 5 + 3 by omega] at this,
            by have := below_cell hW (hcell 4 _ rfl); rwa [show fo + (0 + o * 5 + 4) = fo + o * 5 + 4 by omega] at this⟩)
          have HRj := Lib.hid (HRt.out jv (List.mem_of_getElem? hjv))
          have HVj := Lib.hid (valid_utf (HVk.out key (List.mem_of_getElem? hkey)))
          have hdrop : (ordOf ks).drop i = o :: (ordOf ks).drop (i + 1) := by
            rw [List.drop_eq_getElem_cons (by omega)]
            rw [List.getElem?_eq_getElem (by omega)] at hoo
            rw [Option.some.inj hoo]
          have hI := HI.out
          have hM : membS (writeJ f) ks ls o = quoteS key ++ (58 :: writeJ f jv) := by unfold membS; rw [List.getD_eq_getElem?_getD, List.getD_eq_getElem?_getD, hkey, hjv]; rfl
          rw [hdrop, List.map_cons, joinFrom_cons, hM] at hI
          obtain ⟨REST, hREST⟩ : ∃ r, joinFrom (i + 1) (((ordOf ks).drop (i + 1)).map (membS (writeJ f) ks ls)) = r := ⟨_, rfl⟩
          rw [hREST] at hI
          have HREST := Lib.hid hREST
          have hqs := quoteS_len key
          have hlen : acc'.length + (if 0 < i then [44] else ([] : List Int)).length + (quoteS key).length + (writeJ f jv).length + REST.length + 2 = RES.length := by rw [← hI]; simp only [List.length_append, List.length_cons, List.length_nil]; omega
          have HI2 := Lib.hid hI
          have e3 : (o : Int) < (ks.length : Int) := by omega
          have e4 : (o : Int) < (ls.length : Int) := by omega
          clear hJ hcell hac hjv hkey hdrop hoo HI hI hREST hM hol
          go_upto_region 31 with fail
          clear co
          have hl := HL.out
          have hsr := HKr.out.size
          by_cases h0 : 0 < i
          · have d0 : decide ((0 : Int) < (i : Int)) = true := by simpa using h0
            rw [if_pos h0] at hlen
            simp only [List.length_cons, List.length_nil] at hlen
            have hI2 := HI2.out
            rw [if_pos h0] at hI2
            have HI3 : Hid ((((acc' ++ [44]) ++ quoteS key) ++ [58]) ++ writeJ f jv ++ (REST ++ [125]) = RES) := Lib.hid (by rw [← hI2]; simp)
            clear HI2 hI2
            go_upto_region 33 with (first
              | (have _ := w8; refine wpList_append_bytes rfl (.tmp 90) (.tmp 91) rfl w0.heap.size u0 acc' [44] rfl (own_none_grown Hor.out hg8) (some ⟨wr.heap.size, 0, none⟩) 1 rfl (by intro h; cases h) (src_build hr8) (by simp; omega) (by have := hg8.size; omega) ?_; intro v9 w9 ho9 hg9; simp only [Act.put, List.setIfInBounds_toArray, List.set_cons_zero, List.set_cons_succ]
                 have Ho9 := Lib.hid ho9; have HKx : Hid (Kp w0.heap.size wr w9) := Lib.hid ((kp_grown (base := w0.heap.size) hg8).own (own_none_grown Hor.out hg8) hg9); clear ho9 hg9 hr8 hg8)
              | (refine wpList_build1 rfl 41 5 (.const (.int .u8 44)) rfl Tryz.underlying41 (.int .u8 44) rfl _ info5 (by kernel_rfl) (.int .u8 0) (by kernel_rfl) rfl rfl ?_; intro w8 hr8 hg8 hs8; clear hs8; simp only [Act.put, List.setIfInBounds_toArray, List.set_cons_zero, List.set_cons_succ]))
            have HK9 := Lib.hid (HKr.out.trans HKx.out)
            have HB9 := Lib.hid (HKx.out.row HBr.out (by decide))
            have HP9 := Lib.hid (HKx.out.row HPr.out (by decide))
            clear HKx HKr HBr HPr Hor
            have ck3 := HB9.out.at_ (j := 3) (v := .slice (some ⟨ab, ao, none⟩) ks.length c) (by rw [← HCS.out]; rfl)
            have ckey := HC0.out w9 (kp_below Hb.out HK9.out)
            have hsw := HK9.out.size
            go_upto_region 34 with (first
              | (go_at_call 49; refine (quote_any w0.heap.size v9 (acc' ++ [44]) key w9 Ho9.out (by omega) HVj.out (by (try simp); omega)).mono ?_; rintro e w10 ⟨v10, rfl, ho10, hk10⟩; have Ho10 := Lib.hid ho10; have HK10 := Lib.hid hk10; clear ho10 hk10)
              | (have _ := w11; refine wpList_append_bytes rfl (.tmp 99) (.tmp 100) rfl w0.heap.size v10 ((acc' ++ [44]) ++ quoteS key) [58] rfl (own_none_grown Ho10.out hg11) (some ⟨w10.heap.size, 0, none⟩) 1 rfl (by intro h; cases h) (src_build hr11) (by simp; omega) (by have := hg11.size; have := HK10.out.size; omega) ?_; intro v12 w12 ho12 hg12; simp only [Act.put, List.setIfInBounds_toArray, List.set_cons_zero, List.set_cons_succ]
                 have Ho12 := Lib.hid ho12; have HKx : Hid (Kp w0.heap.size w9 w12) := Lib.hid ((HK10.out.grown hg11).own (own_none_grown Ho10.out hg11) hg12); clear ho12 hg12 hr11 hg11)
              | (have _ := w10; refine wpList_build1 rfl 41 5 (.const (.int .u8 58)) rfl Tryz.underlying41 (.int .u8 58) rfl _ info5 (by kernel_rfl) (.int .u8 0) (by kernel_rfl) rfl rfl ?_; intro w11 hr11 hg11 hs11; clear hs11; simp only [Act.put, List.setIfInBounds_toArray, List.set_cons_zero, List.set_cons_succ]))
            have HK13 := Lib.hid (HKx.out.row HB9.out (by decide))
            have HK14 := Lib.hid (HK9.out.trans HKx.out)
            have HP14 := Lib.hid (HKx.out.row HP9.out (by decide))
            have ck4 := HK13.out.at_ (j := 4) (v := .slice (some ⟨b, fo, none⟩) ls.length dd) (by rw [← HCS.out]; rfl)
            obtain ⟨q0, q1, q2, q3, q4⟩ := HC1.out w12 (kp_below Hb.out HK14.out)
            clear HKx HK9 HB9 HP9 Ho9 ck3 ckey hsw
            go_wp2_with (go_at_call 31; refine (IH.out jv [p0, p1, p2, p3, p4] w12 v12 ((acc' ++ [44]) ++ quoteS key ++ [58]) (HJ.out) HRj.out (kp_below Hb.out HK14.out) Ho12.out (by simp; omega)).mono ?_; rintro e w15 ⟨v15, rfl, ho15, hk15⟩; have Ho15 := Lib.hid ho15; have HK15 := Lib.hid (HK14.out.trans hk15); have HB15 := Lib.hid (hk15.row HK13.out (by decide)); have HP15 := Lib.hid (hk15.row HP14.out (by decide)); clear ho15 hk15)
            go_roundw
            case rel => exact ⟨i + 1, _, by omega, by go_num, Ho15, HK15, HB15, HP15, Lib.hid (by simp; omega), Lib.hid (by rw [HREST.out]; exact HI3.out)⟩
            case measure => simp [intOf]; omega
          · obtain rfl : i = 0 := by omega
            rw [if_neg h0] at hlen
            simp only [List.length_nil] at hlen
            have hI2 := HI2.out
            rw [if_neg h0] at hI2
            have HI3 : Hid (((acc' ++ quoteS key) ++ [58]) ++ writeJ f jv ++ (REST ++ [125]) = RES) := Lib.hid (by rw [← hI2]; simp)
            clear HI2 hI2 h0
            go_upto_region 33 with fail
            have ck3 := HBr.out.at_ (j := 3) (v := .slice (some ⟨ab, ao, none⟩) ks.length c) (by rw [← HCS.out]; rfl)
            have ckey := HC0.out wr (kp_below Hb.out HKr.out)
            have hsw := HKr.out.size
            go_upto_region 34 with (first
              | (go_at_call 49; refine (quote_any w0.heap.size u0 acc' key wr Hor.out (by omega) HVj.out (by (try simp); omega)).mono ?_; rintro e w10 ⟨v10, rfl, ho10, hk10⟩; have Ho10 := Lib.hid ho10; have HK10 := Lib.hid hk10; clear ho10 hk10)
              | (have _ := w11; refine wpList_append_bytes rfl (.tmp 99) (.tmp 100) rfl w0.heap.size v10 (acc' ++ quoteS key) [58] rfl (own_none_grown Ho10.out hg11) (some ⟨w10.heap.size, 0, none⟩) 1 rfl (by intro h; cases h) (src_build hr11) (by simp; omega) (by have := hg11.size; have := HK10.out.size; omega) ?_; intro v12 w12 ho12 hg12; simp only [Act.put, List.setIfInBounds_toArray, List.set_cons_zero, List.set_cons_succ]
                 have Ho12 := Lib.hid ho12; have HKx : Hid (Kp w0.heap.size wr w12) := Lib.hid ((HK10.out.grown hg11).own (own_none_grown Ho10.out hg11) hg12); clear ho12 hg12 hr11 hg11)
              | (have _ := w10; refine wpList_build1 rfl 41 5 (.const (.int .u8 58)) rfl Tryz.underlying41 (.int .u8 58) rfl _ info5 (by kernel_rfl) (.int .u8 0) (by kernel_rfl) rfl rfl ?_; intro w11 hr11 hg11 hs11; clear hs11; simp only [Act.put, List.setIfInBounds_toArray, List.set_cons_zero, List.set_cons_succ]))
            have HK13 := Lib.hid (HKx.out.row HBr.out (by decide))
            have HK14 := Lib.hid (HKr.out.trans HKx.out)
            have HP14 := Lib.hid (HKx.out.row HPr.out (by decide))
            have ck4 := HK13.out.at_ (j := 4) (v := .slice (some ⟨b, fo, none⟩) ls.length dd) (by rw [← HCS.out]; rfl)
            obtain ⟨q0, q1, q2, q3, q4⟩ := HC1.out w12 (kp_below Hb.out HK14.out)
            clear HKx HKr HBr HPr Hor ck3 ckey hsw
            go_wp2_with (go_at_call 31; refine (IH.out jv [p0, p1, p2, p3, p4] w12 v12 (acc' ++ quoteS key ++ [58]) (HJ.out) HRj.out (kp_below Hb.out HK14.out) Ho12.out (by simp; omega)).mono ?_; rintro e w15 ⟨v15, rfl, ho15, hk15⟩; have Ho15 := Lib.hid ho15; have HK15 := Lib.hid (HK14.out.trans hk15); have HB15 := Lib.hid (hk15.row HK13.out (by decide)); have HP15 := Lib.hid (hk15.row HP14.out (by decide)); clear ho15 hk15)
            go_roundw
            case rel => exact ⟨0 + 1, _, by omega, by go_num, Ho15, HK15, HB15, HP15, Lib.hid (by simp; omega), Lib.hid (by rw [HREST.out]; exact HI3.out)⟩
            case measure => simp [intOf]; omega
        · obtain rfl : i = ks.length := by omega
          have HI3 : Hid (acc' ++ [125] = RES) := Lib.hid (by rw [← HI.out, List.drop_eq_nil_of_le (by rw [ordOf_length]; omega)]; simp [joinFrom])
          have hl : acc'.length + 1 = RES.length := by rw [← HI3.out]; simp
          have hs6 := HKr.out.size
          clear HI
          go_wp2_with (first
            | (have _ := w8; refine wpList_append_bytes rfl (.tmp 110) (.tmp 111) rfl w0.heap.size u0 acc' [125] rfl (own_none_grown Hor.out hg8) (some ⟨wr.heap.size, 0, none⟩) 1 rfl (by intro h; cases h) (src_build hr8) (by simp; omega) (by have := hg8.size; omega) ?_; intro v9 w9 ho9 hg9; simp only [Act.put, List.setIfInBounds_toArray, List.set_cons_zero, List.set_cons_succ]
               have Ho9 := Lib.hid ho9; have HKx : Hid (Kp w0.heap.size wr w9) := Lib.hid ((kp_grown (base := w0.heap.size) hg8).own (own_none_grown Hor.out hg8) hg9); clear ho9 hg9 hr8 hg8)
            | (refine wpList_build1 rfl 41 5 (.const (.int .u8 125)) rfl Tryz.underlying41 (.int .u8 125) rfl _ info5 (by kernel_rfl) (.int .u8 0) (by kernel_rfl) rfl rfl ?_; intro w8 hr8 hg8 hs8; clear hs8; simp only [Act.put, List.setIfInBounds_toArray, List.set_cons_zero, List.set_cons_succ]))
          go_ret
          exact ⟨_, rfl, by rw [← HI3.out]; exact Ho9.out, HKr.out.trans HKx.out⟩
end
section
open Go.RowKit
set_option linter.unusedVariables false
theorem write_any (w0 : World) : ∀ (f : Nat) (j : J), WIs w0 f j
  | 0, j => fun cs w v acc _ hr => absurd hr (by unfold Right; exact id)
  | f + 1, .mk kd bb t ks ls => fun cs w v acc hj hr hb ho hsz => by
    have hs : shapeV kd bb t ks.length ls.length = true := by have := hr; unfold Right at this; exact this.1
    have hk : kd = 0 ∨ kd = 1 ∨ kd = 2 ∨ kd = 3 ∨ kd = 4 ∨ kd = 5 := by
      refine Decidable.byContradiction fun h => ?_
      simp only [not_or] at h
      simp [shapeV, h] at hs
    rcases hk with h | h | h | h | h | h
    · exact write_flat w0 f kd bb t ks ls (.inl h) cs w v acc hj hr hb ho hsz
    · exact write_flat w0 f kd bb t ks ls (.inr (.inl h)) cs w v acc hj hr hb ho hsz
    · exact write_flat w0 f kd bb t ks ls (.inr (.inr (.inl h))) cs w v acc hj hr hb ho hsz
    · exact write_flat w0 f kd bb t ks ls (.inr (.inr (.inr h))) cs w v acc hj hr hb ho hsz
    · subst h; exact write_list w0 f (write_any w0 f) bb t ks ls cs w v acc hj hr hb ho hsz
    · subst h; exact write_object w0 f (write_any w0 f) bb t ks ls cs w v acc hj hr hb ho hsz
end
end Go.Proofs.YtlbilofnbhhmjaaGreatDoor
