/- json's write: what is shown by induction; the kinds that hold no other values. json's write: a list. -/
import Derived.Test.YtlbilofnbhhmjaaGreatDoorShape
import Derived.Test.YtlbilofnbhhmjaaGreatDoorList
namespace Go.Proofs.YtlbilofnbhhmjaaGreatDoor
section
open Go.RowKit
set_option linter.unusedVariables false
set_option linter.unusedSimpArgs false
theorem kp_below {w0 w wr : World} (hb : Below w0.heap.size w0 w) (hk : Kp w0.heap.size w wr) : Below w0.heap.size w0 wr :=
  ⟨hk.os.trans hb.os, hk.tape.trans hb.tape, hk.output.trans hb.output, Nat.le_trans hb.size hk.size, fun i hi => (hk.block i (Nat.lt_of_lt_of_le hi hb.size) (fun _ _ => hi)).trans (hb.block i hi)⟩
def WIs (w0 : World) (f : Nat) (j : J) : Prop := ∀ (cs : List Value) (w : World) (v : Value) (acc : List Int), JR w0 j cs → Right f j → Below w0.heap.size w0 w → Own w w0.heap.size v acc →
  acc.length + 6 * (writeJ f j).length ≤ 1073741824 → Calls Tryz.prog 31 #[v, .agg cs.toArray] w (Appends w0.heap.size w (acc ++ writeJ f j))
theorem escB_pos (c : Int) : 1 ≤ (escB c).length := by unfold escB; split <;> (try simp) <;> split <;> (try simp) <;> (repeat' split) <;> simp
theorem escS_len (l : List Int) : l.length ≤ (escS l).length := by
  induction l with
  | nil => simp
  | cons c l ih =>
    have := escB_pos c
    have e : escS (c :: l) = escB c ++ escS l := by simp [escS]
    rw [e, List.length_append]
    simp only [List.length_cons]
    omega
theorem quoteS_len (s : ByteArray) : s.size + 2 ≤ (quoteS s).length := by
  have := escS_len (restAt s 0)
  rw [restAt_length] at this
  simp [quoteS]; omega
theorem valid_utf {s : ByteArray} (h : validB s = true) : utfFrom s 0 = true := by unfold utfFrom; rw [List.drop_zero]; exact h
set_option maxHeartbeats 3200000 in
theorem write_flat (w0 : World) (f : Nat) (kd : Int) (bb : Bool) (t : ByteArray) (ks : List ByteArray) (ls : List J) (h : kd = 0 ∨ kd = 1 ∨ kd = 2 ∨ kd = 3) : WIs w0 (f + 1) (.mk kd bb t ks ls) := by
  intro cs w v acc hj hr hb ho hsz
  unfold JR at hj
  obtain ⟨A, c, B, dd, rfl, hkc, hlc, hA, hB⟩ := hj
  unfold Right at hr
  obtain ⟨r1, r2, r3, r4, r5, r6⟩ := hr
  have hv : kd = 3 → utfFrom t 0 = true := fun e => valid_utf (r4 e)
  have Ho := Lib.hid ho
  have hbs := hb.size
  clear hA hB r1 r2 r3 r4 r5 r6 hkc hlc ho
  rcases h with rfl | rfl | rfl | rfl
  · have hw : writeJ (f + 1) (.mk 0 bb t ks ls) = [110, 117, 108, 108] := rfl
    rw [hw] at hsz ⊢
    simp only [List.length_cons, List.length_nil] at hsz
    clear hw hv
    go_enter Tryz.func31, Tryz.ntmps31
    go_upto_region 1 with (refine wpList_box_abs rfl 26 (.tmp 1) rfl [.int .i8 0, .bool bb, .string t, .slice A ks.length c, .slice B ls.length dd] rfl ?_; intro w1 hr1 hg1 hs1; simp only [Act.put, List.setIfInBounds_toArray, List.set_cons_zero, List.set_cons_succ])
    have ck := hr1.at_ (j := 0) rfl
    have hgs := hg1.size
    go_wp2_with (refine wpList_append_str rfl (.tmp 15) (.const (.string ⟨#[110, 117, 108, 108]⟩)) rfl w0.heap.size v acc rfl (own_none_grown Ho.out hg1) ⟨#[110, 117, 108, 108]⟩ rfl (by show acc.length + 4 ≤ _; omega) (by omega) ?_; intro v2 w2 ho2 hg2; simp only [Act.put, List.setIfInBounds_toArray, List.set_cons_zero, List.set_cons_succ]; have Ho2 := Lib.hid ho2; have HK := Lib.hid ((kp_grown (base := w0.heap.size) hg1).own (own_none_grown Ho.out hg1) hg2); clear ho2 hg2)
    go_ret
    exact ⟨_, rfl, Ho2.out, HK.out⟩
  · have hw : writeJ (f + 1) (.mk 1 bb t ks ls) = (if bb then [116, 114, 117, 101] else [102, 97, 108, 115, 101]) := rfl
    rw [hw] at hsz ⊢
    obtain ⟨X, hX⟩ : ∃ x, (if bb then [116, 114, 117, 101] else [102, 97, 108, 115, 101] : List Int) = x := ⟨_, rfl⟩
    have HX := Lib.hid hX
    rw [hX] at hsz ⊢
    clear hw hX hv
    go_enter Tryz.func31, Tryz.ntmps31
    go_upto_region 1 with (refine wpList_box_abs rfl 26 (.tmp 1) rfl [.int .i8 1, .bool bb, .string t, .slice A ks.length c, .slice B ls.length dd] rfl ?_; intro w1 hr1 hg1 hs1; simp only [Act.put, List.setIfInBounds_toArray, List.set_cons_zero, List.set_cons_succ])
    have ck := hr1.at_ (j := 0) rfl
    have ck1 := hr1.at_ (j := 1) rfl
    have hgs := hg1.size
    go_wp2_with (go_at_call 48; refine (appendBool_any w0.heap.size v acc bb w1 (own_none_grown Ho.out hg1) (by omega) (by omega)).mono ?_; rw [HX.out]; rintro e w2 ⟨v2, rfl, ho2, hk⟩; have Ho2 := Lib.hid ho2; have HK := Lib.hid ((kp_grown (base := w0.heap.size) hg1).trans hk); clear ho2 hk)
    go_ret
    exact ⟨_, rfl, Ho2.out, HK.out⟩
  · have hw : writeJ (f + 1) (.mk 2 bb t ks ls) = restAt t 0 := rfl
    rw [hw] at hsz ⊢
    rw [restAt_length] at hsz
    clear hw hv
    go_enter Tryz.func31, Tryz.ntmps31
    go_upto_region 1 with (refine wpList_box_abs rfl 26 (.tmp 1) rfl [.int .i8 2, .bool bb, .string t, .slice A ks.length c, .slice B ls.length dd] rfl ?_; intro w1 hr1 hg1 hs1; simp only [Act.put, List.setIfInBounds_toArray, List.set_cons_zero, List.set_cons_succ])
    have ck := hr1.at_ (j := 0) rfl
    have ck1 := hr1.at_ (j := 2) rfl
    have hgs := hg1.size
    go_wp2_with (refine wpList_append_str rfl (.tmp 25) (.tmp 27) rfl w0.heap.size v acc rfl (own_none_grown Ho.out hg1) t rfl (by omega) (by omega) ?_; intro v2 w2 ho2 hg2; simp only [Act.put, List.setIfInBounds_toArray, List.set_cons_zero, List.set_cons_succ]; have Ho2 := Lib.hid ho2; have HK := Lib.hid ((kp_grown (base := w0.heap.size) hg1).own (own_none_grown Ho.out hg1) hg2); clear ho2 hg2)
    go_ret
    exact ⟨_, rfl, Ho2.out, HK.out⟩
  · have hw : writeJ (f + 1) (.mk 3 bb t ks ls) = quoteS t := rfl
    rw [hw] at hsz ⊢
    have hq := quoteS_len t
    have Hv := Lib.hid (hv rfl)
    clear hw hv
    go_enter Tryz.func31, Tryz.ntmps31
    go_upto_region 1 with (refine wpList_box_abs rfl 26 (.tmp 1) rfl [.int .i8 3, .bool bb, .string t, .slice A ks.length c, .slice B ls.length dd] rfl ?_; intro w1 hr1 hg1 hs1; simp only [Act.put, List.setIfInBounds_toArray, List.set_cons_zero, List.set_cons_succ])
    have ck := hr1.at_ (j := 0) rfl
    have ck1 := hr1.at_ (j := 2) rfl
    have hgs := hg1.size
    go_wp2_with (go_at_call 49; refine (quote_any w0.heap.size v acc t w1 (own_none_grown Ho.out hg1) (by omega) Hv.out (by omega)).mono ?_; rintro e w2 ⟨v2, rfl, ho2, hk⟩; have Ho2 := Lib.hid ho2; have HK := Lib.hid ((kp_grown (base := w0.heap.size) hg1).trans hk); clear ho2 hk)
    go_ret
    exact ⟨_, rfl, Ho2.out, HK.out⟩
end
section
open Go.RowKit
set_option linter.unusedVariables false
set_option linter.unusedSimpArgs false
theorem kp_wide {base : Nat} {w w1 w2 : World} (h : Kp base w w1) (k : Kp base w1 w2) : Kp base w w2 := h.trans k
theorem room_of {a b x N : Nat} (h : a + 6 * x ≤ N) (hb : b ≤ a + x) (hab : a ≤ b) {k : Nat} (hk : b + k ≤ a + x) : b + 6 * k ≤ N := by omega
set_option maxHeartbeats 12800000 in
set_option maxRecDepth 100000 in
theorem write_list (w0 : World) (f : Nat) (IH : ∀ j, WIs w0 f j) (bb : Bool) (t : ByteArray) (ks : List ByteArray) (ls : List J) : WIs w0 (f + 1) (.mk 4 bb t ks ls) := by
  intro cs w v acc hj hr hb ho hsz
  unfold JR at hj
  obtain ⟨A, c, B, dd, rfl, hkc, hlc, hA, hB⟩ := hj
  unfold Right at hr
  obtain ⟨r1, r2, r3, r4, r5, r6⟩ := hr
  simp only [J.ls] at r2 r6
  have hw : writeJ (f + 1) (.mk 4 bb t ks ls) = 91 :: (joinFrom 0 (ls.map (writeJ f)) ++ [93]) := rfl
  rw [hw] at hsz ⊢
  obtain ⟨RES, hR⟩ : ∃ r, acc ++ 91 :: (joinFrom 0 (ls.map (writeJ f)) ++ [93]) = r := ⟨_, rfl⟩
  have hRl : acc.length + (91 :: (joinFrom 0 (ls.map (writeJ f)) ++ [93])).length = RES.length := by rw [← hR, List.length_append]
  rw [hR]
  obtain ⟨X, hX⟩ : ∃ x, (91 :: (joinFrom 0 (ls.map (writeJ f)) ++ [93])).length = x := ⟨_, rfl⟩
  rw [hX] at hsz hRl
  have hX1 : 2 ≤ X := by rw [← hX]; simp
  have HI0 : Hid ((acc ++ [91]) ++ (joinFrom 0 ((ls.drop 0).map (writeJ f)) ++ [93]) = RES) := Lib.hid (by rw [← hR]; simp)
  have IH := Lib.hid IH
  have Ho := Lib.hid ho
  have Hb := Lib.hid hb
  have HB := Lib.hid hB
  have HRt := Lib.hid r6
  have hbs := hb.size
  clear hA hB r1 r3 r4 r5 r6 hkc hlc ho hb hw hR hX
  go_enter Tryz.func31, Tryz.ntmps31
  go_upto_region 1 with (refine wpList_box_abs rfl 26 (.tmp 1) rfl [.int .i8 4, .bool bb, .string t, .slice A ks.length c, .slice B ls.length dd] rfl ?_; intro w1 hr1 hg1 hs1; simp only [Act.put, List.setIfInBounds_toArray, List.set_cons_zero, List.set_cons_succ])
  have HBx0 := Lib.hid hr1
  have HK1 := Lib.hid (kp_grown (base := w0.heap.size) hg1)
  have Ho1 := Lib.hid (own_none_grown Ho.out hg1)
  have ck := hr1.at_ (j := 0) rfl
  have hgs := hg1.size
  obtain ⟨Bb, hBb⟩ : ∃ x, w.heap.size = x := ⟨_, rfl⟩
  rw [hBb] at HBx0 ck ⊢
  clear hr1 hg1 hs1
  go_upto_region 12 with (first
    | (have _ := w3; refine wpList_append_bytes rfl (.tmp 37) (.tmp 38) rfl w0.heap.size v acc [91] rfl (own_none_grown Ho1.out hg3) (some ⟨w1.heap.size, 0, none⟩) 1 rfl (by intro h; cases h) (src_build hr3) (by simp; omega) (by have := hg3.size; omega) ?_; intro v4 w4 ho4 hg4; simp only [Act.put, List.setIfInBounds_toArray, List.set_cons_zero, List.set_cons_succ]
       have Ho4 := Lib.hid ho4; have HKx : Hid (Kp w0.heap.size w1 w4) := Lib.hid ((kp_grown (base := w0.heap.size) hg3).own (own_none_grown Ho1.out hg3) hg4); clear ho4 hg4 hr3 hg3)
    | (refine wpList_build1 rfl 41 5 (.const (.int .u8 91)) rfl Tryz.underlying41 (.int .u8 91) rfl _ info5 (by kernel_rfl) (.int .u8 0) (by kernel_rfl) rfl rfl ?_; intro w3 hr3 hg3 hs3; clear hs3; simp only [Act.put, List.setIfInBounds_toArray, List.set_cons_zero, List.set_cons_succ]))
  have HK4 := Lib.hid (HK1.out.trans HKx.out)
  have HBx4 := Lib.hid (HKx.out.row HBx0.out (by decide))
  have cl := HBx4.out.at_ (j := 4) rfl
  clear ck HKx HK1 HBx0 Ho1
  go_upto_region 13 with fail
  clear cl
  go_loopw [0, 43] (fun v' i' wr => ∃ (i : Nat) (acc' : List Int), i ≤ ls.length ∧ i' = .int .i64 (i : Int) ∧ Hid (Own wr w0.heap.size v' acc') ∧ Hid (Kp w0.heap.size w wr) ∧ Hid (Row wr Bb 26 [.int .i8 4, .bool bb, .string t, .slice A ks.length c, .slice B ls.length dd]) ∧ Hid (acc.length ≤ acc'.length) ∧ Hid (acc' ++ (joinFrom i ((ls.drop i).map (writeJ f)) ++ [93]) = RES)) (fun _ i' _ => ls.length - (intOf i').toNat)
  case atStart => exact ⟨0, acc ++ [91], by omega, rfl, Ho4, HK4, HBx4, Lib.hid (by simp), HI0⟩
  case round =>
    obtain ⟨i, acc', hi, rfl, Hor, HKr, HBr, HL, HI⟩ := hrel
    clear HI0 Ho4 HK4 HBx4
    by_cases hlt : i < ls.length
    · obtain ⟨jv, hjv⟩ : ∃ jv, ls[i]? = some jv := ⟨_, List.getElem?_eq_getElem hlt⟩
      obtain ⟨b, fo, cj, rfl, hJ, hcell⟩ := HB.out.get hjv
      obtain ⟨p0, p1, p2, p3, p4, rfl⟩ := five_of hJ.five
      have HJ := Lib.hid hJ
      have HP : Hid (∀ v ∈ [p0, p1, p2, p3, p4], v.oneCell' = true) := Lib.hid hJ.cells
      have hB := kp_below Hb.out HKr.out
      have q0 : wr.cell? ⟨b, fo + i * 5, none⟩ = some p0 := by have := below_cell hB (hcell 0 _ rfl); rwa [show fo + (0 + i * 5 + 0) = fo + i * 5 by omega] at this
      have q1 : wr.cell? ⟨b, fo + i * 5 + 1, none⟩ = some p1 := by have := below_cell hB (hcell 1 _ rfl); rwa [show fo + (0 + i * 5 + 1) = fo + i * 5 + 1 by omega] at this
      have q2 : wr.cell? ⟨b, fo + i * 5 + 2, none⟩ = some p2 := by have := below_cell hB (hcell 2 _ rfl); rwa [show fo + (0 + i * 5 + 2) = fo + i * 5 + 2 by omega] at this
      have q3 : wr.cell? ⟨b, fo + i * 5 + 3, none⟩ = some p3 := by have := below_cell hB (hcell 3 _ rfl); rwa [show fo + (0 + i * 5 + 3) = fo + i * 5 + 3 by omega] at this
      have q4 : wr.cell? ⟨b, fo + i * 5 + 4, none⟩ = some p4 := by have := below_cell hB (hcell 4 _ rfl); rwa [show fo + (0 + i * 5 + 4) = fo + i * 5 + 4 by omega] at this
      have hmem := List.mem_of_getElem? hjv
      have HRj := Lib.hid (HRt.out jv hmem)
      have hdrop : ls.drop i = jv :: ls.drop (i + 1) := by
        rw [List.drop_eq_getElem_cons hlt]
        rw [List.getElem?_eq_getElem hlt] at hjv
        rw [Option.some.inj hjv]
      have hI := HI.out
      rw [hdrop, List.map_cons, joinFrom_cons] at hI
      obtain ⟨REST, hREST⟩ : ∃ r, joinFrom (i + 1) ((ls.drop (i + 1)).map (writeJ f)) = r := ⟨_, rfl⟩
      rw [hREST] at hI
      have HREST := Lib.hid hREST
      have hlen : acc'.length + (if 0 < i then [44] else ([] : List Int)).length + (writeJ f jv).length + REST.length + 1 = RES.length := by rw [← hI]; simp only [List.length_append, List.length_cons, List.length_nil]; omega
      have HI2 := Lib.hid hI
      clear hJ hcell hB hjv hmem hdrop HI hI hREST
      go_upto_region 15 with (first
        | (have _ := w1; refine wpList_store_Row rfl 26 _ _ rfl wr.heap.size [p0, p1, p2, p3, p4] rfl rfl 26 zero5 hr5 size29 rfl HP.out ?_; intro w6 hr6 hg6 hs6; clear hs6; simp only [Act.put, List.setIfInBounds_toArray, List.set_cons_zero, List.set_cons_succ])
        | (refine wpList_alloc_abs rfl 26 rfl zero5 _ (zero29 _) rfl ?_; intro w5 hr5 hg5 hs5; simp only [Act.put, List.setIfInBounds_toArray, List.set_cons_zero, List.set_cons_succ]))
      have hg56 : wr.grownBy w6 none := grown_own hg5 hg6 (fun x hx => .inr (by have := Option.some.inj hx; omega))
      have HBe := Lib.hid hr6
      have Ho6 := Lib.hid (own_none_grown Hor.out hg56)
      have HK6 := Lib.hid (HKr.out.grown hg56)
      have HB6 := Lib.hid ((kp_grown (base := w0.heap.size) hg56).row HBr.out (by decide))
      have hs6 := HK6.out.size
      obtain ⟨Be, hBe⟩ : ∃ x, wr.heap.size = x := ⟨_, rfl⟩
      rw [hBe] at HBe ⊢
      clear q0 q1 q2 q3 q4 hr5 hr6 hg5 hg6 hs5 hg56 hBe Hor HKr HBr
      have hl := HL.out
      by_cases h0 : 0 < i
      · have d0 : decide ((0 : Int) < (i : Int)) = true := by simpa using h0
        rw [if_pos h0] at hlen
        simp only [List.length_cons, List.length_nil] at hlen
        have hI2 := HI2.out
        rw [if_pos h0] at hI2
        have HI3 : Hid (((acc' ++ [44]) ++ writeJ f jv) ++ (REST ++ [93]) = RES) := Lib.hid (by rw [← hI2]; simp)
        clear HI2 hI2
        go_upto_region 17 with (first
          | (have _ := w7; refine wpList_append_bytes rfl (.tmp 50) (.tmp 51) rfl w0.heap.size u0 acc' [44] rfl (own_none_grown Ho6.out hg7) (some ⟨w6.heap.size, 0, none⟩) 1 rfl (by intro h; cases h) (src_build hr7) (by simp; omega) (by have := hg7.size; omega) ?_; intro v8 w8 ho8 hg8; simp only [Act.put, List.setIfInBounds_toArray, List.set_cons_zero, List.set_cons_succ]
             have Ho8 := Lib.hid ho8; have HKx : Hid (Kp w0.heap.size w6 w8) := Lib.hid ((kp_grown (base := w0.heap.size) hg7).own (own_none_grown Ho6.out hg7) hg8); clear ho8 hg8 hr7 hg7)
          | (refine wpList_build1 rfl 41 5 (.const (.int .u8 44)) rfl Tryz.underlying41 (.int .u8 44) rfl _ info5 (by kernel_rfl) (.int .u8 0) (by kernel_rfl) rfl rfl ?_; intro w7 hr7 hg7 hs7; clear hs7; simp only [Act.put, List.setIfInBounds_toArray, List.set_cons_zero, List.set_cons_succ]))
        have HK8 := Lib.hid (HK6.out.trans HKx.out)
        have HB8 := Lib.hid (HKx.out.row HB6.out (by decide))
        have HBe8 := Lib.hid (HKx.out.row HBe.out (by decide))
        clear HKx HK6 HB6 HBe Ho6
        go_wp2_with (first
          | (go_at_call 31; refine (IH.out jv [p0, p1, p2, p3, p4] w8 v8 (acc' ++ [44]) (HJ.out) HRj.out (kp_below Hb.out HK8.out) Ho8.out (by simp; omega)).mono ?_; rintro e w9 ⟨v9, rfl, ho9, hk9⟩; have Ho9 := Lib.hid ho9; have HK9 := Lib.hid (HK8.out.trans hk9); have HB9 := Lib.hid (hk9.row HB8.out (by decide)); clear ho9 hk9)
          | (refine wpList_load_Row rfl 26 _ rfl Be rfl [p0, p1, p2, p3, p4] 26 HBe8.out _ Tryz.underlying26 rfl size29 ?_; simp only [Act.put, List.setIfInBounds_toArray, List.set_cons_zero, List.set_cons_succ]))
        go_roundw
        case rel => exact ⟨i + 1, _, by omega, by go_num, Ho9, HK9, HB9, Lib.hid (by simp; omega), Lib.hid (by rw [HREST.out]; exact HI3.out)⟩
        case measure => simp [intOf]; omega
      · obtain rfl : i = 0 := by omega
        rw [if_neg h0] at hlen
        simp only [List.length_nil] at hlen
        have hI2 := HI2.out
        rw [if_neg h0] at hI2
        have HI3 : Hid ((acc' ++ writeJ f jv) ++ (REST ++ [93]) = RES) := Lib.hid (by rw [← hI2]; simp)
        clear HI2 hI2 h0
        go_wp2_with (first
          | (go_at_call 31; refine (IH.out jv [p0, p1, p2, p3, p4] w6 u0 acc' (HJ.out) HRj.out (kp_below Hb.out HK6.out) Ho6.out (by omega)).mono ?_; rintro e w9 ⟨v9, rfl, ho9, hk9⟩; have Ho9 := Lib.hid ho9; have HK9 := Lib.hid (HK6.out.trans hk9); have HB9 := Lib.hid (hk9.row HB6.out (by decide)); clear ho9 hk9)
          | (refine wpList_load_Row rfl 26 _ rfl Be rfl [p0, p1, p2, p3, p4] 26 HBe.out _ Tryz.underlying26 rfl size29 ?_; simp only [Act.put, List.setIfInBounds_toArray, List.set_cons_zero, List.set_cons_succ]))
        go_roundw
        case rel => exact ⟨0 + 1, _, by omega, by go_num, Ho9, HK9, HB9, Lib.hid (by simp; omega), Lib.hid (by rw [HREST.out]; exact HI3.out)⟩
        case measure => simp [intOf]; omega
    · obtain rfl : i = ls.length := by omega
      have HI3 : Hid (acc' ++ [93] = RES) := Lib.hid (by rw [← HI.out]; simp [joinFrom])
      have hl : acc'.length + 1 = RES.length := by rw [← HI3.out]; simp
      have hs6 := HKr.out.size
      clear HI
      go_wp2_with (first
        | (have _ := w7; refine wpList_append_bytes rfl (.tmp 57) (.tmp 58) rfl w0.heap.size u0 acc' [93] rfl (own_none_grown Hor.out hg7) (some ⟨wr.heap.size, 0, none⟩) 1 rfl (by intro h; cases h) (src_build hr7) (by simp; omega) (by have := hg7.size; omega) ?_; intro v8 w8 ho8 hg8; simp only [Act.put, List.setIfInBounds_toArray, List.set_cons_zero, List.set_cons_succ]
           have Ho8 := Lib.hid ho8; have HKx : Hid (Kp w0.heap.size w w8) := Lib.hid ((HKr.out.grown hg7).own (own_none_grown Hor.out hg7) hg8); clear ho8 hg8 hr7 hg7)
        | (refine wpList_build1 rfl 41 5 (.const (.int .u8 93)) rfl Tryz.underlying41 (.int .u8 93) rfl _ info5 (by kernel_rfl) (.int .u8 0) (by kernel_rfl) rfl rfl ?_; intro w7 hr7 hg7 hs7; clear hs7; simp only [Act.put, List.setIfInBounds_toArray, List.set_cons_zero, List.set_cons_succ]))
      go_ret
      exact ⟨_, rfl, by rw [← HI3.out]; exact Ho8.out, HKx.out⟩
end
end Go.Proofs.YtlbilofnbhhmjaaGreatDoor
