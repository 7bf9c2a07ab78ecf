/- The reference's step: what 64 bytes make of the eight words. -/
import Derived.Test.YtkfdaeipfjcibaaDoorRefW
import Derived.Lib.QuietBelow
namespace Go.Proofs.YtkfdaeipfjcibaaDoor
open Go.RowKit
set_option linter.unusedVariables false
set_option linter.unusedSimpArgs false
def v8 (s : S8) : List Value := s.list.map (Value.int .u32)
theorem v8_length (s : S8) : (v8 s).length = 8 := rfl
theorem v8_get (s : S8) : ∀ j, j < 8 → (v8 s)[j]? = some (.int .u32 (s.list.getD j 0))
  | 0, _ | 1, _ | 2, _ | 3, _ | 4, _ | 5, _ | 6, _ | 7, _ => rfl
theorem zero45 (w : World) : (zeroValue 45).run Tryd.prog w = .ok (.agg (v8 ⟨0, 0, 0, 0, 0, 0, 0, 0⟩).toArray) w := by kernel_rfl
theorem size45 : (Tryd.prog.info? 45).map (·.size) = some 8 := by kernel_rfl
theorem oneCell_v8 (s : S8) : ∀ v ∈ v8 s, v.oneCell' = true := oneCell_words s.list
theorem built45 (a b c d e f g h : Int) : Tryd.prog.built 45 [(0, .int .u32 a), (1, .int .u32 b), (2, .int .u32 c), (3, .int .u32 d), (4, .int .u32 e), (5, .int .u32 f), (6, .int .u32 g), (7, .int .u32 h)] = some (v8 ⟨a, b, c, d, e, f, g, h⟩).toArray := by kernel_rfl
theorem rnd_a (st : S8) (kk wk : Int) : (st.h + bits .xor .u32 (bits .xor .u32 (ror 6 st.e) (ror 11 st.e)) (ror 25 st.e) + bits .xor .u32 (bits .and .u32 st.e st.f) (bits .and .u32 (bits .xor .u32 IntKind.u32.max st.e) st.g) + kk + wk +
    bits .xor .u32 (bits .xor .u32 (ror 2 st.a) (ror 13 st.a)) (ror 22 st.a) + bits .xor .u32 (bits .xor .u32 (bits .and .u32 st.a st.b) (bits .and .u32 st.a st.c)) (bits .and .u32 st.b st.c)) % 4294967296 = (t1f st kk wk + t2f st) % 4294967296 := by
  unfold t1f t2f bsig1 bsig0 chf majf; omega
theorem rnd_e (st : S8) (kk wk : Int) : (st.d + (st.h + bits .xor .u32 (bits .xor .u32 (ror 6 st.e) (ror 11 st.e)) (ror 25 st.e) + bits .xor .u32 (bits .and .u32 st.e st.f) (bits .and .u32 (bits .xor .u32 IntKind.u32.max st.e) st.g) + kk + wk)) % 4294967296 =
    (st.d + t1f st kk wk) % 4294967296 := by
  unfold t1f bsig1 chf; omega
set_option maxHeartbeats 8000000 in
set_option maxRecDepth 100000 in
theorem rstep_any (s : S8) (sb so c : Nat) (blk : List Int) (w : World) (hlen : blk.length = 64) (hsrc : ∀ j, j < 64 → w.cell? ⟨sb, so + j, none⟩ = some (.int .u8 (blk.getD j 0))) :
    Calls Tryd.prog 22 #[.agg (v8 s).toArray, .slice (some ⟨sb, so, none⟩) 64 c] w fun e w' => e = .returned (.agg (v8 (comp s blk)).toArray) ∧ Below w.heap.size w w' := by
  have Hsrc := Lib.hid hsrc
  have hsb : sb < w.heap.size := block_lt_of_cell (hsrc 0 (by omega))
  have Hlen := Lib.hid hlen
  have H8 := Lib.hid (v8_length s)
  have H8c := Lib.hid (oneCell_v8 s)
  have H8g := Lib.hid (v8_get s)
  clear hsrc hlen
  obtain ⟨W, hW⟩ : ∃ W, W = wsched blk 48 := ⟨_, rfl⟩
  obtain ⟨T, hT⟩ : ∃ T, T = KT := ⟨_, rfl⟩
  have hrn : ∀ m, roundsT T W s m = rounds (wsched blk 48) s m := fun m => by rw [hT, hW, roundsT_eq]
  have hWl : W.length = 64 := by rw [hW, wsched_length]
  have Hcomp := Lib.hid (show ∀ st, st = roundsT T W s 64 → comp s blk = addS s st from fun st h => comp_of (h.trans (hrn 64)))
  have HWl := Lib.hid hWl
  have Hwords : Hid (∀ (wx : World), w.grownBy wx none → Calls Tryd.prog 25 #[.slice (some ⟨sb, so, none⟩) 64 c] wx fun e w' => e = .returned (.agg (wordsA W)) ∧ Below wx.heap.size wx w') := Lib.hid fun wx hg => by
    rw [hW]
    exact words_any sb so c blk wx Hlen.out (fun j hj => by rw [grown_cell hg hsb (by simp)]; exact Hsrc.out j hj)
  have HTc : Hid (∀ (t : Nat) (wx : World), t < 64 → Calls Tryd.prog 27 #[.int .i64 t] wx fun e w' => e = .returned (.int .u32 (T.getD t 0)) ∧ Below wx.heap.size wx w') := Lib.hid fun t wx ht => by
    rw [hT]; exact constant_any t wx ht
  have h1W := oneCell_words W
  obtain ⟨CW, hCW⟩ : ∃ C, W.map (Value.int .u32) = C := ⟨_, rfl⟩
  rw [hCW] at h1W
  have HCW := Lib.hid hCW
  have HCWl : Hid (CW.length = 64) := Lib.hid (by rw [← hCW, List.length_map, hWl])
  have H1W := Lib.hid h1W
  clear hW hT hrn hWl hCW h1W
  obtain ⟨V8, hV8⟩ : ∃ V, v8 s = V := ⟨_, rfl⟩
  rw [hV8] at H8 H8c H8g ⊢
  have HV8 := Lib.hid hV8
  clear hV8
  go_enter Tryd.func22, Tryd.ntmps22
  go_upto_region 3 with (first
    | (refine wpList_box_abs rfl 45 _ rfl V8 rfl ?_; intro w1 hr1 hg1 hs1; simp only [Act.put, List.setIfInBounds_toArray, List.set_cons_zero, List.set_cons_succ]; have Hs1 := Lib.hid hs1; clear hs1)
    | (refine wpList_alloc_abs (o := ⟨some 4, _, _, _, _, _⟩) rfl 45 rfl _ _ (zero45 _) rfl ?_; intro w2 hr2 hg2 hs2; simp only [Act.put, List.setIfInBounds_toArray, List.set_cons_zero, List.set_cons_succ]
       have hG2 : Hid (w.grownBy w2 none) := Lib.hid (grown_own hg1 hg2 (by simp))
       have hV2 : Hid (Row w2 w.heap.size 45 V8) := Lib.hid (hr1.grown hg2 (by simp))
       have HR2 := Lib.hid hr2
       have Hs2 := Lib.hid hs2
       clear hr1 hg1 hg2 hr2 hs2)
    | (go_at_call 25; refine (Hwords.out w2 hG2.out).mono ?_; rintro e w3 ⟨rfl, hb3⟩
       have hG3 : Hid (w.grownBy w3 none) := Lib.hid (grown_own hG2.out (grown_of_below hb3 none) (by simp))
       have hV3 : Hid (Row w3 w.heap.size 45 V8) := Lib.hid (hV2.out.below hb3 hV2.out.lt)
       have hO3 : Hid (Row w3 w1.heap.size 45 (v8 ⟨0, 0, 0, 0, 0, 0, 0, 0⟩)) := Lib.hid (HR2.out.below hb3 HR2.out.lt)
       clear hb3 hG2 hV2 HR2
       unfold wordsA
       rw [HCW.out])
    | (refine wpList_alloc_abs rfl 52 rfl zW _ (zero52 _) rfl ?_; intro w4 hr4 hg4 hs4; simp only [Act.put, List.setIfInBounds_toArray, List.set_cons_zero, List.set_cons_succ]; clear hs4
       have hG4 : Hid (w.grownBy w4 none) := Lib.hid (grown_own hG3.out hg4 (by simp))
       have hV4 : Hid (Row w4 w.heap.size 45 V8) := Lib.hid (hV3.out.grown hg4 (by simp))
       have hO4 : Hid (Row w4 w1.heap.size 45 (v8 ⟨0, 0, 0, 0, 0, 0, 0, 0⟩)) := Lib.hid (hO3.out.grown hg4 (by simp))
       have hlt3 : w1.heap.size < w3.heap.size := hO3.out.lt
       clear hG3 hV3 hO3 hg4)
    | (refine wpList_store_Row rfl 52 _ _ rfl w3.heap.size CW rfl rfl 52 zW hr4 (by rw [HCWl.out]; exact size52) (by rw [HCWl.out]; rfl) H1W.out ?_; intro w5 hr5 hg5 hs5; simp only [Act.put, List.setIfInBounds_toArray, List.set_cons_zero, List.set_cons_succ]; clear hs5
       have hlt1 : w.heap.size < w1.heap.size := by have := Hs1.out; omega
       have hG5 : Hid (w.grownBy w5 none) := Lib.hid (grown_own hG4.out hg5 (by intro i hi; right; simp at hi; omega))
       have hV5 : Hid (Row w5 w.heap.size 45 V8) := Lib.hid (hV4.out.grown hg5 (by simp; omega))
       have hO5 : Hid (Row w5 w1.heap.size 45 (v8 ⟨0, 0, 0, 0, 0, 0, 0, 0⟩)) := Lib.hid (hO4.out.grown hg5 (by simp; omega))
       have HW5 := Lib.hid hr5
       clear hG4 hV4 hO4 hr4 hr5 hg5)
    | (refine wpList_load_Row rfl 45 _ rfl w.heap.size rfl V8 45 hV5.out _ Tryd.underlying45 rfl (by rw [H8.out]; exact size45) ?_; simp only [Act.put, List.setIfInBounds_toArray, List.set_cons_zero, List.set_cons_succ])
    | (refine wpList_alloc_abs (o := ⟨some 6, _, _, _, _, _⟩) rfl 45 rfl _ _ (zero45 _) rfl ?_; intro w6 hr6 hg6 hs6; simp only [Act.put, List.setIfInBounds_toArray, List.set_cons_zero, List.set_cons_succ]; clear hs6
       have hG6 : Hid (w.grownBy w6 none) := Lib.hid (grown_own hG5.out hg6 (by simp))
       have hV6 : Hid (Row w6 w.heap.size 45 V8) := Lib.hid (hV5.out.grown hg6 (by simp))
       have hO6 : Hid (Row w6 w1.heap.size 45 (v8 ⟨0, 0, 0, 0, 0, 0, 0, 0⟩)) := Lib.hid (hO5.out.grown hg6 (by simp))
       have HW6 : Hid (Row w6 w3.heap.size 52 CW) := Lib.hid (HW5.out.grown hg6 (by simp))
       have hlt5 : w3.heap.size < w5.heap.size := HW5.out.lt
       clear hG5 hV5 hO5 HW5 hg6)
    | (refine wpList_store_Row rfl 45 _ _ rfl w5.heap.size V8 rfl rfl 45 _ hr6 (by rw [H8.out]; exact size45) (by rw [H8.out]; rfl) H8c.out ?_; intro w7 hr7 hg7 hs7; simp only [Act.put, List.setIfInBounds_toArray, List.set_cons_zero, List.set_cons_succ]; clear hs7
       have hG7 : Hid (w.grownBy w7 none) := Lib.hid (grown_own hG6.out hg7 (by intro i hi; right; simp at hi; omega))
       have hV7 : Hid (Row w7 w.heap.size 45 V8) := Lib.hid (hV6.out.grown hg7 (by simp; omega))
       have hO7 : Hid (Row w7 w1.heap.size 45 (v8 ⟨0, 0, 0, 0, 0, 0, 0, 0⟩)) := Lib.hid (hO6.out.grown hg7 (by simp; omega))
       have HW7 : Hid (Row w7 w3.heap.size 52 CW) := Lib.hid (HW6.out.grown hg7 (by simp; omega))
       have hA7 : Hid (Row w7 w5.heap.size 45 (v8 s)) := Lib.hid (by rw [HV8.out]; exact hr7)
       clear hG6 hV6 hO6 HW6 hr6 hr7 hg7))
  obtain ⟨Bv, hBv⟩ : ∃ B, w.heap.size = B := ⟨_, rfl⟩
  obtain ⟨Bo, hBo⟩ : ∃ B, w1.heap.size = B := ⟨_, rfl⟩
  obtain ⟨Bw, hBw⟩ : ∃ B, w3.heap.size = B := ⟨_, rfl⟩
  obtain ⟨Ba, hBa⟩ : ∃ B, w5.heap.size = B := ⟨_, rfl⟩
  rw [hBv] at hV7 hlt1 ⊢
  rw [hBo] at hO7 hlt1 hlt3 ⊢
  rw [hBw] at HW7 hlt3 hlt5 ⊢
  rw [hBa] at hA7 hlt5 ⊢
  have HBv := Lib.hid hBv
  clear hBv hBo hBw hBa
  go_wp2_with fail
  go_loopw [7] (fun i wr => ∃ (k : Nat) (st : S8), k ≤ 64 ∧ i = .int .i64 k ∧ Hid (st = roundsT T W s k) ∧ Hid (Row wr Ba 45 (v8 st)) ∧ Hid (Row wr Bv 45 V8) ∧ Hid (Row wr Bo 45 (v8 ⟨0, 0, 0, 0, 0, 0, 0, 0⟩)) ∧ Hid (Row wr Bw 52 CW) ∧ Hid (w.grownBy wr none))
    (fun i _ => 64 - (intOf i).toNat)
  case atStart => exact ⟨0, s, by omega, rfl, Lib.hid rfl, hA7, hV7, hO7, HW7, hG7⟩
  case round =>
    clear hA7 hV7 hO7 HW7 hG7
    obtain ⟨k, st, hk, rfl, hst, hA, hV, hO, hWr, hG⟩ := hrel
    by_cases hlt : k < 64
    · have c0 : wr.cell? ⟨Ba, 0, none⟩ = some (.int .u32 st.a) := hA.out.at_ rfl
      have c4 : wr.cell? ⟨Ba, 4, none⟩ = some (.int .u32 st.e) := hA.out.at_ rfl
      have c5 : wr.cell? ⟨Ba, 5, none⟩ = some (.int .u32 st.f) := hA.out.at_ rfl
      have c6 : wr.cell? ⟨Ba, 6, none⟩ = some (.int .u32 st.g) := hA.out.at_ rfl
      go_wp2_with (go_at_call 26; refine (rotr_any _ _ _ (by decide) (by decide)).mono ?_; rintro e w' ⟨rfl, n1, rfl⟩)
      clear c0 c4 c5 c6
      generalize hwq : wr.drewN _ = wq
      replace hA : Hid (Row wq Ba 45 (v8 st)) := by rw [← hwq]; exact hA
      replace hV : Hid (Row wq Bv 45 V8) := by rw [← hwq]; exact hV
      replace hO : Hid (Row wq Bo 45 (v8 ⟨0, 0, 0, 0, 0, 0, 0, 0⟩)) := by rw [← hwq]; exact hO
      replace hWr : Hid (Row wq Bw 52 CW) := by rw [← hwq]; exact hWr
      replace hG : Hid (w.grownBy wq none) := by rw [← hwq]; exact Lib.hid (grown_drewN hG.out _)
      clear hwq
      have d7 := cell_regrown (hA.out.at_ (show (v8 st)[7]? = some (.int .u32 st.h) from rfl))
      have dw := cell_regrown (hWr.out.at_ (show CW[k]? = some (.int .u32 (W.getD k 0)) by rw [← HCW.out]; simp [HWl.out, hlt]))
      obtain ⟨wk, hwk⟩ : ∃ x, W.getD k 0 = x := ⟨_, rfl⟩
      obtain ⟨kk, hkk⟩ : ∃ x, T.getD k 0 = x := ⟨_, rfl⟩
      rw [hwk] at dw
      have hconst : Hid (∀ wx : World, Calls Tryd.prog 27 #[.int .i64 k] wx fun e w' => e = .returned (.int .u32 kk) ∧ Below wx.heap.size wx w') := Lib.hid fun wx => by rw [← hkk]; exact HTc.out k wx hlt
      have Hwk := Lib.hid hwk
      have Hkk := Lib.hid hkk
      clear hwk hkk
      refine wp_region_quiet_below (by kernel_rfl) (by kernel_rfl) ?_
      repeat (go_big_quiet_step ((go_at_call 27; exact Calls.regrown_of (hconst.out _))))
      refine wpQuiet_nil ?_
      rintro _ ⟨p, rfl⟩
      have hbp := below_regrown wq p.d p.os
      generalize hwz : Sort.grow (redrawn wq p.d) p.os = wz at hbp ⊢
      clear hwz d7 dw
      replace hA : Hid (Row wz Ba 45 (v8 st)) := Lib.hid (hA.out.below hbp hA.out.lt)
      replace hV : Hid (Row wz Bv 45 V8) := Lib.hid (hV.out.below hbp hV.out.lt)
      replace hO : Hid (Row wz Bo 45 (v8 ⟨0, 0, 0, 0, 0, 0, 0, 0⟩)) := Lib.hid (hO.out.below hbp hO.out.lt)
      replace hWr : Hid (Row wz Bw 52 CW) := Lib.hid (hWr.out.below hbp hWr.out.lt)
      replace hG : Hid (w.grownBy wz none) := Lib.hid (grown_own hG.out (grown_of_below hbp none) (by simp))
      clear hbp
      have c0 : wz.cell? ⟨Ba, 0, none⟩ = some (.int .u32 st.a) := hA.out.at_ rfl
      have c1 : wz.cell? ⟨Ba, 1, none⟩ = some (.int .u32 st.b) := hA.out.at_ rfl
      have c2 : wz.cell? ⟨Ba, 2, none⟩ = some (.int .u32 st.c) := hA.out.at_ rfl
      have c3 : wz.cell? ⟨Ba, 3, none⟩ = some (.int .u32 st.d) := hA.out.at_ rfl
      have c4 : wz.cell? ⟨Ba, 4, none⟩ = some (.int .u32 st.e) := hA.out.at_ rfl
      have c5 : wz.cell? ⟨Ba, 5, none⟩ = some (.int .u32 st.f) := hA.out.at_ rfl
      have c6 : wz.cell? ⟨Ba, 6, none⟩ = some (.int .u32 st.g) := hA.out.at_ rfl
      go_wp2_with fail
      go_quiet ((go_at_call 26; exact Calls.quiet_of (rotr_any _ _ _ (by decide) (by decide))))
      go_wp2_with (refine wpList_store_Row rfl 45 _ _ rfl Ba _ rfl rfl 45 _ hA.out size45 rfl (by intro v hv; simp only [List.mem_cons, List.not_mem_nil, or_false] at hv; rcases hv with rfl | rfl | rfl | rfl | rfl | rfl | rfl | rfl <;> rfl) ?_; intro w7 hr7 hg7 hs7; clear hs7; simp only [Act.put, List.setIfInBounds_toArray, List.set_cons_zero, List.set_cons_succ])
      have hrow' : Row w7 Ba 45 (v8 (rnd st kk wk)) := by
        refine cast ?_ hr7
        congr 1
        show _ = [Value.int .u32 ((t1f st kk wk + t2f st) % 4294967296), .int .u32 st.a, .int .u32 st.b, .int .u32 st.c, .int .u32 ((st.d + t1f st kk wk) % 4294967296), .int .u32 st.e, .int .u32 st.f, .int .u32 st.g]
        have e1 := rnd_a st kk wk
        have e2 := rnd_e st kk wk
        rw [e1, e2]
      go_roundw
      case rel =>
        refine ⟨k + 1, rnd st kk wk, by omega, by go_num, Lib.hid ?_, Lib.hid hrow', Lib.hid ((hV.out.drewN _).grown hg7 (by simp; omega)), Lib.hid ((hO.out.drewN _).grown hg7 (by simp; omega)), Lib.hid ((hWr.out.drewN _).grown hg7 (by simp; omega)), Lib.hid (grown_own (grown_drewN hG.out _) hg7 (by intro i hi; right; have := HBv.out; simp at hi; omega))⟩
        rw [roundsT, ← hst.out, Hwk.out, Hkk.out]
      case measure => simp [intOf]; omega
    · have hk64 : k = 64 := by omega
      subst hk64
      simp only [Int.cast_ofNat_Int]
      obtain ⟨wo, hwo⟩ : ∃ wo : World, wo = wr := ⟨_, rfl⟩
      subst hwo
      have hmix : Hid (Row wo Bv 45 (mix s st 0 ++ [])) := Lib.hid (by rw [List.append_nil]; have := hV.out; rw [← HV8.out] at this; exact this)
      have hfin : Hid (mix s st 8 = v8 (comp s blk)) := Lib.hid (by rw [mix_all, ← Hcomp.out st hst.out]; rfl)
      obtain ⟨R8, hR8⟩ : ∃ R, v8 (comp s blk) = R := ⟨_, rfl⟩
      rw [hR8] at hfin
      have h1R := oneCell_v8 (comp s blk)
      have hlR := v8_length (comp s blk)
      rw [hR8] at h1R hlR
      have HR8 : Hid (True → v8 (comp s blk) = R8) := Lib.hid (fun _ => hR8)
      have H1R := Lib.hid h1R
      have HlR := Lib.hid hlR
      clear hR8 h1R hlR
      go_wp2_with fail
      go_loopw [14] (fun i wr => ∃ k : Nat, k ≤ 8 ∧ i = .int .i64 k ∧ Row wr Bv 45 (mix s st k ++ []) ∧ Hid (Row wr Ba 45 (v8 st)) ∧ Hid (Row wr Bo 45 (v8 ⟨0, 0, 0, 0, 0, 0, 0, 0⟩)) ∧ Hid (w.grownBy wr none))
        (fun i _ => 8 - (intOf i).toNat)
      case atStart => exact ⟨0, by omega, rfl, hmix.out, hA, hO, hG⟩
      case round =>
        clear hA hO hG hV hWr hmix
        obtain ⟨k, hk, rfl, hrow, hA, hO, hG⟩ := hrel
        by_cases hlt : k < 8
        · have c0 := hrow.at_ (mix_get s st _ k hlt)
          have d0 := hrow.frozen k
          have c1 := hA.out.at_ (v8_get st k hlt)
          obtain ⟨x, hx⟩ : ∃ x, s.list.getD k 0 = x := ⟨_, rfl⟩
          obtain ⟨y, hy⟩ : ∃ x, st.list.getD k 0 = x := ⟨_, rfl⟩
          rw [hx] at c0
          rw [hy] at c1
          have Hx := Lib.hid hx
          have Hy := Lib.hid hy
          have Hrow := Lib.hid hrow
          clear hx hy hrow
          go_wp2_with fail
          refine wp_region_drawn_tail 9 (by kernel_rfl) (by kernel_rfl) ?_
          simp only [List.take_succ_cons, List.take_zero, List.drop_succ_cons, List.drop_zero]
          repeat (go_big_quiet_step (fail))
          refine wpQuiet_nil ?_
          rintro _ ⟨nq, rfl⟩
          go_wp2_with fail
          go_roundw
          case rel =>
            refine ⟨k + 1, by omega, by go_num, ?_, Lib.hid ((hA.out.drewN _).set_other (by omega) _ _), Lib.hid ((hO.out.drewN _).set_other (by omega) _ _), Lib.hid (grown_set (grown_drewN hG.out _) (Or.inr (by have := HBv.out; omega)) _ _)⟩
            have := (Hrow.out.drewN nq).set k (.int .u32 ((x + y) % 4294967296))
            rw [← Hx.out, ← Hy.out, mix_set s st _ k hlt, Hx.out, Hy.out] at this
            exact this
          case measure => simp [intOf]; omega
        · have hk8 : k = 8 := by omega
          subst hk8
          simp only [Int.cast_ofNat_Int]
          rw [List.append_nil, hfin.out] at hrow
          have Hrow := Lib.hid hrow
          clear hrow
          go_wp2_with (first
            | (refine wpList_load_Row rfl 45 _ rfl Bv rfl R8 45 Hrow.out _ Tryd.underlying45 rfl (by rw [HlR.out]; exact size45) ?_; simp only [Act.put, List.setIfInBounds_toArray, List.set_cons_zero, List.set_cons_succ])
            | (refine wpList_store_Row rfl 45 _ _ rfl Bo R8 rfl rfl 45 _ hO.out (by rw [HlR.out]; exact size45) (by rw [HlR.out]; rfl) H1R.out ?_; intro w12 hr12 hg12 hs12; clear hs12; simp only [Act.put, List.setIfInBounds_toArray, List.set_cons_zero, List.set_cons_succ]))
          refine bodyPost_ret (v := .agg R8.toArray) (results_cell_row (p := 4) (ty := 45) rfl _ _ Bo 45 R8.toArray (0, 0) _ rfl hr12 Tryd.underlying45 rfl (by rw [List.size_toArray, HlR.out]; exact size45)) rfl ⟨?_, ?_⟩
          · rw [HR8.out trivial]
          · exact below_of_grown (grown_own hG.out hg12 (by intro i hi; right; have := HBv.out; simp at hi; omega))
end Go.Proofs.YtkfdaeipfjcibaaDoor
