/- The reference's words: the 64 words of 64 bytes. -/
import Derived.Test.YtkfdaeipfjcibaaDoorMac
namespace Go.Proofs.YtkfdaeipfjcibaaDoor
open Go.RowKit
set_option linter.unusedVariables false
set_option linter.unusedSimpArgs false
def zW : List Value := List.replicate 64 (.int .u32 0)
theorem zero52 (w : World) : (zeroValue 52).run Tryd.prog w = .ok (.agg zW.toArray) w := by kernel_rfl
theorem size52 : (Tryd.prog.info? 52).map (·.size) = some 64 := by kernel_rfl
theorem oneCell_words (l : List Int) : ∀ v ∈ l.map (Value.int .u32), v.oneCell' = true := by
  intro v hv; simp only [List.mem_map] at hv; obtain ⟨_, _, rfl⟩ := hv; rfl
theorem wcells_full {l : List Int} (h : l.length = 64) : wcells l = l.map (Value.int .u32) := by simp [wcells, h]
def wordsA (l : List Int) : Array Value := (l.map (Value.int .u32)).toArray
set_option maxHeartbeats 3200000 in
set_option maxRecDepth 100000 in
theorem words_any (sb so c : Nat) (blk : List Int) (w : World) (hlen : blk.length = 64) (hsrc : ∀ j, j < 64 → w.cell? ⟨sb, so + j, none⟩ = some (.int .u8 (blk.getD j 0))) :
    Calls Tryd.prog 25 #[.slice (some ⟨sb, so, none⟩) 64 c] w fun e w' => e = .returned (.agg (wordsA (wsched blk 48))) ∧ Below w.heap.size w w' := by
  have Hsrc := Lib.hid hsrc
  have hsb : sb < w.heap.size := block_lt_of_cell (hsrc 0 (by omega))
  clear hsrc
  go_enter Tryd.func25, Tryd.ntmps25
  go_upto_region 2 with (first
    | (refine wpList_alloc_abs (o := ⟨some 2, _, _, _, _, _⟩) rfl 52 rfl zW _ (zero52 _) rfl ?_; intro w1 hr1 hg1 hs1; have Hs1 := Lib.hid hs1; clear hs1)
    | (refine wpList_alloc_abs (o := ⟨some 3, _, _, _, _, _⟩) rfl 52 rfl zW _ (zero52 _) rfl ?_; intro w2 hr2 hg2 hs2; clear hs2))
  have hG2 : Hid (w.grownBy w2 none) := Lib.hid (grown_own hg1 hg2 (by simp))
  have hO2 : Hid (Row w2 w.heap.size 52 zW) := Lib.hid (hr1.grown hg2 (by simp))
  have hB : w.heap.size < w1.heap.size := hr1.lt
  obtain ⟨B, hBe⟩ : ∃ B, w1.heap.size = B := ⟨_, rfl⟩
  rw [hBe] at hr2 hB ⊢
  clear hBe hg1 hg2 hr1 Hs1
  go_wp2_with fail
  go_loopw [4] (fun i wr => ∃ k : Nat, k ≤ 16 ∧ i = .int .i64 k ∧ Row wr B 52 (wcells (words16 blk k)) ∧ Hid (w.grownBy wr none) ∧ Hid (Row wr w.heap.size 52 zW))
    (fun i _ => 16 - (intOf i).toNat)
  case atStart => exact ⟨0, by omega, rfl, hr2, hG2, hO2⟩
  case round =>
    clear hG2 hO2 hr2
    obtain ⟨k, hk, rfl, hd, hG, hO⟩ := hrel
    by_cases hlt : k < 16
    · have cc : ∀ j, j < 64 → wr.cell? ⟨sb, so + j, none⟩ = some (.int .u8 (blk.getD j 0)) := fun j hj => by
        rw [grown_cell hG.out hsb (by simp)]; exact Hsrc.out j hj
      have c0 := cc (4 * k) (by omega)
      have c1 := cc (4 * k + 1) (by omega)
      have c2 := cc (4 * k + 2) (by omega)
      have c3 := cc (4 * k + 3) (by omega)
      clear cc
      have d1 : wr.cell? ⟨B, k, none⟩ = some (.int .u32 0) := by
        have := hd.at_ (wcells_free (words16 blk k) (by rw [words16_length]; omega))
        rwa [words16_length] at this
      have d2 := hd.frozen k
      have Hd := Lib.hid hd
      clear hd
      go_wp2_with fail
      refine wp_region_drawn_tail 35 (by kernel_rfl) (by kernel_rfl) ?_
      simp only [List.take_succ_cons, List.take_zero, List.drop_succ_cons, List.drop_zero]
      repeat (go_big_quiet_step (fail))
      refine wpQuiet_nil ?_
      rintro _ ⟨nq, rfl⟩
      go_wp2_with fail
      go_roundw
      case rel =>
        refine ⟨k + 1, by omega, by go_num, ?_, Lib.hid (grown_set (grown_drewN hG.out _) (Or.inr (by omega)) _ _), Lib.hid ((hO.out.drewN _).set_other (by omega) _ _)⟩
        rw [words16_succ]
        have := row_words (w' := w) (x := word4 blk k) Hd.out (by rw [words16_length]; omega) k (by rw [words16_length]) nq
        simp only [word4, List.getD_eq_getElem?_getD] at this ⊢
        exact this
      case measure => simp [intOf]; omega
    · have hk16 : k = 16 := by omega
      subst hk16
      simp only [Nat.reduceAdd, Int.cast_ofNat_Int]
      obtain ⟨wo, hwo⟩ : ∃ wo : World, wo = wr := ⟨_, rfl⟩
      subst hwo
      go_wp2_with fail
      go_loopw [5] (fun i wr => ∃ k : Nat, k ≤ 48 ∧ i = .int .i64 ((16 + k : Nat) : Int) ∧ Row wr B 52 (wcells (wsched blk k)) ∧ Hid (w.grownBy wr none) ∧ Hid (Row wr w.heap.size 52 zW))
        (fun i _ => 64 - (intOf i).toNat)
      case atStart => exact ⟨0, by omega, rfl, hd, hG, hO⟩
      case round =>
        clear hd hG hO
        obtain ⟨k, hk, rfl, hd, hG, hO⟩ := hrel
        by_cases hlt : k < 48
        · have hlen' := wsched_length blk k
          have c0 : wr.cell? ⟨B, 16 + k - 15, none⟩ = _ := hd.at_ (wcells_get _ _ (by omega))
          have c1 : wr.cell? ⟨B, 16 + k - 2, none⟩ = _ := hd.at_ (wcells_get _ _ (by omega))
          have Hlen := Lib.hid hlen'
          clear hlen'
          go_wp2_with (go_at_call 26; refine (rotr_any _ _ _ (by decide) (by decide)).mono ?_; rintro e w' ⟨rfl, n1, rfl⟩)
          clear c0 c1
          generalize hwq : wr.drewN _ = wq
          replace hd : Row wq B 52 (wcells (wsched blk k)) := by rw [← hwq]; exact hd
          replace hO : Hid (Row wq w.heap.size 52 zW) := by rw [← hwq]; exact hO
          replace hG : Hid (w.grownBy wq none) := by rw [← hwq]; exact Lib.hid (grown_drewN hG.out _)
          clear hwq
          have c2 : wq.cell? ⟨B, k, none⟩ = _ := hd.at_ (wcells_get _ _ (by have := Hlen.out; omega))
          have c3 : wq.cell? ⟨B, 16 + k - 7, none⟩ = _ := hd.at_ (wcells_get _ _ (by have := Hlen.out; omega))
          have d1 : wq.cell? ⟨B, 16 + k, none⟩ = some (.int .u32 0) := by
            have := hd.at_ (wcells_free (wsched blk k) (by have := Hlen.out; omega))
            rwa [Hlen.out] at this
          have d2 := hd.frozen (16 + k)
          have Hd := Lib.hid hd
          clear hd
          refine wp_region_drawn_tail 15 (by kernel_rfl) (by kernel_rfl) ?_
          simp only [List.take_succ_cons, List.take_zero, List.drop_succ_cons, List.drop_zero]
          repeat (go_big_quiet_step (fail))
          refine wpQuiet_nil ?_
          rintro _ ⟨nq2, rfl⟩
          go_wp2_with fail
          go_roundw
          case rel =>
            refine ⟨k + 1, by omega, by go_num, ?_, Lib.hid (grown_set (grown_drewN hG.out _) (Or.inr (by omega)) _ _), Lib.hid ((hO.out.drewN _).set_other (by omega) _ _)⟩
            have hlen2 := Hlen.out
            have := row_words (w' := w) (x := wnext (wsched blk k)) Hd.out (by omega) (16 + k) hlen2.symm nq2
            rw [wsched]
            have e : wnext (wsched blk k) = (bits .xor .u32 (bits .xor .u32 (ror 17 ((wsched blk k)[16 + k - 2]?.getD 0)) (ror 19 ((wsched blk k)[16 + k - 2]?.getD 0))) ((wsched blk k)[16 + k - 2]?.getD 0 / 1024) + (wsched blk k)[16 + k - 7]?.getD 0 +
                bits .xor .u32 (bits .xor .u32 (ror 7 ((wsched blk k)[16 + k - 15]?.getD 0)) (ror 18 ((wsched blk k)[16 + k - 15]?.getD 0))) ((wsched blk k)[16 + k - 15]?.getD 0 / 8) + (wsched blk k)[k]?.getD 0) % 4294967296 := by
              simp only [wnext, sig0, sig1, hlen2, List.getD_eq_getElem?_getD, Nat.add_sub_cancel_left]
              congr 1
              omega
            rw [e] at this ⊢
            exact this
          case measure => simp [intOf]; omega
        · have hk48 : k = 48 := by omega
          subst hk48
          simp only [Nat.reduceAdd, Int.cast_ofNat_Int]
          have hWl := wsched_length blk 48
          rw [wcells_full hWl] at hd
          obtain ⟨W, hW⟩ : ∃ W, wsched blk 48 = W := ⟨_, rfl⟩
          rw [hW] at hd hWl
          have h1c := oneCell_words W
          have HC1 : Hid ((W.map (Value.int .u32)).length = 64) := Lib.hid (by rw [List.length_map, hWl])
          obtain ⟨C, hC⟩ : ∃ C, W.map (Value.int .u32) = C := ⟨_, rfl⟩
          have hpost : True → wordsA (wsched blk 48) = C.toArray := fun _ => by rw [hW, ← hC]; rfl
          rw [hC] at hd h1c HC1
          have Hpost := Lib.hid hpost
          have Hd := Lib.hid hd
          have H1c := Lib.hid h1c
          clear hW hWl hC hpost hd h1c
          go_wp2_with (first
            | (refine wpList_load_Row rfl 52 _ rfl B rfl C 52 Hd.out _ Tryd.underlying52 rfl (by rw [HC1.out]; exact size52) ?_)
            | (refine wpList_store_Row rfl 52 _ _ rfl w.heap.size C rfl rfl 52 zW hO.out (by rw [HC1.out]; exact size52) (by rw [HC1.out]; rfl) H1c.out ?_; intro w12 hr12 hg12 hs12; clear hs12))
          refine bodyPost_ret (v := .agg C.toArray) (results_cell_row (p := 2) (ty := 52) rfl _ _ w.heap.size 52 C.toArray (0, 0) _ rfl hr12 Tryd.underlying52 rfl (by rw [List.size_toArray, HC1.out]; exact size52)) rfl ⟨?_, ?_⟩
          · rw [Hpost.out trivial]
          · exact below_of_grown (grown_own hG.out hg12 (by intro i hi; right; simp at hi; omega))
end Go.Proofs.YtkfdaeipfjcibaaDoor
