/- The reference's Sum: pad, step, hand out. -/
import Derived.Test.YtkfdaeipfjcibaaDoorPad
import Derived.Test.YtkfdaeipfjcibaaDoorRefS
namespace Go.Proofs.YtkfdaeipfjcibaaDoor
open Go.RowKit
set_option linter.unusedVariables false
set_option linter.unusedSimpArgs false
section
variable {P : Program} {ops : Array Oper} {rest : List Oper} {o : Oper} {a : Act} {C : World → Prop} {Q : Act → Prop}
/-- A whole array is read in a drawn region. -/
theorem wpQuiet_load_Row (hw : Region.wanted o (yielded ops a.tmps) = true) (T : TypeId) (x : Operand) (ho : o.op = .load T x) (b : Nat) (hx : a.eval x = .pointer (some ⟨b, 0, none⟩)) (cs : List Value) (U : TypeId)
    (hg : ∀ w, C w → Row w b U cs) (d : TypeDesc) (hu : P.underlying T = some d) (hd : (match d with | .struct _ | .array _ _ => true | _ => false) = true) (hi : (P.info? T).map (·.size) = some cs.length)
    (h : wpQuiet P ops C Q rest (a.put o.dst (.agg cs.toArray))) : wpQuiet P ops C Q (o :: rest) a := by
  unfold wpQuiet
  rw [if_pos hw]
  refine ⟨_, fun w hC => ?_, h⟩
  unfold Oper.quietAt execOp
  simp only [ho, hx, Instr.loadAt, Instr.sureAddr, Sem.run_bind, Sem.run_pure, Result.andThen_ok, run_loadVar_row w b U T cs.toArray (0, 0) d (hg w hC) hu hd (by simpa using hi)]
  exact ⟨rfl, rfl⟩
end
theorem padded_length (l : List Int) : (padded l).length = 64 * ((padded l).length / 64) := by
  have : (padded l).length = l.length + 1 + padTo l.length + 8 := by simp [padded, lenBytes]; omega
  rw [this]; unfold padTo; omega
theorem padded_le (l : List Int) : (padded l).length ≤ l.length + 72 := by
  have : (padded l).length = l.length + 1 + padTo l.length + 8 := by simp [padded, lenBytes]; omega
  rw [this]; unfold padTo; omega
theorem slice_block (g n c q : Nat) (hc : n ≤ c) (hq : 64 * q + 64 ≤ n) (W : World) :
    (Instr.slice 22 (.slice (some ⟨g, 0, none⟩) n c) (some (.int .i64 ((64 * q : Nat) : Int))) (some (.int .i64 (((64 * q : Nat) : Int) + 64))) none).run Tryd.prog W = .ok (.slice (some ⟨g, 64 * q, none⟩) 64 (c - 64 * q)) W := by
  have hz : (sizeOf (Tryd.prog.elem 22)).run Tryd.prog W = .ok 1 W := by kernel_rfl
  rw [run_slice_lh W 22 _ n c (by kernel_rfl) .i64 .i64 _ _ (by omega) (by omega) (by omega), hz]
  have e1 : (((64 * q : Nat) : Int)).toNat = 64 * q := by omega
  have e2 : (((64 * q : Nat) : Int) + 64).toNat = 64 * q + 64 := by omega
  simp only [Result.andThen, sliced, e1, e2]
  rw [if_neg (by omega)]
  simp [Addr.add]
  omega
theorem own_block {w : World} {base : Nat} {v : Value} {l : List Int} (h : Own w base v l) (h0 : 0 < l.length) : ∃ g c, v = .slice (some ⟨g, 0, none⟩) l.length c ∧ l.length ≤ c ∧ base ≤ g ∧ g < w.heap.size ∧ ∀ j, j < l.length → w.cell? ⟨g, j, none⟩ = some (.int .u8 (l.getD j 0)) := by
  rcases h.2 with ⟨_, h1⟩ | ⟨g, cap, cur, rfl, hb, hg, hn, hm, hs, ht⟩
  · omega
  · refine ⟨g, cap, rfl, hn, hb, (Array.getElem?_eq_some_iff.1 hg).1, fun j hj => ?_⟩
    rw [World.ownsRow.cellAt h j (by omega)]; simp [hj]
set_option maxHeartbeats 3200000 in
set_option maxRecDepth 100000 in
theorem rsum_any (A : Option Addr) (c : Nat) (x : List Int) (w : World) (hA : A = none → x = [] ∧ c = 0) (hx : Src w A x) (hsz : x.length ≤ 536870912) :
    Calls Tryd.prog 11 #[.slice A x.length c] w fun e w' => e = .returned (.agg (bytesA (sha x))) ∧ Below w.heap.size w w' := by
  have HX := Lib.hid hx
  have HA := Lib.hid hA
  clear hx hA
  obtain ⟨L, hL⟩ : ∃ L, padded x = L := ⟨_, rfl⟩
  obtain ⟨N, hN⟩ : ∃ N, L.length / 64 = N := ⟨_, rfl⟩
  have hLl : L.length = 64 * N := by rw [← hN, ← hL]; exact padded_length x
  have hNb : N ≤ 8388700 := by have := padded_le x; rw [hL] at this; omega
  have hsha : bytesA (sha x) = bytesA (outBytes (comps IV L N)) := by rw [sha, hL, hN]
  have hpad : Hid (∀ W, w.grownBy W none → Calls Tryd.prog 21 #[.slice A x.length c] W fun e w' => ∃ v, e = .returned v ∧ Own w' W.heap.size v L ∧ W.grownBy w' none) := Lib.hid fun W hW => by
    rw [← hL]
    exact padded_any A c x W HA.out (HX.out.grown hW (by simp)) (by omega)
  have HN1 : Hid (64 ≤ L.length) := Lib.hid (by rw [← hL]; have := padded_length x; have : (padded x).length = x.length + 1 + padTo x.length + 8 := by simp [padded, lenBytes]; omega
                                                omega)
  rw [hsha]
  have HLl := Lib.hid hLl
  have HNb := Lib.hid hNb
  clear hL hN hLl hNb hsha HA
  obtain ⟨V0, hV0⟩ : ∃ V, v8 IV = V := ⟨_, rfl⟩
  have HV0 : Hid (True → v8 IV = V0) := Lib.hid fun _ => hV0
  have Hl0 : Hid (V0.length = 8) := Lib.hid (by rw [← hV0]; exact v8_length _)
  have H10 : Hid (∀ v ∈ V0, v.oneCell' = true) := Lib.hid (by rw [← hV0]; exact oneCell_v8 _)
  have HA0 : Hid (True → (#[Value.int .u32 1779033703, .int .u32 3144134277, .int .u32 1013904242, .int .u32 2773480762, .int .u32 1359893119, .int .u32 2600822924, .int .u32 528734635, .int .u32 1541459225] : Array Value) = V0.toArray) := Lib.hid fun _ => by rw [← hV0]; rfl
  clear hV0
  go_enter Tryd.func11, Tryd.ntmps11
  go_wp2_with (first
    | (refine wpList_alloc_abs (o := ⟨some 2, _, _, _, _, _⟩) rfl 25 rfl z32 _ (zero25 _) rfl ?_; intro w1 hr1 hg1 hs1; simp only [Act.put, List.setIfInBounds_toArray, List.set_cons_zero, List.set_cons_succ]; have Hs1 := Lib.hid hs1; clear hs1)
    | (refine wpList_alloc_abs (o := ⟨some 3, _, _, _, _, _⟩) rfl 45 rfl _ _ (zero45 _) rfl ?_; intro w2 hr2 hg2 hs2; simp only [Act.put, List.setIfInBounds_toArray, List.set_cons_zero, List.set_cons_succ]; have Hs2 := Lib.hid hs2; clear hs2; rw [HA0.out trivial])
    | (refine wpList_store_Row (o := ⟨_, .store 45 _ _, _, _, _, _⟩) rfl 45 _ _ rfl w1.heap.size V0 rfl rfl 45 _ hr2 (by rw [Hl0.out]; exact size45) (by rw [Hl0.out]; rfl) H10.out ?_; intro w3 hr3 hg3 hs3; simp only [Act.put, List.setIfInBounds_toArray, List.set_cons_zero, List.set_cons_succ]
       have HG3 : Hid (w.grownBy w3 none) := Lib.hid (grown_own (grown_own hg1 hg2 (by simp)) hg3 (by intro i hi; right; have := Hs1.out; simp at hi; omega))
       have HO3 : Hid (Row w3 w.heap.size 25 z32) := Lib.hid ((hr1.grown hg2 (by simp)).grown hg3 (by have := Hs1.out; simp; omega))
       have HV3 := Lib.hid hr3
       have HS3 : Hid (w3.heap.size = w.heap.size + 2) := Lib.hid (by have := Hs1.out; have := Hs2.out; omega)
       clear hr3 hg3 hs3 hr2 hg2 hr1 hg1)
    | (go_at_call 21; refine (hpad.out w3 HG3.out).mono ?_; rintro e w4 ⟨v4, rfl, ho4, hg4⟩
       have Ho4 := Lib.hid ho4
       have HG4 : Hid (w.grownBy w4 none) := Lib.hid (grown_own HG3.out hg4 (by simp))
       have HO4 : Hid (Row w4 w.heap.size 25 z32) := Lib.hid (HO3.out.grown hg4 (by simp))
       have HV4 : Hid (Row w4 w1.heap.size 45 V0) := Lib.hid (HV3.out.grown hg4 (by simp))
       clear ho4 hg4))
  obtain ⟨g, cg, rfl, hcg, hbg, hgl, hsrc⟩ := own_block Ho4.out (by have := HN1.out; omega)
  have Hcg := Lib.hid hcg
  have Hbg := Lib.hid hbg
  have Hsrc := Lib.hid hsrc
  clear hcg hbg hsrc hgl
  go_loopw [5] (fun i wr => ∃ (q : Nat) (V : List Value), q ≤ N ∧ i = .int .i64 ((64 * q : Nat) : Int) ∧ Hid (True → v8 (comps IV L q) = V) ∧ Hid (V.length = 8) ∧ Hid (∀ v ∈ V, v.oneCell' = true) ∧ Hid (Row wr w1.heap.size 45 V) ∧ Hid (w4.grownBy wr (some w1.heap.size)))
    (fun i _ => 64 * N - (intOf i).toNat)
  case atStart => exact ⟨0, V0, by omega, rfl, HV0, Hl0, H10, HV4, Lib.hid (grown_refl _ _)⟩
  case round =>
    clear HV4 HA0 HV0 Hl0 H10
    obtain ⟨q, V, hq, rfl, HV, HVl, H1V, Hrow, HG⟩ := hrel
    obtain ⟨m, hm⟩ : ∃ m, 64 * q = m := ⟨_, rfl⟩
    rw [hm]
    by_cases hlt : q < N
    · have hmL : m + 64 ≤ L.length := by have := HLl.out; omega
      have hmb : (m : Int) ≤ 600000000 := by have := HNb.out; omega
      have hsl : ∀ W, (Instr.slice 22 (.slice (some ⟨g, 0, none⟩) L.length cg) (some (.int .i64 (m : Int))) (some (.int .i64 ((m : Int) + 64))) none).run Tryd.prog W = .ok (.slice (some ⟨g, m, none⟩) 64 (cg - m)) W := fun W => by
        have := slice_block g L.length cg q Hcg.out (by have := HLl.out; omega) W
        rwa [hm] at this
      obtain ⟨V', hV'⟩ : ∃ V', v8 (comps IV L (q + 1)) = V' := ⟨_, rfl⟩
      have hstep : Hid (∀ W, w4.grownBy W (some w1.heap.size) → Calls Tryd.prog 22 #[.agg V.toArray, .slice (some ⟨g, m, none⟩) 64 (cg - m)] W fun e w' => e = .returned (.agg V'.toArray) ∧ Below W.heap.size W w') := Lib.hid fun W hW => by
        rw [← HV.out trivial, ← hV']
        have hl64 : ((L.drop (64 * q)).take 64).length = 64 := by simp; omega
        refine rstep_any (comps IV L q) g m (cg - m) ((L.drop (64 * q)).take 64) W hl64 fun j hj => ?_
        have hj' := Hsrc.out (m + j) (by omega)
        rw [grown_cell hW (block_lt_of_cell hj') (by have := Hbg.out; have := HS3.out; have := Hs1.out; simp; omega), hj']
        congr 2
        simp [List.getD_eq_getElem?_getD, List.getElem?_take, hj, hm]
      have HV' : Hid (True → v8 (comps IV L (q + 1)) = V') := Lib.hid fun _ => hV'
      have HV'l : Hid (V'.length = 8) := Lib.hid (by rw [← hV']; exact v8_length _)
      have H1V' : Hid (∀ v ∈ V', v.oneCell' = true) := Lib.hid (by rw [← hV']; exact oneCell_v8 _)
      have HM := Lib.hid hm
      clear hV' HV H1V hm
      go_wp2_with fail
      refine wp_region_drawn_tail 6 (by kernel_rfl) (by kernel_rfl) ?_
      simp only [List.take_succ_cons, List.take_zero, List.drop_succ_cons, List.drop_zero]
      refine wpQuiet_load_Row rfl 45 _ rfl w1.heap.size rfl V 45 (by rintro _ ⟨n, rfl⟩; exact Hrow.out.drewN n) _ Tryd.underlying45 rfl (by rw [HVl.out]; exact size45) ?_
      simp only [Act.put, List.setIfInBounds_toArray, List.set_cons_zero, List.set_cons_succ]
      repeat (go_big_quiet_step (fail))
      refine wpQuiet_nil ?_
      rintro _ ⟨nq, rfl⟩
      go_wp2_with (first
        | (go_at_call 22; refine (hstep.out (wr.drewN nq) (grown_drewN HG.out nq)).mono ?_; rintro e w7 ⟨rfl, hb7⟩
           have Hrow7 : Hid (Row w7 w1.heap.size 45 V) := Lib.hid ((Hrow.out.drewN nq).below hb7 (Hrow.out.drewN nq).lt)
           have HG7 : Hid (w4.grownBy w7 (some w1.heap.size)) := Lib.hid (grown_below (grown_drewN HG.out nq) hb7 (grown_drewN HG.out nq).size)
           clear hb7)
        | (refine wpList_store_Row rfl 45 _ _ rfl w1.heap.size V' rfl rfl 45 V Hrow7.out (by rw [HV'l.out]; exact size45) (by rw [HV'l.out]; exact HVl.out) H1V'.out ?_; intro w8 hr8 hg8 hs8; simp only [Act.put, List.setIfInBounds_toArray, List.set_cons_zero, List.set_cons_succ]
           have Hr8 := Lib.hid hr8
           have HG8 : Hid (w4.grownBy w8 (some w1.heap.size)) := Lib.hid (grown_trans HG7.out hg8)
           clear hr8 hg8 hs8))
      go_roundw
      case rel => exact ⟨q + 1, V', by omega, by rw [show 64 * (q + 1) = m + 64 by have := HM.out; omega]; go_num, HV', HV'l, H1V', Hr8, HG8⟩
      case measure => have := HM.out; simp [intOf]; omega
    · have hqN : q = N := by omega
      subst hqN
      have hmL : m = L.length := by have := HLl.out; omega
      subst hmL
      have HG5 : Hid (w.grownBy wr none) := Lib.hid (grown_own HG4.out HG.out (by intro i hi; right; have := Hs1.out; simp at hi; omega))
      have HO5 : Hid (Row wr w.heap.size 25 z32) := Lib.hid (HO4.out.grown HG.out (by have := Hs1.out; simp; omega))
      obtain ⟨S, hS⟩ : ∃ S, comps IV L q = S := ⟨_, rfl⟩
      rw [hS] at HV
      have HSq := Lib.hid hS
      have hv : Hid (∀ j, j < 8 → wr.cell? ⟨w1.heap.size, j, none⟩ = some (.int .u32 (S.list.getD j 0))) := Lib.hid fun j hj => Hrow.out.at_ (by rw [← HV.out trivial]; exact v8_get S j hj)
      have hlo : Hid ((outBytes S).length = 32) := Lib.hid (outBytes_length S)
      have HB1 : Hid (w1.heap.size < wr.heap.size) := Lib.hid Hrow.out.lt
      clear hS HV HVl H1V Hrow HG HO4 HG4 HO3 HV3 HG3 hpad hq hlt hm
      go_wp2_with (refine wpList_alloc_abs rfl 25 rfl z32 _ (zero25 _) rfl ?_; intro w9 hr9 hg9 hs9; simp only [Act.put, List.setIfInBounds_toArray, List.set_cons_zero, List.set_cons_succ]
                   have Hr9 : Hid (Row w9 wr.heap.size 25 (part (outBytes S) 0)) := Lib.hid (by rw [part_zero, hlo.out]; exact hr9)
                   have HG9 : Hid (w.grownBy w9 none) := Lib.hid (grown_own HG5.out hg9 (by simp))
                   have HO9 : Hid (Row w9 w.heap.size 25 z32) := Lib.hid (HO5.out.grown hg9 (by simp))
                   have hv9 : Hid (∀ j, j < 8 → w9.cell? ⟨w1.heap.size, j, none⟩ = some (.int .u32 (S.list.getD j 0))) := Lib.hid fun j hj => by rw [grown_cell hg9 HB1.out (by simp)]; exact hv.out j hj
                   have HB9 : Hid (w.heap.size < wr.heap.size ∧ wr.heap.size < w9.heap.size) := Lib.hid (by have := Hs1.out; have := HB1.out; omega)
                   clear hr9 hg9 hs9)
      obtain ⟨B, hB⟩ : ∃ B, wr.heap.size = B := ⟨_, rfl⟩
      rw [hB] at Hr9 HB9 HB1 ⊢
      clear hB HG5 HO5 hv
      go_loopw [7] (fun i wr => ∃ j : Nat, j ≤ 32 ∧ i = .int .i64 j ∧ Row wr B 25 (part (outBytes S) j) ∧ Hid (w9.grownBy wr (some B)))
        (fun i _ => 32 - (intOf i).toNat)
      case atStart => exact ⟨0, by omega, rfl, Hr9.out, Lib.hid (grown_refl _ _)⟩
      case round =>
        clear Hr9
        obtain ⟨j, hj, rfl, hrow, HGq⟩ := hrel
        by_cases hlt : j < 32
        · have c0 := hrow.at_ (part_free (outBytes S) j (by have := hlo.out; omega))
          have d0 := hrow.frozen j
          have c1 : wr.cell? ⟨w1.heap.size, j / 4, none⟩ = some (.int .u32 (S.list.getD (j / 4) 0)) := by
            have h := hv9.out (j / 4) (by omega)
            rw [grown_cell HGq.out (block_lt_of_cell h) (by have := HB1.out; simp; omega)]; exact h
          have hrow' := Lib.hid hrow
          clear hrow
          obtain ⟨y, hy⟩ : ∃ y, S.list.getD (j / 4) 0 = y := ⟨_, rfl⟩
          rw [hy] at c1
          have Hy := Lib.hid hy
          clear hy
          go_wp2_with fail
          go_roundw
          case rel =>
            refine ⟨j + 1, by omega, by go_num, ?_, Lib.hid (grown_set HGq.out (Or.inl rfl) _ _)⟩
            have := hrow'.out.set j (.int .u8 ((outBytes S).getD j 0))
            rw [part_set _ _ (by have := hlo.out; omega)] at this
            have e : (outBytes S).getD j 0 = y / 2 ^ (24 - 8 * (j % 4)) % 256 := by
              rw [← Hy.out]; simp [outBytes, List.getElem?_range hlt]
            rw [e] at this
            exact this
          case measure => simp [intOf]; omega
        · have hj32 : j = 32 := by omega
          subst hj32
          simp only [Int.cast_ofNat_Int]
          have hrow1 : Row wr B 25 ((outBytes S).map (Value.int .u8)) := by
            rw [← part_all, hlo.out]; exact hrow
          have hlm : Hid (((outBytes S).map (Value.int .u8)).length = 32) := Lib.hid (by rw [List.length_map, hlo.out])
          have h1c := oneCell_bytes (outBytes S)
          have HOq : Hid (Row wr w.heap.size 25 z32) := Lib.hid (HO9.out.grown HGq.out (by have := HB9.out; simp; omega))
          have HGw : Hid (w.grownBy wr none) := Lib.hid (grown_own HG9.out HGq.out (by intro i hi; right; have := HB9.out; simp at hi; omega))
          obtain ⟨C, hC⟩ : ∃ C, (outBytes S).map (Value.int .u8) = C := ⟨_, rfl⟩
          rw [hC] at hrow1 hlm h1c
          have HC := Lib.hid hC
          have Hrow1 := Lib.hid hrow1
          clear hrow1 hC hrow HGq HO9 HG9
          go_wp2_with (first
            | (refine wpList_load_Row rfl 25 _ rfl B rfl C 25 Hrow1.out _ Tryd.underlying25 rfl (by rw [hlm.out]; exact size25) ?_; simp only [Act.put, List.setIfInBounds_toArray, List.set_cons_zero, List.set_cons_succ])
            | (refine wpList_store_Row rfl 25 _ _ rfl w.heap.size C rfl rfl 25 z32 HOq.out (by rw [hlm.out]; exact size25) (by rw [hlm.out]; rfl) h1c ?_; intro w10 hr10 hg10 hs10; clear hs10))
          refine bodyPost_ret (v := .agg C.toArray) (results_cell_row (p := 2) (ty := 25) rfl _ _ w.heap.size 25 C.toArray (0, 0) _ rfl hr10 Tryd.underlying25 rfl (by rw [List.size_toArray, hlm.out]; exact size25)) rfl ⟨?_, ?_⟩
          · rw [← HC.out, ← HSq.out]; rfl
          · exact below_of_grown (grown_own HGw.out hg10 (by intro i hi; right; simp at hi; omega))
end Go.Proofs.YtkfdaeipfjcibaaDoor
