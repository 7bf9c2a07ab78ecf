/- The reference's Mac. -/
import Derived.Test.YtkfdaeipfjcibaaDoorRSum
import Derived.Test.YtkfdaeipfjcibaaDoorTwo
import Derived.Deep.DeepCutAuto
namespace Go.Proofs.YtkfdaeipfjcibaaDoor
open Go.RowKit
set_option linter.unusedVariables false
set_option linter.unusedSimpArgs false
def Apart (v u : Value) : Prop := ∀ k, v.ownBlock = some k → u.ownBlock = some k → False
theorem Apart.row {v u : Value} (h : Apart v u) : u.ownBlock = none ∨ u.ownBlock ≠ v.ownBlock := by
  cases hu : u.ownBlock with
  | none => exact .inl rfl
  | some k => exact .inr fun e => h k e.symm hu
theorem Apart.symm {v u : Value} (h : Apart v u) : Apart u v := fun k h1 h2 => h k h2 h1
theorem Apart.step {v v' u : Value} {w : World} {base : Nat} {l : List Int} (h : Apart v u) (hv : ∀ k, v'.ownBlock = some k → v.ownBlock = some k ∨ w.heap.size ≤ k) (hu : Own w base u l) : Apart v' u := fun k h1 h2 => by
  rcases hv k h1 with h3 | h3
  · exact h k h3 h2
  · have := (hu.block k h2).2; omega
theorem part_kblock (key : List Int) : part (kblock key) (kb key).length = (kblock key).map (Value.int .u8) := by
  have h1 := kblock_length key
  have h2 := kb_length key
  unfold part
  rw [h1]
  conv => lhs; rw [kblock]
  conv => rhs; rw [kblock]
  simp
theorem kblock_get (key : List Int) (j : Nat) (h : j < (kb key).length) : (kblock key).getD j 0 = (kb key).getD j 0 := by
  simp [kblock, List.getD_eq_getElem?_getD, List.getElem?_append, h]
theorem xorL_take (m : Int) (l : List Int) (k : Nat) (h : k < l.length) : xorL m (l.take (k + 1)) = xorL m (l.take k) ++ [bits .xor .u8 (l.getD k 0) m] := by
  rw [List.take_succ_eq_append_getElem h]
  simp only [xorL, List.map_append, List.map_cons, List.map_nil]
  rw [show l.getD k 0 = l[k] by simp [h]]
theorem xorL_length (m : Int) (l : List Int) : (xorL m l).length = l.length := by simp [xorL]
set_option maxHeartbeats 16000000 in
set_option maxRecDepth 100000 in
theorem rmac_any (Ak Ab : Option Addr) (ck cb : Nat) (key x : List Int) (w : World) (hAk : Ak = none → key = [] ∧ ck = 0) (hAb : Ab = none → x = [] ∧ cb = 0) (hk : Src w Ak key) (hx : Src w Ab x) (hsk : key.length ≤ 268435456) (hsx : x.length ≤ 268435456) :
    Calls Tryd.prog 20 #[.slice Ak key.length ck, .slice Ab x.length cb] w fun e w' => e = .returned (.agg (bytesA (mac key x))) ∧ Below w.heap.size w w' := by
  have HX := Lib.hid hx
  have HKy := Lib.hid hk
  have HAb := Lib.hid hAb
  have HAk := Lib.hid hAk
  have Hkl := Lib.hid (kblock_length key)
  have Hkbl := Lib.hid (kb_length key)
  have Hkg := Lib.hid (kblock_get key)
  have Hpk := Lib.hid (part_kblock key)
  have Hmac : Hid (mac key x = sha (xorL 92 (kblock key) ++ sha (xorL 54 (kblock key) ++ x))) := Lib.hid rfl
  have Hkb1 : Hid (64 < key.length → kb key = sha key) := Lib.hid fun h => by simp [kb, h]
  have Hkb2 : Hid (¬ 64 < key.length → kb key = key) := Lib.hid fun h => by simp [kb, h]
  obtain ⟨Kb, hKb⟩ : ∃ y, kblock key = y := ⟨_, rfl⟩
  obtain ⟨ky, hky⟩ : ∃ y, kb key = y := ⟨_, rfl⟩
  rw [hKb] at Hkl Hkg Hpk Hmac
  rw [hky] at Hkg Hpk Hkbl Hkb1 Hkb2
  clear hx hk hAb hAk hKb hky
  go_enter Tryd.func20, Tryd.ntmps20
  go_upto_if 15 with (first
    | (refine wpList_alloc_abs rfl 25 rfl z32 _ (zero25 _) rfl ?_; intro w1 hr1 hg1 hs1; have Hs1 := Lib.hid hs1; clear hs1)
    | (refine wpList_alloc_abs rfl 47 rfl z64 _ (zero47 _) rfl ?_; intro w2 hr2 hg2 hs2; have Hs2 := Lib.hid hs2; clear hs2
       have HG2 : Hid (w.grownBy w2 none) := Lib.hid (grown_own hg1 hg2 (by simp))
       have HO2 : Hid (Row w2 w.heap.size 25 z32) := Lib.hid (hr1.grown hg2 (by simp))
       have HR2 : Hid (Row w2 w1.heap.size 47 (part Kb 0)) := Lib.hid (by rw [part_zero, Hkl.out]; exact hr2)
       clear hr1 hg1 hr2 hg2))
  go_cut [] (fun wx => Hid (Row wx w1.heap.size 47 (Kb.map (Value.int .u8))) ∧ Hid (w2.grownBy wx (some w1.heap.size)))
  case first =>
    by_cases hlong : 64 < key.length
    · have hkk := Hkb1.out hlong
      have hsh := sha_length key
      have h1c := oneCell_bytes (sha key)
      obtain ⟨C, hC⟩ : ∃ C, (sha key).map (Value.int .u8) = C := ⟨_, rfl⟩
      have hCl : C.length = 32 := by rw [← hC]; simpa using hsh
      rw [hC] at h1c
      have hCk : ky.map (Value.int .u8) = C := by rw [hkk]; exact hC
      have hkl32 : ky.length = 32 := by rw [hkk]; exact hsh
      have HC := Lib.hid hC
      have HCk := Lib.hid hCk
      have Hk32 := Lib.hid hkl32
      have HCl := Lib.hid hCl
      clear hC hCl hsh hkk hCk hkl32
      go_wp2_with (first
        | (go_at_call 11; refine (rsum_any Ak ck key w2 HAk.out (HKy.out.grown HG2.out (by simp)) (by omega)).mono ?_
           rintro e w3 ⟨rfl, hb3⟩
           have HB3 := Lib.hid hb3
           clear hb3
           unfold bytesA
           rw [HC.out])
        | (refine wpList_alloc_abs rfl 25 rfl z32 _ (zero25 _) rfl ?_; intro w4 hr4 hg4 hs4; have Hs4 := Lib.hid hs4; clear hs4)
        | (refine wpList_store_Row rfl 25 _ _ rfl w3.heap.size C rfl rfl 25 z32 hr4 (by rw [HCl.out]; exact size25) (by rw [HCl.out]; rfl) h1c ?_; intro w5 hr5 hg5 hs5; clear hs5
           have HS : Hid (w2.heap.size ≤ w3.heap.size) := Lib.hid HB3.out.size
           have HG5 : Hid (w2.grownBy w5 none) := Lib.hid (grown_own (grown_own (grown_of_below HB3.out none) hg4 (by simp)) hg5 (by intro i hi; right; have := HS.out; simp at hi; omega))
           have Hr5 := Lib.hid hr5
           have HR5 : Hid (Row w5 w1.heap.size 47 (part Kb 0)) := Lib.hid (HR2.out.grown HG5.out (by simp))
           clear hr4 hg4 hr5 hg5))
      go_loopw [7] (fun i wr => ∃ j : Nat, j ≤ 32 ∧ i = .int .i64 j ∧ Row wr w1.heap.size 47 (part Kb j) ∧ Hid (w5.grownBy wr (some w1.heap.size)))
        (fun i _ => 32 - (intOf i).toNat)
      case atStart => exact ⟨0, by omega, rfl, HR5.out, Lib.hid (grown_refl _ _)⟩
      case round =>
        clear HR5
        obtain ⟨j, hj, rfl, hrow, HG⟩ := hrel
        by_cases hlt : j < 32
        · have c0 := hrow.at_ (part_free Kb j (by have := Hkl.out; omega))
          have d0 := hrow.frozen j
          have c1 : wr.cell? ⟨w3.heap.size, j, none⟩ = some (.int .u8 (Kb.getD j 0)) := by
            have h5 := Hr5.out
            rw [← HCk.out] at h5
            have hrw : Row wr w3.heap.size 25 (ky.map (Value.int .u8)) := h5.grown HG.out (by have := HS.out; have := Hs2.out; simp; omega)
            rw [Hkg.out j (by have := Hk32.out; omega)]
            exact hrw.at_ (by simp [List.getD_eq_getElem?_getD, show j < ky.length by have := Hk32.out; omega])
          have Hrow := Lib.hid hrow
          clear hrow
          obtain ⟨y, hy⟩ : ∃ y, Kb.getD j 0 = y := ⟨_, rfl⟩
          rw [hy] at c1
          have Hy := Lib.hid hy
          clear hy
          go_wp2_with fail
          go_roundw
          case rel =>
            refine ⟨j + 1, by omega, by go_num, ?_, Lib.hid (grown_set HG.out (Or.inl rfl) _ _)⟩
            have := Hrow.out.set j (.int .u8 (Kb.getD j 0))
            rw [part_set _ _ (by have := Hkl.out; omega), Hy.out] at this
            exact this
          case measure => simp [intOf]; omega
        · have hj32 : j = 32 := by omega
          subst hj32
          simp only [Int.cast_ofNat_Int]
          have HR9 : Hid (Row wr w1.heap.size 47 (Kb.map (Value.int .u8))) := Lib.hid (by have h := Hpk.out; rw [Hk32.out] at h; rw [← h]; exact hrow)
          clear hrow
          go_wp2_with fail
          go_meet
          exact ⟨HR9, Lib.hid (grown_own (grown_none HG5.out _) HG.out (by intro i hi; left; simp at hi; simp [hi]))⟩
    · have hkk := Hkb2.out hlong
      have HKK := Lib.hid hkk
      clear hkk
      go_wp2_with fail
      go_loopw [8] (fun i wr => ∃ j : Nat, j ≤ key.length ∧ i = .int .i64 j ∧ Row wr w1.heap.size 47 (part Kb j) ∧ Hid (w2.grownBy wr (some w1.heap.size)))
        (fun i _ => key.length - (intOf i).toNat)
      case atStart => exact ⟨0, by omega, rfl, HR2.out, Lib.hid (grown_refl _ _)⟩
      case round =>
        clear HR2
        obtain ⟨j, hj, rfl, hrow, HG⟩ := hrel
        by_cases hlt : j < key.length
        · have c0 := hrow.at_ (part_free Kb j (by have := Hkl.out; omega))
          have d0 := hrow.frozen j
          obtain ⟨⟨ab, ao, asp⟩, rfl, hs, hc⟩ := HKy.out (by omega)
          simp at hs
          subst hs
          have c1 : wr.cell? ⟨ab, ao + j, none⟩ = some (.int .u8 (Kb.getD j 0)) := by
            have h := hc j hlt
            have hlt2 := block_lt_of_cell h
            rw [Hkg.out j (by rw [HKK.out]; exact hlt), HKK.out, ← h, grown_cell HG.out (by have := HG2.out.size; simp at hlt2 ⊢; omega) (by have := Hs1.out; simp at hlt2 ⊢; have := HG2.out.size; omega)]
            exact grown_cell HG2.out hlt2 (by simp)
          clear hc
          have Hrow := Lib.hid hrow
          clear hrow
          obtain ⟨y, hy⟩ : ∃ y, Kb.getD j 0 = y := ⟨_, rfl⟩
          rw [hy] at c1
          have Hy := Lib.hid hy
          clear hy
          go_wp2_with fail
          go_roundw
          case rel =>
            refine ⟨j + 1, by omega, by go_num, ?_, Lib.hid (grown_set HG.out (Or.inl rfl) _ _)⟩
            have := Hrow.out.set j (.int .u8 (Kb.getD j 0))
            rw [part_set _ _ (by have := Hkl.out; omega), Hy.out] at this
            exact this
          case measure => simp [intOf]; omega
        · have hjn : j = key.length := by omega
          subst hjn
          have HR9 : Hid (Row wr w1.heap.size 47 (Kb.map (Value.int .u8))) := Lib.hid (by have h := Hpk.out; rw [HKK.out] at h; rw [← h]; exact hrow)
          clear hrow
          go_wp2_with fail
          go_meet
          exact ⟨HR9, HG⟩
  case rest =>
    obtain ⟨HR, HG⟩ := hcut
    have hGc : Hid (w.grownBy wc none) := Lib.hid (grown_own HG2.out HG.out (by intro i hi; right; have := Hs1.out; simp at hi; omega))
    have hOc : Hid (Row wc w.heap.size 25 z32) := Lib.hid (HO2.out.grown HG.out (by have := Hs1.out; simp; omega))
    obtain ⟨N0, hN0⟩ : ∃ N0, w2.heap.size = N0 := ⟨_, rfl⟩
    have HN0 : Hid (w.heap.size < N0 ∧ w1.heap.size < N0 ∧ N0 ≤ wc.heap.size) := Lib.hid (by have := Hs1.out; have := Hs2.out; have := HG.out.size; omega)
    have hall := slice_all25
    clear hN0 HG HG2 HO2 HR2 HKy HAk Hkb1 Hkb2 Hkbl Hpk Hkg hsk
    go_wp2_with fail
    go_loopw [9, 10, 11] (fun va vb i wr => ∃ j : Nat, j ≤ 64 ∧ i = .int .i64 j ∧ Hid (Own wr N0 va (xorL 54 (Kb.take j))) ∧ Hid (Own wr N0 vb (xorL 92 (Kb.take j))) ∧ Hid (Apart va vb) ∧ Hid (Row wr w1.heap.size 47 (Kb.map (Value.int .u8))) ∧ Hid (Row wr w.heap.size 25 z32) ∧ Hid (w.grownBy wr none) ∧ Hid (N0 ≤ wr.heap.size))
      (fun _ _ i _ => 64 - (intOf i).toNat)
    case atStart => exact ⟨0, by omega, rfl, Lib.hid (own_nil wc N0), Lib.hid (own_nil wc N0), Lib.hid (fun k h _ => by cases h), HR, hOc, hGc, Lib.hid HN0.out.2.2⟩
    case round =>
      clear HR hOc hGc
      obtain ⟨j, hj, rfl, Ha, Hb, Hap, HR, HO, HG, HS⟩ := hrel
      by_cases hlt : j < 64
      · obtain ⟨y, hy⟩ : ∃ y, Kb.getD j 0 = y := ⟨_, rfl⟩
        have hjl : j < Kb.length := by have := Hkl.out; omega
        have Hat : Hid ((Kb.map (Value.int .u8))[j]? = some (.int .u8 y)) := Lib.hid (by rw [← hy]; simp [List.getD_eq_getElem?_getD, hjl])
        clear hjl
        have ha1 : Hid (xorL 54 (Kb.take (j + 1)) = xorL 54 (Kb.take j) ++ [bits .xor .u8 y 54]) := Lib.hid (by rw [xorL_take 54 Kb j (by have := Hkl.out; omega), hy])
        have hb1 : Hid (xorL 92 (Kb.take (j + 1)) = xorL 92 (Kb.take j) ++ [bits .xor .u8 y 92]) := Lib.hid (by rw [xorL_take 92 Kb j (by have := Hkl.out; omega), hy])
        have hla : Hid ((xorL 54 (Kb.take j)).length ≤ 64) := Lib.hid (by rw [xorL_length]; simp; omega)
        have hlb : Hid ((xorL 92 (Kb.take j)).length ≤ 64) := Lib.hid (by rw [xorL_length]; simp; omega)
        have c0 := HR.out.at_ Hat.out
        clear hy
        go_wp2_with (first
          | (have _ := w8; refine wpList_append_bytes2 rfl (.tmp 50) (.tmp 55) rfl N0 _ (xorL 92 (Kb.take j)) [bits .xor .u8 y 92] rfl (Hu7.out.grown hg8 (by cases h : u10.ownBlock <;> simp)) (some ⟨w7.heap.size, 0, none⟩) 1 rfl (by intro h; cases h) (src_build hr8) (by have := hlb.out; simp; omega) (by have := HS7.out; have := hg8.size; omega) ?_; intro v9 w9 ho9 hg9 hf9; simp only [Act.put, List.setIfInBounds_toArray, List.set_cons_zero, List.set_cons_succ]
             have Ho9 : Hid (Own w9 N0 v9 (xorL 92 (Kb.take (j + 1)))) := Lib.hid (by rw [hb1.out]; exact ho9)
             have hrow9 : ∀ i, u10.ownBlock = some i → N0 ≤ i := fun i hi => (Hu7.out.block i hi).1
             have Hv9 : Hid (Own w9 N0 v7 (xorL 54 (Kb.take (j + 1)))) := Lib.hid ((Ho7.out.grown hg8 (by cases h : v7.ownBlock <;> simp)).grown hg9 Hap7.out.symm.row)
             have Hap9 : Hid (Apart v7 v9) := Lib.hid (Hap7.out.symm.step hf9 (Ho7.out.grown hg8 (by cases h : v7.ownBlock <;> simp))).symm
             have HR9 : Hid (Row w9 w1.heap.size 47 (Kb.map (Value.int .u8))) := Lib.hid ((HR7.out.grown hg8 (by simp)).grown hg9 (by intro e; have := hrow9 _ e.symm; have := HN0.out; omega))
             have HO9 : Hid (Row w9 w.heap.size 25 z32) := Lib.hid ((HO7.out.grown hg8 (by simp)).grown hg9 (by intro e; have := hrow9 _ e.symm; have := HN0.out; omega))
             have HG9 : Hid (w.grownBy w9 none) := Lib.hid (grown_own (grown_own HG7.out hg8 (by simp)) hg9 (by intro i hi; right; have := hrow9 _ hi; have := HN0.out; omega))
             have HS9 : Hid (N0 ≤ w9.heap.size) := Lib.hid (by have := HS7.out; have := hg8.size; have := hg9.size; omega)
             clear ho9 hf9 hrow9 hr8 hg8 hg9)
          | (have _ := w7; refine wpList_build1 rfl 22 5 _ rfl Tryd.underlying22 (.int .u8 (bits .xor .u8 y 92)) rfl _ info5 (by kernel_rfl) (.int .u8 0) (by kernel_rfl) rfl rfl ?_; intro w8 hr8 hg8 hs8; clear hs8; simp only [Act.put, List.setIfInBounds_toArray, List.set_cons_zero, List.set_cons_succ])
          | (have _ := w6; refine wpList_append_bytes2 rfl (.tmp 43) (.tmp 48) rfl N0 _ (xorL 54 (Kb.take j)) [bits .xor .u8 y 54] rfl (Ha.out.grown hg6 (by cases h : u9.ownBlock <;> simp)) (some ⟨wr.heap.size, 0, none⟩) 1 rfl (by intro h; cases h) (src_build hr6) (by have := hla.out; simp; omega) (by have := HS.out; have := hg6.size; omega) ?_; intro v7 w7 ho7 hg7 hf7; simp only [Act.put, List.setIfInBounds_toArray, List.set_cons_zero, List.set_cons_succ]
             have Ho7 : Hid (Own w7 N0 v7 (xorL 54 (Kb.take (j + 1)))) := Lib.hid (by rw [ha1.out]; exact ho7)
             have hrow7 : ∀ i, u9.ownBlock = some i → N0 ≤ i := fun i hi => (Ha.out.block i hi).1
             have Hu7 : Hid (Own w7 N0 u10 (xorL 92 (Kb.take j))) := Lib.hid ((Hb.out.grown hg6 (by cases h : u10.ownBlock <;> simp)).grown hg7 Hap.out.row)
             have Hap7 : Hid (Apart v7 u10) := Lib.hid (Hap.out.step hf7 (Hb.out.grown hg6 (by cases h : u10.ownBlock <;> simp)))
             have HR7 : Hid (Row w7 w1.heap.size 47 (Kb.map (Value.int .u8))) := Lib.hid ((HR.out.grown hg6 (by simp)).grown hg7 (by intro e; have := hrow7 _ e.symm; have := HN0.out; omega))
             have HO7 : Hid (Row w7 w.heap.size 25 z32) := Lib.hid ((HO.out.grown hg6 (by simp)).grown hg7 (by intro e; have := hrow7 _ e.symm; have := HN0.out; omega))
             have HG7 : Hid (w.grownBy w7 none) := Lib.hid (grown_own (grown_own HG.out hg6 (by simp)) hg7 (by intro i hi; right; have := hrow7 _ hi; have := HN0.out; omega))
             have HS7 : Hid (N0 ≤ w7.heap.size) := Lib.hid (by have := HS.out; have := hg6.size; have := hg7.size; omega)
             have c7 := HR7.out.at_ Hat.out
             clear ho7 hf7 hrow7 hr6 hg6 hg7)
          | (refine wpList_build1 rfl 22 5 _ rfl Tryd.underlying22 (.int .u8 (bits .xor .u8 y 54)) rfl _ info5 (by kernel_rfl) (.int .u8 0) (by kernel_rfl) rfl rfl ?_; intro w6 hr6 hg6 hs6; clear hs6; simp only [Act.put, List.setIfInBounds_toArray, List.set_cons_zero, List.set_cons_succ]))
        go_roundw
        case rel => exact ⟨j + 1, by omega, by go_num, Hv9, Ho9, Hap9, HR9, HO9, HG9, HS9⟩
        case measure => simp [intOf]; omega
      · have hj64 : j = 64 := by omega
        subst hj64
        simp only [Int.cast_ofNat_Int]
        have hk64 : Kb.take 64 = Kb := List.take_of_length_le (by have := Hkl.out; omega)
        rw [hk64] at Ha Hb
        have hla : Hid ((xorL 54 Kb).length = 64) := Lib.hid (by rw [xorL_length]; exact Hkl.out)
        have hlb : Hid ((xorL 92 Kb).length = 64) := Lib.hid (by rw [xorL_length]; exact Hkl.out)
        obtain ⟨La, hLa⟩ : ∃ L, xorL 54 Kb = L := ⟨_, rfl⟩
        obtain ⟨Lb, hLb⟩ : ∃ L, xorL 92 Kb = L := ⟨_, rfl⟩
        rw [hLa] at Ha hla Hmac
        rw [hLb] at Hb hlb Hmac
        obtain ⟨Lc, hLc⟩ : ∃ L, La ++ x = L := ⟨_, rfl⟩
        rw [hLc] at Hmac
        have HLc := Lib.hid hLc
        obtain ⟨S1, hS1⟩ : ∃ S, sha Lc = S := ⟨_, rfl⟩
        rw [hS1] at Hmac
        have hS1l : Hid (S1.length = 32) := Lib.hid (by rw [← hS1]; exact sha_length _)
        have H1S := oneCell_bytes S1
        have HS1 := Lib.hid hS1
        obtain ⟨Ld, hLd⟩ : ∃ L, Lb ++ S1 = L := ⟨_, rfl⟩
        rw [hLd] at Hmac
        have HLd := Lib.hid hLd
        obtain ⟨S2, hS2⟩ : ∃ S, sha Ld = S := ⟨_, rfl⟩
        rw [hS2] at Hmac
        have hS2l : Hid (S2.length = 32) := Lib.hid (by rw [← hS2]; exact sha_length _)
        have H2S := oneCell_bytes S2
        have HS2 := Lib.hid hS2
        clear hLa hLb hLc hLd hS1 hS2 hk64 hj hlt HR
        go_wp2_with (first
          | (have _ := w15; refine wpList_store_Row rfl 25 _ _ rfl w.heap.size (S2.map (Value.int .u8)) rfl rfl 25 z32 HO15.out (by rw [List.length_map, hS2l.out]; exact size25) (by rw [List.length_map, hS2l.out]; rfl) H2S ?_; intro w16 hr16 hg16 hs16; clear hs16)
          | (go_at_call 11; refine (rsum_any A14 c14 Ld w14 HA14.out Hsrc14.out (by have := hlb.out; have := hS1l.out; rw [← HLd.out, List.length_append]; omega)).mono ?_
             rintro e w15 ⟨rfl, hb15⟩
             rw [HS2.out]
             have HO15 : Hid (Row w15 w.heap.size 25 z32) := Lib.hid (HO14.out.below hb15 HO14.out.lt)
             have HG15 : Hid (w.grownBy w15 none) := Lib.hid (grown_below HG14.out hb15 HG14.out.size)
             unfold bytesA
             clear hb15)
          | (have _ := w13; refine wpList_append_bytes2 rfl (.tmp 62) (.tmp 63) rfl N0 _ Lb S1 rfl Hb13.out (some ⟨w11.heap.size, 0, none⟩) 32 (by rw [hS1l.out]; rfl) (by intro h; cases h) (src_row Hr13.out) (by have := hlb.out; have := hS1l.out; omega) HS13.out ?_; intro v14 w14 ho14 hg14 hf14; simp only [Act.put, List.setIfInBounds_toArray, List.set_cons_zero, List.set_cons_succ]
             have hrow14 : ∀ i, u10.ownBlock = some i → N0 ≤ i := fun i hi => (Hb13.out.block i hi).1
             have HO14 : Hid (Row w14 w.heap.size 25 z32) := Lib.hid (HO13.out.grown hg14 (by intro e; have := hrow14 _ e.symm; have := HN0.out; omega))
             have HG14 : Hid (w.grownBy w14 none) := Lib.hid (grown_own HG13.out hg14 (by intro i hi; right; have := hrow14 _ hi; have := HN0.out; omega))
             rw [HLd.out] at ho14
             obtain ⟨A14, c14, rfl, hA14, hc14, hsrc14, hbl14⟩ := own_slice ho14
             have HA14 := Lib.hid hA14
             have Hsrc14 := Lib.hid hsrc14
             clear ho14 hf14 hrow14 hg14 hA14 hc14 hsrc14 hbl14)
          | (have _ := w12; refine wpList_store_Row rfl 25 _ _ rfl w11.heap.size (S1.map (Value.int .u8)) rfl rfl 25 z32 hr12 (by rw [List.length_map, hS1l.out]; exact size25) (by rw [List.length_map, hS1l.out]; rfl) H1S ?_; intro w13 hr13 hg13 hs13; clear hs13; simp only [Act.put, List.setIfInBounds_toArray, List.set_cons_zero, List.set_cons_succ]
             have Hr13 := Lib.hid hr13
             have Hb13 : Hid (Own w13 N0 u10 Lb) := Lib.hid ((Hb11.out.grown hg12 (by cases h : u10.ownBlock <;> simp)).grown hg13 (by
               cases h : u10.ownBlock with
               | none => exact .inl rfl
               | some k => right; intro e; simp at e; have := (Hb11.out.block k h).2; omega))
             have HO13 : Hid (Row w13 w.heap.size 25 z32) := Lib.hid ((HO11.out.grown hg12 (by simp)).grown hg13 (by have := HO11.out.lt; simp; omega))
             have HG13 : Hid (w.grownBy w13 none) := Lib.hid (grown_own (grown_own HG11.out hg12 (by simp)) hg13 (by intro i hi; right; have := HO11.out.lt; simp at hi; omega))
             have HS13 : Hid (N0 ≤ w13.heap.size) := Lib.hid (by have := HS11.out; have := hg12.size; have := hg13.size; omega)
             clear hr12 hg12 hr13 hg13)
          | (have _ := w11; refine wpList_alloc_abs rfl 25 rfl z32 _ (zero25 _) rfl ?_; intro w12 hr12 hg12 hs12; have Hs12 := Lib.hid hs12; clear hs12; simp only [Act.put, List.setIfInBounds_toArray, List.set_cons_zero, List.set_cons_succ])
          | (go_at_call 11; refine (rsum_any A10 c10 Lc w10 HA10.out Hsrc10.out (by have := hla.out; rw [← HLc.out, List.length_append]; omega)).mono ?_
             rintro e w11 ⟨rfl, hb11⟩
             rw [HS1.out]
             have Hb11 : Hid (Own w11 N0 u10 Lb) := Lib.hid (Hb10.out.grown (grown_of_below hb11 none) (by cases h : u10.ownBlock <;> simp))
             have HO11 : Hid (Row w11 w.heap.size 25 z32) := Lib.hid (HO10.out.below hb11 HO10.out.lt)
             have HG11 : Hid (w.grownBy w11 none) := Lib.hid (grown_below HG10.out hb11 HG10.out.size)
             have HS11 : Hid (N0 ≤ w11.heap.size) := Lib.hid (by have := HS10.out; have := hb11.size; omega)
             unfold bytesA
             clear hb11)
          | (refine wpList_append_bytes2 rfl (.tmp 57) (.tmp 58) rfl N0 _ La x rfl Ha.out Ab cb rfl HAb.out (HX.out.grown HG.out (by simp)) (by have := hla.out; omega) HS.out ?_; intro v10 w10 ho10 hg10 hf10; simp only [Act.put, List.setIfInBounds_toArray, List.set_cons_zero, List.set_cons_succ]
             have hrow10 : ∀ i, u9.ownBlock = some i → N0 ≤ i := fun i hi => (Ha.out.block i hi).1
             have Hb10 : Hid (Own w10 N0 u10 Lb) := Lib.hid (Hb.out.grown hg10 Hap.out.row)
             have HO10 : Hid (Row w10 w.heap.size 25 z32) := Lib.hid (HO.out.grown hg10 (by intro e; have := hrow10 _ e.symm; have := HN0.out; omega))
             have HG10 : Hid (w.grownBy w10 none) := Lib.hid (grown_own HG.out hg10 (by intro i hi; right; have := hrow10 _ hi; have := HN0.out; omega))
             have HS10 : Hid (N0 ≤ w10.heap.size) := Lib.hid (by have := HS.out; have := hg10.size; omega)
             rw [HLc.out] at ho10
             obtain ⟨A10, c10, rfl, hA10, hc10, hsrc10, hbl10⟩ := own_slice ho10
             have HA10 := Lib.hid hA10
             have Hsrc10 := Lib.hid hsrc10
             clear ho10 hf10 hrow10 hg10 hA10 hc10 hsrc10 hbl10))
        refine bodyPost_ret (v := .agg (S2.map (Value.int .u8)).toArray) (results_cell_row (p := 4) (ty := 25) rfl _ _ w.heap.size 25 (S2.map (Value.int .u8)).toArray (0, 0) _ rfl hr16 Tryd.underlying25 rfl (by rw [List.size_toArray, List.length_map, hS2l.out]; exact size25)) rfl ⟨by rw [Hmac.out]; rfl, ?_⟩
        exact below_of_grown (grown_own HG15.out hg16 (by intro i hi; right; simp at hi; omega))
end Go.Proofs.YtkfdaeipfjcibaaDoor
