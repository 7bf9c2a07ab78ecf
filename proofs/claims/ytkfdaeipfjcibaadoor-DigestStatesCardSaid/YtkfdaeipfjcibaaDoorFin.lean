/- Sum of a State: what it stands for is padded in a copy, and the words are handed out. -/
import Derived.Test.YtkfdaeipfjcibaaDoorAdd
import Derived.Test.YtkfdaeipfjcibaaDoorLaws
import Derived.Deep.LoopGhost
namespace Go.Proofs.YtkfdaeipfjcibaaDoor
open Go.RowKit
set_option linter.unusedVariables false
set_option linter.unusedSimpArgs false
def bytesA (l : List Int) : Array Value := (l.map (Value.int .u8)).toArray
def z32 : List Value := List.replicate 32 (.int .u8 0)
def z8 : List Value := List.replicate 8 (.int .u8 0)
def zState : List Value := stc ⟨0, 0, 0, 0, 0, 0, 0, 0⟩ (List.replicate 64 0) 0
theorem zState_length : zState.length = 73 := stc_length _ _ _ (by simp)
theorem zero25 (w : World) : (zeroValue 25).run Tryd.prog w = .ok (.agg z32.toArray) w := by kernel_rfl
theorem zero51 (w : World) : (zeroValue 51).run Tryd.prog w = .ok (.agg z8.toArray) w := by kernel_rfl
theorem zero50 (w : World) : (zeroValue 50).run Tryd.prog w = .ok (.agg zState.toArray) w := by kernel_rfl
theorem size50 : (Tryd.prog.info? 50).map (·.size) = some 73 := by kernel_rfl
theorem size25 : (Tryd.prog.info? 25).map (·.size) = some 32 := by kernel_rfl
theorem oneCell_stc (s : S8) (blk : List Int) (n : Int) : ∀ v ∈ stc s blk n, v.oneCell' = true := by
  intro v hv
  simp only [stc, List.mem_append, List.mem_map, List.mem_singleton] at hv
  rcases hv with ⟨_, _, rfl⟩ | ⟨_, _, rfl⟩ | rfl <;> rfl
theorem src_one {w : World} {g : Nat} {T : TypeId} {v : Int} (h : Row w g T [.int .u8 v]) : Src w (some ⟨g, 0, none⟩) [v] := fun _ => ⟨⟨g, 0, none⟩, rfl, rfl, fun j hj => by
  have : j = 0 := by simpa using hj
  subst this
  exact h.at_ rfl⟩
theorem HasK.lt {w : World} (h : HasK w) : 0 < w.heap.size := block_lt_of_cell (h 0 (by omega))
theorem info5 : Tryd.prog.info? 5 = some (Tryd.prog.info? 5).get! := by kernel_rfl
/-- Add of one byte that lies in a slice made just now. -/
theorem add_one (hstep : Said.step) (B : Nat) (l : List Int) (v : Int) (w3 w4 : World) (hr : Rep w3 B l) (hK : HasK w3) (hB : 0 < B) (hrow : Row w4 w3.heap.size 5 [.int .u8 v]) (hg : w3.grownBy w4 none) (hsz : l.length + 1 ≤ 1073741824) :
    Calls Tryd.prog 15 #[.pointer (some ⟨B, 0, none⟩), .slice (some ⟨w3.heap.size, 0, none⟩) 1 1] w4 fun e w' => e = .returned (.tuple #[]) ∧ Rep w' B (l ++ [v]) ∧ w3.grownBy w' (some B) :=
  (add_any hstep B l [v] _ 1 w4 (hr.grown hg (by simp)) (by omega) (hK.grown hg (by simp)) (src_one hrow) (by intro _ a ha; have := hr.lt; simp at ha; subst ha; simp; omega) (by simp) (by simpa using hsz)).mono
    fun e w' ⟨h1, h2, h3⟩ => ⟨h1, h2, grown_trans (grown_none hg _) h3⟩
set_option maxHeartbeats 1600000 in
set_option maxRecDepth 100000 in
theorem fin_any (hstep : Said.step) (b : Nat) (l : List Int) (w : World) (hr : Rep w b l) (hb0 : 0 ≠ b) (hK : HasK w) (hsz : l.length ≤ 536870912) :
    Calls Tryd.prog 16 #[.pointer (some ⟨b, 0, none⟩)] w fun e w' => e = .returned (.agg (bytesA (sha l))) ∧ Below w.heap.size w w' := by
  obtain ⟨blk, hfit, hrow, hln⟩ := hr
  have h1S := oneCell_stc (comps IV l (l.length / 64)) blk l.length
  have hlS := stc_length (comps IV l (l.length / 64)) blk l.length hfit.1
  obtain ⟨S, hS⟩ : ∃ S, stc (comps IV l (l.length / 64)) blk l.length = S := ⟨_, rfl⟩
  rw [hS] at hrow h1S hlS
  have HS := Lib.hid hS
  have H73 := Lib.hid hlS
  clear hS hlS
  go_enter Tryd.func16, Tryd.ntmps16
  go_wp2_with (first
    | (refine wpList_alloc_abs rfl 25 rfl z32 _ (zero25 _) rfl ?_; intro w1 hr1 hg1 hs1; have Hs1 := Lib.hid hs1; clear hs1)
    | (refine wpList_load_Row rfl 50 _ rfl b rfl S 50 (hrow.grown hg1 (by simp)) _ Tryd.underlying50 rfl (by rw [H73.out]; exact size50) ?_)
    | (refine wpList_alloc_abs rfl 50 rfl zState _ (zero50 _) rfl ?_; intro w2 hr2 hg2 hs2; clear hs2)
    | (refine wpList_store_Row rfl 50 _ _ rfl w1.heap.size S rfl rfl 50 zState hr2 (by rw [H73.out]; exact size50) (by rw [H73.out]; exact zState_length) h1S ?_; intro w3 hr3 hg3 hs3; clear hs3
       have c72 := hr3.at_ (show S[72]? = some (.int .u64 (l.length : Int)) by rw [← HS.out]; exact stc_n _ _ _ hfit.1)
       have hrep : Rep w3 w1.heap.size l := ⟨blk, hfit, by rw [HS.out]; exact hr3, hln⟩
       have hB1 : w.heap.size + 1 = w1.heap.size := Hs1.out.symm
       have HB : Hid (w.grownBy w3 none) := Lib.hid (grown_own (grown_own hg1 hg2 (by simp)) hg3 (by intro i hi; right; simp at hi; omega))
       have hK3 : Hid (HasK w3) := Lib.hid (hK.grown HB.out (by simp))
       have HO : Hid (Row w3 w.heap.size 25 z32) := Lib.hid ((hr1.grown hg2 (by simp)).grown hg3 (by simp; omega))
       have Hrep := Lib.hid hrep
       have HB1 := Lib.hid hB1
       clear hrep hB1)
    | (refine wpList_build1 rfl 22 5 _ rfl Tryd.underlying22 (.int .u8 128) rfl _ info5 (by kernel_rfl) (.int .u8 0) (by kernel_rfl) rfl rfl ?_; intro w4 hr4 hg4 hs4; clear hs4)
    | (go_at_call 15; refine (add_one hstep w1.heap.size l 128 w3 w4 Hrep.out hK3.out (by have := HB1.out; omega) hr4 hg4 (by omega)).mono ?_; rintro e w5 ⟨rfl, hrep5, hg5⟩
       have HB5 : Hid (w.grownBy w5 none) := Lib.hid (grown_own HB.out hg5 (by intro i hi; right; have := HB1.out; simp at hi; omega))
       have HO5 : Hid (Row w5 w.heap.size 25 z32) := Lib.hid (HO.out.grown hg5 (by have := HB1.out; simp; omega))
       have HK5 : Hid (HasK w5) := Lib.hid (hK3.out.grown hg5 (by have := HB1.out; simp; omega))
       have Hrep5 := Lib.hid hrep5
       clear hrep5 hg5 HB HO hK3 hr4 hg4 hr3 hg3 hg2 hr2 hr1 hg1 c72 Hrep w4))
  go_loopg [22] (padTo l.length) (fun d v wr => ∃ k, k + d = padTo l.length ∧ Hid (Rep wr w1.heap.size (l ++ [128] ++ List.replicate k 0)) ∧ Hid (w.grownBy wr none) ∧ Hid (Row wr w.heap.size 25 z32) ∧ Hid (HasK wr))
  case atStart => exact ⟨0, by omega, by simpa using Hrep5, HB5, HO5, HK5⟩
  case round =>
    obtain ⟨k, hk, Hr, HB, HO, HKr⟩ := hrel
    have cN := Hr.out.n
    obtain ⟨N, hN⟩ : ∃ N, (l ++ [128] ++ List.replicate k 0).length = N := ⟨_, rfl⟩
    have hN2 : N = l.length + 1 + k := by rw [← hN]; simp; omega
    rw [hN] at cN
    have HN := Lib.hid hN2
    have hp : padTo l.length = (119 - l.length % 64) % 64 := rfl
    have HP := Lib.hid hp
    have hpl : padTo l.length < 64 := by omega
    have hN3 : N ≤ 1000000000 := by omega
    clear hN hN2 hp
    obtain ⟨p, hpp⟩ : ∃ p, padTo l.length = p := ⟨_, rfl⟩
    rw [hpp] at hk HP hpl
    have Hk := Lib.hid hk
    have HPP := Lib.hid hpp
    clear hk hpp
    by_cases hd : gk = 0
    · have ht : (((N : Int) % 64) != 56) = false := by have := HN.out; have := HP.out; have := Hk.out; rw [bne_eq_false_iff_eq]; omega
      go_wp2_with (refine wpList_alloc_abs rfl 51 rfl z8 _ (zero51 _) rfl ?_; intro w6 hr6 hg6 hs6; clear hs6)
      have hlt1 : w1.heap.size < wr.heap.size := Hr.out.lt
      obtain ⟨wo, hwo⟩ : ∃ wo : World, wo = wr := ⟨_, rfl⟩
      subst hwo
      have HB6 : Hid (w.grownBy w6 none) := Lib.hid (grown_own HB.out hg6 (by simp))
      have HO6 : Hid (Row w6 w.heap.size 25 z32) := Lib.hid (HO.out.grown hg6 (by simp))
      have HK6 : Hid (HasK w6) := Lib.hid (HKr.out.grown hg6 (by simp))
      have Hr6 : Hid (Rep w6 w1.heap.size (l ++ [128] ++ List.replicate k 0)) := Lib.hid (Hr.out.grown hg6 (by simp))
      have hE : Row w6 wo.heap.size 51 (part (lenBytes l.length) 0) := hr6
      have hlb : (lenBytes l.length).length = 8 := by simp [lenBytes]
      have HLB := Lib.hid hlb
      clear hlb hr6 hg6 HB HO HKr Hr cN
      go_loopw [25] (fun i wr => ∃ j : Nat, j ≤ 8 ∧ i = .int .i64 j ∧ Row wr wo.heap.size 51 (part (lenBytes l.length) j) ∧ Hid (w6.grownBy wr (some wo.heap.size)))
        (fun i _ => 8 - (intOf i).toNat)
      case atStart => exact ⟨0, by omega, rfl, hE, Lib.hid (grown_refl _ _)⟩
      case round =>
        obtain ⟨j, hj, rfl, hrow, HG⟩ := hrel
        by_cases hlt : j < 8
        · have c0 := hrow.at_ (part_free (lenBytes l.length) j (by have := HLB.out; omega))
          have d0 := hrow.frozen j
          have hrow' := Lib.hid hrow
          clear hrow
          go_wp2_with fail
          go_roundw
          case rel =>
            refine ⟨j + 1, by omega, by go_num, ?_, Lib.hid (grown_set HG.out (Or.inl rfl) _ _)⟩
            have := hrow'.out.set j (.int .u8 ((lenBytes l.length).getD j 0))
            rw [part_set _ _ (by have := HLB.out; omega)] at this
            simp only [lenBytes, List.getD_eq_getElem?_getD, List.getElem?_map, List.getElem?_range hlt, Option.map_some, Option.getD_some] at this ⊢
            exact this
          case measure => simp [intOf]; omega
        · have hj8 : j = 8 := by omega
          have hrow1 : Row wr wo.heap.size 51 ((lenBytes l.length).map (Value.int .u8)) := by
            rw [← part_all, HLB.out, ← hj8]; exact hrow
          have hsrc : Src wr (some ⟨wo.heap.size, 0, none⟩) (lenBytes l.length) := fun _ => ⟨_, rfl, rfl, fun i hi => by
            rw [hrow1.cell]; simp [hi]⟩
          have hsrc2 := Lib.hid hsrc
          have HR7 : Hid (Rep wr w1.heap.size (l ++ [128] ++ List.replicate k 0)) := Lib.hid (Hr6.out.grown HG.out (by simp; omega))
          have HK7 : Hid (HasK wr) := Lib.hid (HK6.out.grown HG.out (by simp; omega))
          have HB7 : Hid (w.grownBy wr none) := Lib.hid (grown_own HB6.out HG.out (by intro i hi; right; have := HB1.out; simp at hi; omega))
          have HO7 : Hid (Row wr w.heap.size 25 z32) := Lib.hid (HO6.out.grown HG.out (by have := HB1.out; simp; omega))
          clear hsrc hrow hrow1 hE HB6 HO6 HK6 Hr6
          subst hj8
          simp only [Int.cast_ofNat_Int]
          go_wp2_with (go_at_call 15; (refine (add_any hstep w1.heap.size (l ++ [128] ++ List.replicate k 0) (lenBytes l.length) (some ⟨wo.heap.size, 0, none⟩) 8 wr HR7.out (by have := HB1.out; omega) HK7.out hsrc2.out (by intro _ a ha; simp at ha; subst ha; simp; omega) (by have := HLB.out; omega) ?_).mono ?_); (case _ => have := HLB.out; have := HN.out; simp; omega); rintro e w8 ⟨rfl, hr8, hg8⟩)
          have hpad : l ++ [128] ++ List.replicate k 0 ++ lenBytes l.length = padded l := by
            have h1 := HPP.out; have h2 := Hk.out
            rw [padded, h1, show k = p by omega]; simp
          rw [hpad] at hr8
          obtain ⟨blk8, hf8, hrow8, _⟩ := hr8
          have hv8 := fun j hj => hrow8.at_ (stc_v (comps IV (padded l) ((padded l).length / 64)) blk8 ((padded l).length : Int) j hj)
          obtain ⟨V, hV⟩ : ∃ V, comps IV (padded l) ((padded l).length / 64) = V := ⟨_, rfl⟩
          have hB8 : Hid (w.grownBy w8 none) := Lib.hid (grown_own HB7.out hg8 (by intro i hi; right; have := HB1.out; simp at hi; omega))
          have hO8 : Row w8 w.heap.size 25 (part (outBytes V) 0) := HO7.out.grown hg8 (by have := HB1.out; simp; omega)
          rw [hV] at hv8
          have HV := Lib.hid hV
          have hlo : Hid ((outBytes V).length = 32) := Lib.hid (outBytes_length V)
          have hv := Lib.hid hv8
          clear hv8 hV hg8 hrow8 HB7 HO7 HK7 HR7 hpad
          go_loopw [39] (fun i wr => ∃ j : Nat, j ≤ 32 ∧ i = .int .i64 j ∧ Row wr w.heap.size 25 (part (outBytes V) j) ∧ Hid (w8.grownBy wr (some w.heap.size)))
            (fun i _ => 32 - (intOf i).toNat)
          case atStart => exact ⟨0, by omega, rfl, hO8, Lib.hid (grown_refl _ _)⟩
          case round =>
            clear hO8
            obtain ⟨j, hj, rfl, hrow, HG9⟩ := hrel
            by_cases hlt : j < 32
            · have c0 := hrow.at_ (part_free (outBytes V) j (by have := hlo.out; omega))
              have d0 := hrow.frozen j
              have c1 : wr.cell? ⟨w1.heap.size, j / 4, none⟩ = some (.int .u32 (V.list.getD (j / 4) 0)) := by
                have h := hv.out (j / 4) (by omega)
                rw [grown_cell HG9.out (block_lt_of_cell h) (by have := HB1.out; simp; omega)]; exact h
              have hrow' := Lib.hid hrow
              clear hrow
              obtain ⟨q, hq⟩ : ∃ q, V.list.getD (j / 4) 0 = q := ⟨_, rfl⟩
              rw [hq] at c1
              have Hq := Lib.hid hq
              clear hq
              go_wp2_with fail
              go_roundw
              case rel =>
                refine ⟨j + 1, by omega, by go_num, ?_, Lib.hid (grown_set HG9.out (Or.inl rfl) _ _)⟩
                have := hrow'.out.set j (.int .u8 ((outBytes V).getD j 0))
                rw [part_set _ _ (by have := hlo.out; omega)] at this
                have e : (outBytes V).getD j 0 = q / 2 ^ (24 - 8 * (j % 4)) % 256 := by
                  rw [← Hq.out]; simp [outBytes, List.getElem?_range hlt]
                rw [e] at this
                exact this
              case measure => simp [intOf]; omega
            · have hj32 : j = 32 := by omega
              subst hj32
              simp only [Int.cast_ofNat_Int]
              have hrow1 : Row wr w.heap.size 25 ((outBytes V).map (Value.int .u8)) := by
                rw [← part_all, hlo.out]; exact hrow
              have hlm : Hid (((outBytes V).map (Value.int .u8)).length = 32) := Lib.hid (by rw [List.length_map, hlo.out])
              have h1c : ∀ v ∈ (outBytes V).map (Value.int .u8), v.oneCell' = true := by
                intro v hv; simp only [List.mem_map] at hv; obtain ⟨_, _, rfl⟩ := hv; rfl
              obtain ⟨C, hC⟩ : ∃ C, (outBytes V).map (Value.int .u8) = C := ⟨_, rfl⟩
              rw [hC] at hrow1 hlm h1c
              have HC := Lib.hid hC
              have Hrow1 := Lib.hid hrow1
              clear hrow1 hC hrow
              go_wp2_with (first
                | (refine wpList_load_Row rfl 25 _ rfl w.heap.size rfl C 25 Hrow1.out _ Tryd.underlying25 rfl (by rw [hlm.out]; exact size25) ?_)
                | (refine wpList_store_Row rfl 25 _ _ rfl w.heap.size C rfl rfl 25 C Hrow1.out (by rw [hlm.out]; exact size25) rfl h1c ?_; intro w9 hr9 hg9 hs9; clear hs9))
              refine bodyPost_ret (v := .agg C.toArray) (results_cell_row (p := 2) (ty := 25) rfl _ _ w.heap.size 25 C.toArray (0, 0) _ rfl hr9 Tryd.underlying25 rfl (by rw [List.size_toArray, hlm.out]; exact size25)) rfl ⟨?_, ?_⟩
              · rw [← HC.out, ← HV.out]; rfl
              · exact below_of_grown (grown_own (grown_own hB8.out HG9.out (by intro i hi; right; simp at hi; omega)) hg9 (by intro i hi; right; simp at hi; omega))
    · have ht : (((N : Int) % 64) != 56) = true := by have := HN.out; have := HP.out; have := Hk.out; rw [bne_iff_ne]; omega
      go_wp2_with (first
        | (refine wpList_build1 rfl 22 5 _ rfl Tryd.underlying22 (.int .u8 0) rfl _ info5 (by kernel_rfl) (.int .u8 0) (by kernel_rfl) rfl rfl ?_; intro w4 hr4 hg4 hs4; clear hs4)
        | (go_at_call 15; refine (add_one hstep w1.heap.size (l ++ [128] ++ List.replicate k 0) 0 wr w4 Hr.out HKr.out (by have := HB1.out; omega) hr4 hg4 (by have := HN.out; simp; omega)).mono ?_; rintro e w6 ⟨rfl, hrep6, hg6⟩))
      go_roundg (gk - 1)
      case measure => omega
      case rel =>
        refine ⟨k + 1, by have := Hk.out; have := HPP.out; omega, Lib.hid ?_, Lib.hid (grown_own HB.out hg6 (by intro i hi; right; have := HB1.out; simp at hi; omega)), Lib.hid (HO.out.grown hg6 (by have := HB1.out; simp; omega)), Lib.hid (HKr.out.grown hg6 (by have := HB1.out; simp; omega))⟩
        rw [List.replicate_succ', ← List.append_assoc]; exact hrep6
end Go.Proofs.YtkfdaeipfjcibaaDoor
