/- New, Copy and Sum of the program's package digest. -/
import Derived.Test.YtkfdaeipfjcibaaDoorFin
import Derived.Test.YtkfdaeipfjcibaaDoorStep
namespace Go.Proofs.YtkfdaeipfjcibaaDoor
open Go.RowKit
set_option linter.unusedVariables false
set_option linter.unusedSimpArgs false
theorem rep_nil {w : World} {b : Nat} (h : Row w b 50 (stc IV (List.replicate 64 0) 0)) : Rep w b [] := ⟨_, fits_nil, h, by simp⟩
theorem Src.grown {w w' : World} {A : Option Addr} {x : List Int} {row : Option Nat} (h : Src w A x) (hg : w.grownBy w' row) (hne : 0 < x.length → ∀ a, A = some a → some a.block ≠ row) : Src w' A x := fun h0 => by
  obtain ⟨a, ha, hs, hc⟩ := h h0
  refine ⟨a, ha, hs, fun j hj => ?_⟩
  have := hc j hj
  rw [grown_cell hg (block_lt_of_cell this) (hne h0 a ha)]; exact this
theorem Src.lt {w : World} {A : Option Addr} {x : List Int} (h : Src w A x) (h0 : 0 < x.length) : ∀ a, A = some a → a.block < w.heap.size := fun a ha => by
  obtain ⟨a', ha', _, hc⟩ := h h0
  obtain rfl := Option.some.inj (ha.symm.trans ha')
  have h2 := block_lt_of_cell (hc 0 h0)
  exact h2
set_option maxHeartbeats 400000 in
set_option maxRecDepth 100000 in
theorem new_any (w : World) : Calls Tryd.prog 13 #[] w fun e w' => e = .returned (.pointer (some ⟨w.heap.size, 0, none⟩)) ∧ Rep w' w.heap.size [] ∧ w.grownBy w' none ∧ w.heap.size < w'.heap.size := by
  go_enter Tryd.func13, Tryd.ntmps13
  go_wp2_with (first
    | (refine wpList_build rfl 45 _ rfl (by kernel_rfl) ?_)
    | (refine wpList_build rfl 50 _ rfl (by kernel_rfl) ?_)
    | (refine wpList_box_abs rfl 50 _ rfl (stc IV (List.replicate 64 0) 0) (by kernel_rfl) ?_; intro w1 hr1 hg1 hs1; have Hs := Lib.hid hs1; clear hs1))
  go_ret
  exact ⟨rfl, rep_nil hr1, hg1, by have := Hs.out; omega⟩

theorem oneCell_bytes (l : List Int) : ∀ v ∈ l.map (Value.int .u8), v.oneCell' = true := by
  intro v hv; simp only [List.mem_map] at hv; obtain ⟨_, _, rfl⟩ := hv; rfl
set_option maxHeartbeats 400000 in
set_option maxRecDepth 100000 in
theorem dsum_any (A : Option Addr) (c : Nat) (x : List Int) (w : World) (hx : Src w A x) (hc : x.length ≤ c) (hK : HasK w) (hsz : x.length ≤ 536870912) :
    Calls Tryd.prog 10 #[.slice A x.length c] w fun e w' => e = .returned (.agg (bytesA (sha x))) ∧ Below w.heap.size w w' := by
  have h0 := hK.lt
  have hsh := sha_length x
  have h1c := oneCell_bytes (sha x)
  obtain ⟨C, hC⟩ : ∃ C, (sha x).map (Value.int .u8) = C := ⟨_, rfl⟩
  have hCl : C.length = 32 := by rw [← hC]; simpa using hsh
  rw [hC] at h1c
  have HC := Lib.hid hC
  have HCl := Lib.hid hCl
  have HX := Lib.hid hx
  have HK := Lib.hid hK
  clear hC hCl hsh hx hK
  go_enter Tryd.func10, Tryd.ntmps10
  go_wp2_with (first
    | (refine wpList_alloc_abs rfl 25 rfl z32 _ (zero25 _) rfl ?_; intro w1 hr1 hg1 hs1; have Hs1 := Lib.hid hs1; clear hs1)
    | (go_at_call 13; refine (new_any w1).mono ?_; rintro e w2 ⟨rfl, hrep, hg2, hs2⟩; have Hrep := Lib.hid hrep; have Hg2 := Lib.hid hg2; clear hrep hg2)
    | (go_at_call 15; refine (add_any step_any w1.heap.size [] x A c w2 Hrep.out (by have := Hs1.out; omega) ((HK.out.grown hg1 (by simp)).grown Hg2.out (by simp)) ((HX.out.grown hg1 (by simp)).grown Hg2.out (by simp)) (fun h a ha => by have := HX.out.lt h a ha; have := Hs1.out; omega) hc (by simpa using (by omega))).mono ?_
       rintro e w3 ⟨rfl, hrep3, hg3⟩
       rw [List.nil_append] at hrep3
       have HB3 : Hid (w.grownBy w3 none) := Lib.hid (grown_own (grown_own hg1 Hg2.out (by simp)) hg3 (by intro i hi; right; have := Hs1.out; simp at hi; omega))
       have HK3 : Hid (HasK w3) := Lib.hid (HK.out.grown HB3.out (by simp))
       have HO3 : Hid (Row w3 w.heap.size 25 z32) := Lib.hid ((hr1.grown Hg2.out (by simp)).grown hg3 (by have := Hs1.out; simp; omega))
       clear hg3)
    | (go_at_call 16; refine (fin_any step_any w1.heap.size x w3 hrep3 (by have := Hs1.out; omega) HK3.out hsz).mono ?_
       rintro e w4 ⟨rfl, hb4⟩
       have HO4 : Hid (Row w4 w.heap.size 25 z32) := Lib.hid (HO3.out.below hb4 HO3.out.lt)
       have HB4 : Hid (w.grownBy w4 none) := Lib.hid (grown_below HB3.out hb4 HB3.out.size)
       unfold bytesA
       rw [HC.out])
    | (refine wpList_store_Row rfl 25 _ _ rfl w.heap.size C rfl rfl 25 z32 HO4.out (by rw [HCl.out]; exact size25) (by rw [HCl.out]; rfl) h1c ?_; intro w5 hr5 hg5 hs5; clear hs5))
  refine bodyPost_ret (v := .agg C.toArray) (results_cell_row (p := 2) (ty := 25) rfl _ _ w.heap.size 25 C.toArray (0, 0) _ rfl hr5 Tryd.underlying25 rfl (by rw [List.size_toArray, HCl.out]; exact size25)) rfl ⟨?_, ?_⟩
  · rw [← HC.out]; rfl
  · exact below_of_grown (grown_own HB4.out hg5 (by intro i hi; right; simp at hi; omega))
end Go.Proofs.YtkfdaeipfjcibaaDoor
