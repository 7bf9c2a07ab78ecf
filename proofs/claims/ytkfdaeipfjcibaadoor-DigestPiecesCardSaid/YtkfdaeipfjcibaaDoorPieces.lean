/- DigestPieces: the walk. -/
import Derived.Test.YtkfdaeipfjcibaaDoorSums
import Derived.Test.YtkfdaeipfjcibaaDoorCopy
import Derived.Deep.DeepCutAuto
import Derived.Lib.QuietBelow
namespace Go.Proofs.YtkfdaeipfjcibaaDoor
open Go.RowKit
set_option linter.unusedVariables false
set_option linter.unusedSimpArgs false
/-- These whole numbers lie where a slice begins. -/
def SrcI (w : World) (A : Option Addr) (l : List Int) : Prop := 0 < l.length → ∃ a : Addr, A = some a ∧ a.spot = none ∧ ∀ j, j < l.length → w.cell? ⟨a.block, a.off + j, none⟩ = some (.int .i64 (l.getD j 0))
theorem SrcI.grown {w w' : World} {A : Option Addr} {x : List Int} (h : SrcI w A x) (hg : w.grownBy w' none) : SrcI w' A x := fun h0 => by
  obtain ⟨a, ha, hs, hc⟩ := h h0
  refine ⟨a, ha, hs, fun j hj => ?_⟩
  have := hc j hj
  rw [grown_cell hg (block_lt_of_cell this) (by simp)]; exact this
theorem slice_mid (A : Option Addr) (n c l h : Nat) (hl : l ≤ h) (hh : h ≤ n) (hc : n ≤ c) (hA : A = none → c = 0) : ∃ A2, (∀ W, (Instr.slice 22 (.slice A n c) (some (.int .i64 (l : Int))) (some (.int .i64 (h : Int))) none).run Tryd.prog W = .ok (.slice A2 (h - l) (c - l)) W) ∧
    (A2 = none → c - l = 0) ∧ (l < h → ∀ a, A = some a → a.spot = none → A2 = some ⟨a.block, a.off + l, none⟩) := by
  refine ⟨if c = l then A else A.map (·.add (l * 1)), fun W => ?_, ?_, ?_⟩
  · have hz : (sizeOf (Tryd.prog.elem 22)).run Tryd.prog W = .ok 1 W := by kernel_rfl
    rw [run_slice_lh W 22 A n c (by kernel_rfl) .i64 .i64 l h (by omega) (by omega) (by omega), hz]
    simp only [Result.andThen, sliced, Int.toNat_natCast]
  · split
    · intro _; omega
    · intro e
      cases A with
      | none => have := hA rfl; omega
      | some a => simp at e
  · intro h1 a ha hs
    rw [if_neg (by omega), ha]
    obtain ⟨ab, ao, asp⟩ := a
    simp at hs
    subst hs
    simp [Addr.add]
theorem Src.part {w : World} {A A2 : Option Addr} {x : List Int} {l h : Nat} (hx : Src w A x) (hh : h ≤ x.length) (hA2 : l < h → ∀ a, A = some a → a.spot = none → A2 = some ⟨a.block, a.off + l, none⟩) : Src w A2 ((x.drop l).take (h - l)) := fun h0 => by
  have hlen : ((x.drop l).take (h - l)).length = h - l := by simp; omega
  obtain ⟨a, ha, hs, hc⟩ := hx (by omega)
  refine ⟨_, hA2 (by omega) a ha hs, rfl, fun j hj => ?_⟩
  have := hc (l + j) (by omega)
  rw [show a.off + l + j = a.off + (l + j) by omega, this]
  congr 2
  simp [List.getD_eq_getElem?_getD, List.getElem?_take, show j < h - l by omega]
theorem Src.head {w : World} {A : Option Addr} {x : List Int} (hx : Src w A x) (h : Nat) : Src w A (x.take h) := fun h0 => by
  have hlen : (x.take h).length ≤ x.length := by simp; omega
  obtain ⟨a, ha, hs, hc⟩ := hx (by omega)
  refine ⟨a, ha, hs, fun j hj => ?_⟩
  have hj2 : j < h := by have : (x.take h).length ≤ h := by simp; omega
                         omega
  rw [hc j (by omega)]
  congr 2
  simp [List.getD_eq_getElem?_getD, List.getElem?_take, hj2]
set_option maxHeartbeats 1600000 in
set_option maxRecDepth 100000 in
theorem pieces_any (A Ac : Option Addr) (c cc : Nat) (x cuts : List Int) (w : World) (hA : A = none → x = [] ∧ c = 0) (hx : Src w A x) (hc : x.length ≤ c) (hcuts : SrcI w Ac cuts) (hcc : cuts.length ≤ cc) (hK : HasK w) :
    Calls Tryd.prog 5 #[.slice A x.length c, .slice Ac cuts.length cc] w fun e w' => e = .returned (.bool true) ∧ Below w.heap.size w w' := by
  have HX := Lib.hid hx
  have HA := Lib.hid hA
  have HC := Lib.hid hcuts
  have HK := Lib.hid hK
  clear hx hA hcuts hK
  by_cases hg1 : (x.length : Int) > 65536
  · go_enter Tryd.func5, Tryd.ntmps5
    go_wp2_with (go_at_call 8; refine (works_any w HK.out).mono ?_; rintro e w1 ⟨rfl, hb1⟩; have Hb1 := Lib.hid hb1; clear hb1)
    go_ret
    exact ⟨rfl, Hb1.out⟩
  · by_cases hg2 : (cuts.length : Int) > 100
    · go_enter Tryd.func5, Tryd.ntmps5
      go_wp2_with (go_at_call 8; refine (works_any w HK.out).mono ?_; rintro e w1 ⟨rfl, hb1⟩; have Hb1 := Lib.hid hb1; clear hb1)
      go_ret
      exact ⟨rfl, Hb1.out⟩
    · go_enter Tryd.func5, Tryd.ntmps5
      go_wp2_with (go_at_call 13; refine (new_any w).mono ?_; rintro e w1 ⟨rfl, hr1, hg3, hs1⟩; have Hr1 := Lib.hid hr1; have HG1 : Hid (w.grownBy w1 none) := Lib.hid hg3; clear hr1 hg3 hs1)
      obtain ⟨B, hB⟩ : ∃ B, w.heap.size = B := ⟨_, rfl⟩
      have HB : Hid (0 < B) := Lib.hid (by rw [← hB]; exact HK.out.lt)
      have HBe := Lib.hid hB
      rw [hB] at Hr1 ⊢
      clear hB
      go_loopw [6, 7] (fun t i wr => ∃ m k : Nat, m ≤ x.length ∧ k ≤ cuts.length + 1 ∧ t = .int .i64 m ∧ i = .int .i64 k ∧ Hid (k = cuts.length + 1 → m = x.length) ∧ Hid (Rep wr B (x.take m)) ∧ Hid (w.grownBy wr none))
        (fun _ i _ => cuts.length + 1 - (intOf i).toNat)
      case atStart => exact ⟨0, 0, by omega, by omega, rfl, rfl, Lib.hid (by omega), Lib.hid (by simpa using Hr1.out), HG1⟩
      case round =>
        clear Hr1
        obtain ⟨m, k, hm, hk, rfl, rfl, Hend, Hr, HG⟩ := hrel
        by_cases hlt : k ≤ cuts.length
        · go_upto_if 32 with fail
          go_cut [8] (fun v wx => ∃ t : Nat, m ≤ t ∧ t ≤ x.length ∧ v = .int .i64 t ∧ Hid (k = cuts.length → t = x.length) ∧ Hid (wx = wr))
          case first =>
            by_cases hk2 : k < cuts.length
            · obtain ⟨⟨ab, ao, asp⟩, rfl, hs, hcl⟩ := HC.out (by omega)
              simp at hs
              subst hs
              have c1 := hcl k hk2
              rw [← grown_cell HG.out (block_lt_of_cell c1) (by simp)] at c1
              clear hcl
              obtain ⟨z, hz⟩ : ∃ z, cuts.getD k 0 = z := ⟨_, rfl⟩
              rw [hz] at c1
              clear hz
              go_wp2_with fail
              all_goals go_meet
              all_goals first
                | exact ⟨m, Nat.le_refl _, hm, rfl, Lib.hid (by omega), Lib.hid rfl⟩
                | exact ⟨x.length, hm, Nat.le_refl _, rfl, Lib.hid (by omega), Lib.hid rfl⟩
                | exact ⟨z.toNat, by omega, by omega, by go_num, Lib.hid (by omega), Lib.hid rfl⟩
            · go_wp2_with fail
              go_meet
              exact ⟨x.length, hm, Nat.le_refl _, rfl, Lib.hid fun _ => rfl, Lib.hid rfl⟩
          case rest =>
            obtain ⟨t, hmt, htn, rfl, Ht, hwx⟩ := hcut
            have hwe := hwx.out
            subst hwe
            clear hwx
            obtain ⟨A2, hsl, hA2n, hA2⟩ := slice_mid A x.length c m t hmt htn hc (fun h => (HA.out h).2)
            have hst := slice_to A x.length c t (by omega)
            obtain ⟨y, hy⟩ : ∃ y, (x.drop m).take (t - m) = y := ⟨_, rfl⟩
            have hyl : y.length = t - m := by rw [← hy]; simp; omega
            have hty : x.take m ++ y = x.take t := by
              rw [← hy, ← List.drop_take]
              conv => rhs; rw [← List.take_append_drop m (x.take t)]
              rw [List.take_take, Nat.min_eq_left hmt]
            obtain ⟨z, hz⟩ : ∃ z, x.take t = z := ⟨_, rfl⟩
            have hzl : z.length = t := by rw [← hz]; simp; omega
            have Hy : Hid (∀ W, w.grownBy W none → Src W A2 y) := Lib.hid fun W hW => by
              rw [← hy]; exact Src.part (HX.out.grown hW (by simp)) htn hA2
            have Hz : Hid (∀ W, w.grownBy W none → Src W A z) := Lib.hid fun W hW => by
              rw [← hz]; exact (HX.out.grown hW (by simp)).head t
            have HA2 : Hid (A2 = none → y = [] ∧ c - m = 0) := Lib.hid fun h => by
              have := hA2n h
              exact ⟨List.eq_nil_of_length_eq_zero (by omega), this⟩
            rw [hz] at hty
            have Hyl := Lib.hid hyl
            have Hzl := Lib.hid hzl
            have Hty := Lib.hid hty
            have Hze := Lib.hid hz
            rw [← hyl] at hsl
            clear hyl hzl hty hy hz hA2n hA2
            obtain ⟨S, hS⟩ : ∃ S, sha z = S := ⟨_, rfl⟩
            have hSl : S.length = 32 := by rw [← hS]; exact sha_length z
            have heq := fun w => neq_same w S hSl
            have HS := Lib.hid hS
            clear hS hSl
            by_cases hk4 : (k : Int) % 4 = 1
            · go_wp2_with (first
                | (go_at_call 18; refine (copyBytes_any A2 (c - m) y wc HA2.out (Hy.out wc HG.out) (by have := Hyl.out; omega)).mono ?_; rintro e w2 ⟨v2, rfl, ho2, hg4⟩
                   obtain ⟨A3, c3, rfl, hA3, hc3, hs3, hb3⟩ := own_slice ho2
                   have Hr2 : Hid (Rep w2 B (x.take m)) := Lib.hid (Hr.out.grown hg4 (by simp))
                   have HG2 : Hid (w.grownBy w2 none) := Lib.hid (grown_own HG.out hg4 (by simp))
                   have Hs3 := Lib.hid hs3
                   have Hc3 := Lib.hid hc3
                   have Hb3 : Hid (∀ a, A3 = some a → a.block ≠ B) := Lib.hid fun a ha => by have := (hb3 a ha).1; have := Hr.out.lt; omega
                   clear ho2 hg4 hA3 hc3 hs3 hb3)
                | (go_at_call 15; refine (add_any step_any B (x.take m) y A3 c3 w2 Hr2.out (by have := HB.out; omega) (HK.out.grown HG2.out (by simp)) Hs3.out (fun _ => Hb3.out) Hc3.out (by have := Hyl.out; simp; omega)).mono ?_; rintro e w3 ⟨rfl, hr3, hg5⟩
                   rw [Hty.out] at hr3
                   have Hr3 := Lib.hid hr3
                   have HG3 : Hid (w.grownBy w3 none) := Lib.hid (grown_own HG2.out hg5 (by intro i hi; right; have := HBe.out; simp at hi; omega))
                   clear hr3 hg5))
              have hfin : Hid (∀ wx, Below w3.heap.size w3 wx → Calls Tryd.prog 16 #[.pointer (some ⟨B, 0, none⟩)] wx fun e w' => e = .returned (.agg (S.map (Value.int .u8)).toArray) ∧ Below wx.heap.size wx w') := Lib.hid fun wx hb => by
                have h := fin_any step_any B z wx (Hr3.out.grown (grown_of_below hb none) (by simp)) (by have := HB.out; omega) ((HK.out.grown HG3.out (by simp)).below hb) (by have := Hzl.out; omega)
                rw [HS.out] at h
                exact h
              have hsum : Hid (∀ wx, Below w3.heap.size w3 wx → Calls Tryd.prog 10 #[.slice A t c] wx fun e w' => e = .returned (.agg (S.map (Value.int .u8)).toArray) ∧ Below wx.heap.size wx w') := Lib.hid fun wx hb => by
                have h := dsum_any A c z wx (Hz.out wx (grown_own HG3.out (grown_of_below hb none) (by simp))) (by have := Hzl.out; omega) ((HK.out.grown HG3.out (by simp)).below hb) (by have := Hzl.out; omega)
                rw [HS.out, Hzl.out] at h
                exact h
              refine wp_region_quiet_below (by kernel_rfl) (by kernel_rfl) ?_
              repeat (go_big_quiet_step (first | (go_at_call 16; exact Calls.regrown_of (hfin.out _ (below_regrown _ _ _))) | (go_at_call 10; exact Calls.regrown_of (hsum.out _ (below_regrown _ _ _)))))
              refine wpQuiet_nil ?_
              rintro _ ⟨p, rfl⟩
              have hbp := below_regrown w3 p.d p.os
              generalize hwz : Sort.grow (redrawn w3 p.d) p.os = wz at hbp ⊢
              clear hwz
              have HG4 : Hid (w.grownBy wz none) := Lib.hid (grown_own HG3.out (grown_of_below hbp none) (by simp))
              have Hr4 : Hid (Rep wz B z) := Lib.hid (Hr3.out.grown (grown_of_below hbp none) (by simp))
              clear hbp
              go_wp2_with fail
              go_roundw
              case rel => exact ⟨t, k + 1, htn, by omega, rfl, by go_num, Lib.hid (fun h => Ht.out (by omega)), Lib.hid (by rw [Hze.out]; exact Hr4.out), HG4⟩
              case measure => simp [intOf]; omega
            · go_wp2_with (first
                | (go_at_call 18; refine (copyBytes_any A2 (c - m) y wc HA2.out (Hy.out wc HG.out) (by have := Hyl.out; omega)).mono ?_; rintro e w2 ⟨v2, rfl, ho2, hg4⟩
                   obtain ⟨A3, c3, rfl, hA3, hc3, hs3, hb3⟩ := own_slice ho2
                   have Hr2 : Hid (Rep w2 B (x.take m)) := Lib.hid (Hr.out.grown hg4 (by simp))
                   have HG2 : Hid (w.grownBy w2 none) := Lib.hid (grown_own HG.out hg4 (by simp))
                   have Hs3 := Lib.hid hs3
                   have Hc3 := Lib.hid hc3
                   have Hb3 : Hid (∀ a, A3 = some a → a.block ≠ B) := Lib.hid fun a ha => by have := (hb3 a ha).1; have := Hr.out.lt; omega
                   clear ho2 hg4 hA3 hc3 hs3 hb3)
                | (go_at_call 15; refine (add_any step_any B (x.take m) y A3 c3 w2 Hr2.out (by have := HB.out; omega) (HK.out.grown HG2.out (by simp)) Hs3.out (fun _ => Hb3.out) Hc3.out (by have := Hyl.out; simp; omega)).mono ?_; rintro e w3 ⟨rfl, hr3, hg5⟩
                   rw [Hty.out] at hr3
                   have Hr3 := Lib.hid hr3
                   have HG3 : Hid (w.grownBy w3 none) := Lib.hid (grown_own HG2.out hg5 (by intro i hi; right; have := HBe.out; simp at hi; omega))
                   clear hr3 hg5))
              go_roundw
              case rel => exact ⟨t, k + 1, htn, by omega, rfl, by go_num, Lib.hid (fun h => Ht.out (by omega)), Lib.hid (by rw [Hze.out]; exact Hr3.out), HG3⟩
              case measure => simp [intOf]; omega
        · have hk1 : k = cuts.length + 1 := by omega
          have hmx := Hend.out hk1
          subst hmx
          rw [List.take_length] at Hr
          subst hk1
          clear Hend
          obtain ⟨S, hS⟩ : ∃ S, sha x = S := ⟨_, rfl⟩
          have hSl : S.length = 32 := by rw [← hS]; exact sha_length x
          have heq := fun w => eql_same w S hSl
          have HS := Lib.hid hS
          clear hS hSl
          go_wp2_with (first
            | (go_at_call 8; refine (works_any w6 (HK.out.grown HG6.out (by simp))).mono ?_; rintro e w7 ⟨rfl, hb7⟩
               have HG7 : Hid (w.grownBy w7 none) := Lib.hid (grown_below HG6.out hb7 HG6.out.size)
               clear hb7)
            | (go_at_call 10; refine (dsum_any A c x w5 (HX.out.grown HG5.out (by simp)) hc (HK.out.grown HG5.out (by simp)) (by omega)).mono ?_; rintro e w6 ⟨rfl, hb6⟩
               rw [HS.out]
               unfold bytesA
               have HG6 : Hid (w.grownBy w6 none) := Lib.hid (grown_below HG5.out hb6 HG5.out.size)
               clear hb6)
            | (go_at_call 16; refine (fin_any step_any w3.heap.size x w4 Hr4.out Hs4.out (HK.out.grown HG4.out (by simp)) (by omega)).mono ?_; rintro e w5 ⟨rfl, hb5⟩
               rw [HS.out]
               have HG5 : Hid (w.grownBy w5 none) := Lib.hid (grown_below HG4.out hb5 HG4.out.size)
               clear hb5)
            | (go_at_call 17; refine (copy_any B x w3 Hr3.out).mono ?_; rintro e w4 ⟨rfl, hr4, hg4, hs4⟩
               have Hr4 := Lib.hid hr4
               have HG4 : Hid (w.grownBy w4 none) := Lib.hid (grown_own HG3.out hg4 (by simp))
               have Hs4 : Hid (0 ≠ w3.heap.size) := Lib.hid (by have := HG3.out.size; have := HBe.out; have := HB.out; omega)
               clear hr4 hg4 hs4)
            | (go_at_call 10; refine (dsum_any A c x w2 (HX.out.grown HG2.out (by simp)) hc (HK.out.grown HG2.out (by simp)) (by omega)).mono ?_; rintro e w3 ⟨rfl, hb3⟩
               rw [HS.out]
               unfold bytesA
               have HG3 : Hid (w.grownBy w3 none) := Lib.hid (grown_below HG2.out hb3 HG2.out.size)
               have Hr3 : Hid (Rep w3 B x) := Lib.hid (Hr2.out.grown (grown_of_below hb3 none) (by simp))
               clear hb3)
            | (go_at_call 16; refine (fin_any step_any B x wr Hr.out (by have := HB.out; omega) (HK.out.grown HG.out (by simp)) (by omega)).mono ?_; rintro e w2 ⟨rfl, hb2⟩
               rw [HS.out]
               have HG2 : Hid (w.grownBy w2 none) := Lib.hid (grown_below HG.out hb2 HG.out.size)
               have Hr2 : Hid (Rep w2 B x) := Lib.hid (Hr.out.grown (grown_of_below hb2 none) (by simp))
               clear hb2))
          go_ret
          exact ⟨rfl, by first | exact below_of_grown HG7.out | (rw [← HBe.out]; exact below_of_grown HG7.out)⟩
end Go.Proofs.YtkfdaeipfjcibaaDoor
