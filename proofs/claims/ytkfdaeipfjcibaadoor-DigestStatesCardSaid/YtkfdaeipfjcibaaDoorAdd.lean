/- Add: bytes are put behind those that a State stands for. -/
import Derived.Test.YtkfdaeipfjcibaaDoorDefs
import Derived.WalkLawsBesides
import Derived.WalkSpells
import Derived.Deep.QuietTactic
import Derived.BigQuiet
import Derived.Outline
import Derived.Lib.Hide
namespace Go.Proofs.YtkfdaeipfjcibaaDoor
open Go.RowKit
set_option linter.unusedVariables false
set_option linter.unusedSimpArgs false
def lenOf : Value → Nat | .slice _ n _ => n | _ => 0
theorem slice_from (A : Option Addr) (n c m : Nat) (hm : m ≤ n) (hc : n ≤ c) : ∃ A2, (∀ W, (Instr.slice 22 (.slice A n c) (some (.int .i64 (m : Int))) none none).run Tryd.prog W = .ok (.slice A2 (n - m) (c - m)) W) ∧
    (m < n → ∀ a, A = some a → A2 = some (a.add m)) := by
  refine ⟨if c = m then A else A.map (·.add m), fun W => ?_, fun h a ha => ?_⟩
  · have hz : (sizeOf (Tryd.prog.elem 22)).run Tryd.prog W = .ok 1 W := by kernel_rfl
    rw [run_slice_l W 22 A n c (by kernel_rfl) .i64 m (by omega) (by omega), hz]
    simp [Result.andThen, sliced]
  · rw [if_neg (by omega), ha]; rfl
theorem slice_room (b N o : Nat) (ho : N % 64 = o) (W : World) : (Instr.sliceAt 47 (.pointer (some ⟨b, 8, none⟩)) (some (.int .u64 ((N : Int) % 64))) none none).run Tryd.prog W = .ok (.slice (some ⟨b, 8 + o, none⟩) (64 - o) (64 - o)) W := by
  have h1 : ((N : Int) % 64) = (o : Int) := by omega
  have hz : (sizeOf (Tryd.prog.elem 47)).run Tryd.prog W = .ok 1 W := by kernel_rfl
  have hl : Tryd.prog.arrayLen 47 = 64 := by kernel_rfl
  rw [h1, run_sliceAt_array_l W 47 ⟨b, 8, none⟩ (by kernel_rfl) .u64 o (by omega) (by rw [hl]; omega), hz, hl]
  simp only [Result.andThen, slicedAt, Int.toNat_natCast]
  rw [if_neg (by omega)]
  unfold Addr.add
  split
  · simp_all
  · simp
theorem Row.setRow {w : World} {b : Nat} {T : TypeId} {cs ds : List Value} (h : Row w b T cs) : Row (w.setRow b ds.toArray) b T ds := setRow_heap w b _ _ T _ h
theorem grown_setRow {w w1 : World} {row : Option Nat} (h : w.grownBy w1 row) {c : Nat} (hc : some c = row ∨ w.heap.size ≤ c) (cs : Array Value) : w.grownBy (w1.setRow c cs) row :=
  ⟨h.os, h.tape, h.output, by simp [World.setRow]; exact h.size, fun i hi hne => by
    rw [setRow_other w1 c i cs (fun e => by subst e; rcases hc with hc | hc
                                            · exact hne hc
                                            · omega)]
    exact h.block i hi hne⟩
set_option maxHeartbeats 1600000 in
set_option maxRecDepth 100000 in
theorem add_any (hstep : Said.step) (b : Nat) (l x : List Int) (A : Option Addr) (c : Nat) (w : World) (hr : Rep w b l) (hb0 : 0 ≠ b) (hK : HasK w)
    (hx : Src w A x) (hne : 0 < x.length → ∀ a, A = some a → a.block ≠ b) (hc : x.length ≤ c) (hsz : l.length + x.length ≤ 1073741824) :
    Calls Tryd.prog 15 #[.pointer (some ⟨b, 0, none⟩), .slice A x.length c] w fun e w' => e = .returned (.tuple #[]) ∧ Rep w' b (l ++ x) ∧ w.grownBy w' (some b) := by
  go_enter Tryd.func15, Tryd.ntmps15
  go_wp2_with fail
  go_loopw [1] (fun v wr => ∃ (k : Nat) (A' : Option Addr) (c' : Nat), k ≤ x.length ∧ v = .slice A' (x.length - k) c' ∧ Hid (x.length - k ≤ c' ∧ (k < x.length → ∃ a : Addr, A = some a ∧ A' = some ⟨a.block, a.off + k, none⟩)) ∧
      Rep wr b (l ++ x.take k) ∧ w.grownBy wr (some b))
    (fun v _ => lenOf v)
  case atStart =>
    refine ⟨0, A, c, by omega, rfl, Lib.hid ⟨by omega, fun h => ?_⟩, by simpa using hr, grown_refl _ _⟩
    obtain ⟨a, ha, hsp, _⟩ := hx h
    refine ⟨a, ha, ?_⟩
    rw [ha]; cases a; simp at hsp; subst hsp; rfl
  case round =>
    obtain ⟨k, A', c', hk, rfl, hA, hrep, hbl⟩ := hrel
    by_cases hlt : k < x.length
    · obtain ⟨hc', hA2⟩ := hA.out
      obtain ⟨a, ha, hA'⟩ := hA2 hlt
      obtain ⟨a0, ha0, hsp, hcell⟩ := hx (by omega)
      obtain rfl : a0 = a := Option.some.inj (ha0.symm.trans ha)
      have hab := hne (by omega) a0 ha
      subst hA'
      obtain ⟨blk, hfit, hrow, hln⟩ := hrep
      obtain ⟨L, hL⟩ : ∃ L, l ++ x.take k = L := ⟨_, rfl⟩
      rw [hL] at hfit hrow hln
      have hLl : L.length = l.length + k := by rw [← hL]; simp; omega
      obtain ⟨N, hN⟩ : ∃ N, L.length = N := ⟨_, rfl⟩
      obtain ⟨o, ho⟩ : ∃ o, N % 64 = o := ⟨_, rfl⟩
      obtain ⟨V, hV⟩ : ∃ V, comps IV L (L.length / 64) = V := ⟨_, rfl⟩
      obtain ⟨m, hm⟩ : ∃ m, min (x.length - k) (64 - o) = m := ⟨_, rfl⟩
      obtain ⟨n, hn⟩ : ∃ n, x.length - k = n := ⟨_, rfl⟩
      obtain ⟨S, hS⟩ : ∃ S, stc V blk N = S := ⟨_, rfl⟩
      rw [hV, hN, hS] at hrow
      rw [hn] at hc' hm ⊢
      have b1 : o < 64 := by omega
      have b2 : 1 ≤ m := by omega
      have b3 : m ≤ n := by omega
      have b4 : m ≤ 64 - o := by omega
      have b5 : N ≤ 1073741824 := by omega
      have b6 : N + m ≤ 1073741824 := by omega
      have hsa := slice_room b N o ho
      have cN : wr.cell? ⟨b, 72, none⟩ = some (.int .u64 (N : Int)) := hrow.at_ (by rw [← hS]; exact stc_n _ _ _ hfit.1)
      obtain ⟨A2, hsl, hA2'⟩ := slice_from (some ⟨a0.block, a0.off + k, none⟩) n c' m b3 hc'
      have HL := Lib.hid hL
      have HLl := Lib.hid hLl
      have HN := Lib.hid hN
      have Ho := Lib.hid ho
      have HV := Lib.hid hV
      have Hm := Lib.hid hm
      have Hn := Lib.hid hn
      have HS := Lib.hid hS
      have Ha := Lib.hid ha
      have Hcell := Lib.hid hcell
      have HA2 := Lib.hid hA2'
      clear hL hLl hN ho hV hm hn hS ha ha0 hcell hA2' hA2 hA hsp
      go_wp2_with fail
      refine wp_region_drawn_tail 10 (by kernel_rfl) (by kernel_rfl) ?_
      simp only [List.take_succ_cons, List.take_zero, List.drop_succ_cons, List.drop_zero]
      repeat (go_big_quiet_step (fail))
      refine wpQuiet_nil ?_
      rintro _ ⟨nq, rfl⟩
      obtain ⟨cs, hcs⟩ : ∃ cs, (x.drop k).take m = cs := ⟨_, rfl⟩
      have hcl : cs.length = m := by rw [← hcs]; have := Hn.out; simp; omega
      have hcg : ∀ j, j < m → cs.getD j 0 = x.getD (k + j) 0 := fun j hj => by
        rw [← hcs]; simp [List.getElem?_take, hj]
      have hsrc : ∀ (j : Nat) v, (cs.map (Value.int .u8))[j]? = some v → (wr.drewN nq).cell? ((⟨a0.block, a0.off + k, none⟩ : Addr).add j) = some v := fun j v hv => by
        have hj : j < m := by have := (List.getElem?_eq_some_iff.1 hv).1; simpa [hcl] using this
        have hv2 : v = .int .u8 (x.getD (k + j) 0) := by
          rw [← hcg j hj]
          rw [List.getElem?_map, List.getElem?_eq_getElem (by omega)] at hv
          simp at hv
          rw [← hv]; simp [hcl, hj]
        have hc0 := Hcell.out (k + j) (by have := Hn.out; omega)
        rw [hv2, Addr.add_mid, World.cell?_drewN, Nat.add_assoc, grown_cell hbl (block_lt_of_cell hc0) (by simpa using hab)]
        exact hc0
      refine wpList_copy_own (P := Tryd.prog) rfl (.tmp 18) (.tmp 19) 22 22 rfl 5 (by kernel_rfl) (by kernel_rfl) b (8 + o) (64 - o) (64 - o) ⟨a0.block, a0.off + k, none⟩ n c' rfl rfl
        S.toArray 50 hrow (cs.map (Value.int .u8)) (by rw [List.length_map, hcl, ← Hm.out]) hsrc ?cfit (by simp [Value.oneCell']) ?_
      case cfit =>
        rw [← HS.out]; simp [stc_length _ _ _ hfit.1, hcl]; omega
      rw [show (goInt (cs.map (Value.int .u8)).length) = .int .i64 (m : Int) by rw [List.length_map, hcl]; rfl]
      have hrow2 : Row ((wr.drewN nq).setRow b (S.take (8 + o) ++ (cs.map (Value.int .u8) ++ S.drop (8 + o + (cs.map (Value.int .u8)).length))).toArray) b 50 (stc V (splice blk o cs) N) := by
        rw [← stc_splice _ _ _ _ _ hfit.1 (by omega), HS.out]
        exact (hrow.drewN nq).setRow
      have hbl2 := grown_setRow (grown_drewN hbl nq) (c := b) (Or.inl rfl) (S.take (8 + o) ++ (cs.map (Value.int .u8) ++ S.drop (8 + o + (cs.map (Value.int .u8)).length))).toArray
      simp only [List.toList_toArray]
      generalize (wr.drewN nq).setRow b (S.take (8 + o) ++ (cs.map (Value.int .u8) ++ S.drop (8 + o + (cs.map (Value.int .u8)).length))).toArray = wq at hrow2 hbl2
      clear cN hrow hbl hsrc hcg hsa
      have cN := hrow2.at_ (stc_n V (splice blk o cs) N (splice_length hfit.1 (by omega)))
      have dN := hrow2.frozen 72
      have Hcs := Lib.hid hcs
      have Hcl := Lib.hid hcl
      clear hcs hcl
      have eo : L.length % 64 = o := by rw [HN.out, Ho.out]
      have en : ((N : Int) + (m : Int)) = ((L ++ cs).length : Int) := by simp [HN.out, Hcl.out]
      have elx : l ++ x.take (k + m) = L ++ cs := by rw [← HL.out, ← Hcs.out, List.take_add, List.append_assoc]
      have Eo := Lib.hid eo
      have En := Lib.hid en
      have Elx := Lib.hid elx
      have Hbl : Hid (w.grownBy (wq.setCell ⟨b, 72, none⟩ (.int .u64 ((N : Int) + (m : Int)))) (some b)) := Lib.hid (grown_set hbl2 (Or.inl rfl) _ _)
      have Hrow : Hid (Row (wq.setCell ⟨b, 72, none⟩ (.int .u64 ((N : Int) + (m : Int)))) b 50 (stc V (splice blk o cs) ((L ++ cs).length : Int))) := by
        have h := hrow2.set 72 (.int .u64 ((N : Int) + (m : Int)))
        rw [stc_set_n _ _ _ _ (splice_length hfit.1 (by have := Hcl.out; omega))] at h
        rw [← en]; exact Lib.hid h
      have Rel : ∀ wz, Hid (Rep wz b (L ++ cs)) → Hid (w.grownBy wz (some b)) → Hid (∃ (k1 : Nat) (A' : Option Addr) (c1 : Nat), k1 ≤ x.length ∧ Value.slice A2 (n - m) (c' - m) = .slice A' (x.length - k1) c1 ∧
          Hid (x.length - k1 ≤ c1 ∧ (k1 < x.length → ∃ a : Addr, A = some a ∧ A' = some ⟨a.block, a.off + k1, none⟩)) ∧ Rep wz b (l ++ x.take k1) ∧ w.grownBy wz (some b)) := fun wz h1 h2 => by
        have hn' := Hn.out
        refine Lib.hid ⟨k + m, A2, c' - m, by omega, ?_, Lib.hid ⟨by omega, fun h => ⟨a0, Ha.out, ?_⟩⟩, ?_, h2.out⟩
        · rw [show x.length - (k + m) = n - m by omega]
        · rw [HA2.out (by omega) _ rfl, Addr.add_mid, Nat.add_assoc]
        · rw [Elx.out]; exact h1.out
      clear eo en elx hrow2 hbl2
      by_cases hfull : o + m = 64
      · have ht : (((N : Int) + (m : Int)) % 64 == 0) = true := by have := Ho.out; rw [beq_iff_eq]; omega
        go_wp2_with fail
        refine (hstep b V (splice blk o cs) _ _ (splice_length hfit.1 (by have := Hcl.out; omega)) Hrow.out hb0 (hK.grown Hbl.out (by simpa using hb0))).mono ?_
        rintro e w2 ⟨rfl, hr2, hg2⟩
        go_wp2_with fail
        go_roundw
        case measure => simp [lenOf]; omega
        case rel =>
          refine (Rel w2 (Lib.hid ?_) (Lib.hid (grown_trans Hbl.out hg2))).out
          refine ⟨splice blk o cs, ?_, ?_, ?_⟩
          · have := (fits_all hfit (cs := cs) (by rw [Eo.out, Hcl.out]; exact hfull)).1
            rwa [Eo.out] at this
          · have := comps_all (s := IV) hfit (cs := cs) (by rw [Eo.out, Hcl.out]; exact hfull)
            rw [← this, HV.out, Eo.out]; exact hr2
          · have h1 := HN.out; have h2 := Hcl.out; simp; omega
      · have ht : (((N : Int) + (m : Int)) % 64 == 0) = false := by have := Ho.out; rw [beq_eq_false_iff_ne]; omega
        go_wp2_with fail
        go_roundw
        case measure => simp [lenOf]; omega
        case rel =>
          refine (Rel _ (Lib.hid ?_) Hbl).out
          refine ⟨splice blk o cs, ?_, ?_, ?_⟩
          · have := (fits_some hfit (cs := cs) (by rw [Eo.out, Hcl.out]; omega)).1
            rwa [Eo.out] at this
          · have := comps_some (s := IV) hfit (cs := cs) (by rw [Eo.out, Hcl.out]; omega)
            rw [← this, HV.out]; exact Hrow.out
          · have h1 := HN.out; have h2 := Hcl.out; simp; omega
    · have hk2 : k = x.length := by omega
      subst hk2
      rw [Nat.sub_self]
      go_wp2_with fail
      go_end0
      refine ⟨rfl, ?_, hbl⟩
      rw [List.take_length] at hrep
      exact hrep
end Go.Proofs.YtkfdaeipfjcibaaDoor
