/- A trial. -/
import Derived.Test.YtkfdaeipfjcibaaDoorRot
import Derived.Test.YtkfdaeipfjcibaaDoorDefs
import Derived.RegionTactic
import Derived.Deep.QuietTactic
import Derived.BigQuiet
import Derived.Outline
import Derived.ChangeAlike
import Derived.Below
import Derived.Deep.MidRow
import Derived.Lib.Hide
namespace Go.Proofs.YtkfdaeipfjcibaaDoor
open Go.RowKit
set_option linter.unusedVariables false
set_option linter.unusedSimpArgs false
/-- The cells of the array of words: so many are reckoned, the rest is 0. -/
def wcells (l : List Int) : List Value := l.map (Value.int .u32) ++ List.replicate (64 - l.length) (.int .u32 0)
theorem wcells_set (l : List Int) (x : Int) (h : l.length < 64) : (wcells l).set l.length (.int .u32 x) = wcells (l ++ [x]) := by
  unfold wcells
  rw [List.set_append_right _ _ (by simp), show 64 - l.length = (64 - (l ++ [x]).length) + 1 by simp; omega, List.replicate_succ]
  simp
theorem wcells_get (l : List Int) (j : Nat) (h : j < l.length) : (wcells l)[j]? = some (.int .u32 (l.getD j 0)) := by
  simp [wcells, List.getElem?_append, h]
theorem wcells_free (l : List Int) (h : l.length < 64) : (wcells l)[l.length]? = some (.int .u32 0) := by
  unfold wcells
  rw [List.getElem?_append_right (by simp)]
  simp only [List.length_map, Nat.sub_self]
  rw [List.getElem?_replicate, if_pos (by omega)]
theorem row_words {w w' : World} {B : Nat} {l : List Int} {x : Int} (h : Row w B 52 (wcells l)) (hl : l.length < 64) (k : Nat) (hk : k = l.length) (n : Nat) : Row ((w.drewN n).setCell ⟨B, k, none⟩ (.int .u32 x)) B 52 (wcells (l ++ [x])) := by
  have := (h.drewN n).set k (.int .u32 x)
  rwa [hk, wcells_set l x hl, ← hk] at this

/-- The eight words, so many of them already summed. -/
def mix (s t : S8) (k : Nat) : List Value :=
  [.int .u32 (if 0 < k then (s.a + t.a) % 4294967296 else s.a), .int .u32 (if 1 < k then (s.b + t.b) % 4294967296 else s.b), .int .u32 (if 2 < k then (s.c + t.c) % 4294967296 else s.c),
   .int .u32 (if 3 < k then (s.d + t.d) % 4294967296 else s.d), .int .u32 (if 4 < k then (s.e + t.e) % 4294967296 else s.e), .int .u32 (if 5 < k then (s.f + t.f) % 4294967296 else s.f),
   .int .u32 (if 6 < k then (s.g + t.g) % 4294967296 else s.g), .int .u32 (if 7 < k then (s.h + t.h) % 4294967296 else s.h)]
theorem mix_set (s t : S8) (rest : List Value) : ∀ k, k < 8 → (mix s t k ++ rest).set k (.int .u32 ((s.list.getD k 0 + t.list.getD k 0) % 4294967296)) = mix s t (k + 1) ++ rest
  | 0, _ | 1, _ | 2, _ | 3, _ | 4, _ | 5, _ | 6, _ | 7, _ => rfl
theorem mix_get (s t : S8) (rest : List Value) : ∀ k, k < 8 → (mix s t k ++ rest)[k]? = some (.int .u32 (s.list.getD k 0))
  | 0, _ | 1, _ | 2, _ | 3, _ | 4, _ | 5, _ | 6, _ | 7, _ => rfl
theorem mix_all (s st : S8) : mix s st 8 = (addS s st).list.map (Value.int .u32) := rfl
theorem comp_of {s st : S8} {blk : List Int} (h : st = rounds (wsched blk 48) s 64) : comp s blk = addS s st := by
  unfold comp
  rw [← h]
/-- The rounds over whatever table. -/
def roundsT (T ws : List Int) (s : S8) : Nat → S8
  | 0 => s
  | n + 1 => rnd (roundsT T ws s n) (T.getD n 0) (ws.getD n 0)
theorem roundsT_eq (ws : List Int) (s : S8) : ∀ n, roundsT KT ws s n = rounds ws s n
  | 0 => rfl
  | n + 1 => by rw [roundsT, rounds, roundsT_eq ws s n]
theorem idx8 (t : S8) : ∀ k : Nat, k < 8 → ∀ w : World, (Instr.index 45 (.agg #[.int .u32 t.a, .int .u32 t.b, .int .u32 t.c, .int .u32 t.d, .int .u32 t.e, .int .u32 t.f, .int .u32 t.g, .int .u32 t.h]) (.int .i64 (k : Int))).run Tryd.prog w = .ok (.int .u32 (t.list.getD k 0)) w
  | 0, _, _ | 1, _, _ | 2, _, _ | 3, _, _ | 4, _, _ | 5, _, _ | 6, _, _ | 7, _, _ => by kernel_rfl

set_option maxHeartbeats 16000000 in
set_option maxRecDepth 100000 in
theorem step_any : Said.step := by
  intro b s blk n w hblen hcs hb0 hK
  have hv : ∀ j, j < 8 → (stc s blk n)[j]? = some (.int .u32 (s.list.getD j 0)) := fun j hj => by
    match j, hj with
    | 0, _ | 1, _ | 2, _ | 3, _ | 4, _ | 5, _ | 6, _ | 7, _ => rfl
  have hblk := stc_blk s blk n hblen
  obtain ⟨cs, hcs0⟩ : ∃ cs, stc s blk n = cs := ⟨_, rfl⟩
  rw [hcs0] at hcs hv hblk
  have Hcs := Lib.hid hcs0
  clear hcs0
  go_enter Tryd.func24, Tryd.ntmps24
  go_wp2_with fail
  go_loopw [20] (fun i wr => ∃ k : Nat, k ≤ 16 ∧ i = .int .i64 k ∧ Row wr w.heap.size 52 (wcells (words16 blk k)) ∧ Row wr b 50 cs ∧ w.grownBy wr (some b))
     (fun i _ => 16 - (intOf i).toNat)
  case atStart =>
    exact ⟨0, by omega, rfl, Row.new w (List.replicate 64 (.int .u32 0)) 52, hcs.alloc _, grown_alloc (grown_refl _ _) _⟩
  case round =>
    obtain ⟨k, hk, rfl, hd, hrow, hbl⟩ := hrel
    by_cases hlt : k < 16
    · have c0 : wr.cell? ⟨b, 8 + 4 * k, none⟩ = _ := hrow.at_ (hblk (4 * k) (by omega))
      have c1 : wr.cell? ⟨b, 8 + (4 * k + 1), none⟩ = _ := hrow.at_ (hblk (4 * k + 1) (by omega))
      have c2 : wr.cell? ⟨b, 8 + (4 * k + 2), none⟩ = _ := hrow.at_ (hblk (4 * k + 2) (by omega))
      have c3 : wr.cell? ⟨b, 8 + (4 * k + 3), none⟩ = _ := hrow.at_ (hblk (4 * k + 3) (by omega))
      have d1 : wr.cell? ⟨w.heap.size, k, none⟩ = some (.int .u32 0) := by
        have := hd.at_ (wcells_free (words16 blk k) (by rw [words16_length]; omega))
        rwa [words16_length] at this
      have d2 := hd.frozen k
      go_wp2_with fail
      refine wp_region_drawn_tail 43 (by kernel_rfl) (by kernel_rfl) ?_
      simp only [List.take_succ_cons, List.take_zero, List.drop_succ_cons, List.drop_zero]
      repeat (go_big_quiet_step (fail))
      refine wpQuiet_nil ?_
      rintro _ ⟨nq, rfl⟩
      go_wp2_with fail
      go_roundw
      case rel =>
        refine ⟨k + 1, by omega, by go_num, ?_, (hrow.drewN _).set_other (Nat.ne_of_lt hcs.lt) _ _, grown_set (grown_drewN hbl _) (Or.inr (by simp)) _ _⟩
        rw [words16_succ]
        have := row_words (w' := w) (x := word4 blk k) hd (by rw [words16_length]; omega) k (by rw [words16_length]) nq
        simp only [word4, List.getD_eq_getElem?_getD] at this ⊢
        exact this
      case measure => simp [intOf]; omega
    · have hk16 : k = 16 := by omega
      subst hk16
      simp only [Nat.reduceAdd, Int.cast_ofNat_Int]
      obtain ⟨wo, hwo⟩ : ∃ wo : World, wo = wr := ⟨_, rfl⟩
      subst hwo
      go_wp2_with fail
      go_loopw [4] (fun i wr => ∃ k : Nat, k ≤ 48 ∧ i = .int .i64 ((16 + k : Nat) : Int) ∧ Row wr w.heap.size 52 (wcells (wsched blk k)) ∧ Row wr b 50 cs ∧ w.grownBy wr (some b))
        (fun i _ => 64 - (intOf i).toNat)
      case atStart => exact ⟨0, by omega, rfl, hd, hrow, hbl⟩
      case round =>
        clear hd hrow hbl
        obtain ⟨k, hk, rfl, hd, hrow, hbl⟩ := hrel
        by_cases hlt : k < 48
        · have hlen := wsched_length blk k
          have c0 : wr.cell? ⟨w.heap.size, 16 + k - 15, none⟩ = _ := hd.at_ (wcells_get _ _ (by omega))
          have c1 : wr.cell? ⟨w.heap.size, 16 + k - 2, none⟩ = _ := hd.at_ (wcells_get _ _ (by omega))
          have Hlen := Lib.hid hlen
          clear hlen
          go_wp2_with fail
          go_quiet (fail)
          go_wp2_with fail
          clear c0 c1
          generalize hwq : wr.drewN nq = wq
          replace hd : Row wq w.heap.size 52 (wcells (wsched blk k)) := by rw [← hwq]; exact hd
          replace hrow : Row wq b 50 cs := by rw [← hwq]; exact hrow
          replace hbl : w.grownBy wq (some b) := by rw [← hwq]; exact grown_drewN hbl _
          clear hwq
          have c2 : wq.cell? ⟨w.heap.size, k, none⟩ = _ := hd.at_ (wcells_get _ _ (by have := Hlen.out; omega))
          have c3 : wq.cell? ⟨w.heap.size, 16 + k - 7, none⟩ = _ := hd.at_ (wcells_get _ _ (by have := Hlen.out; omega))
          have d1 : wq.cell? ⟨w.heap.size, 16 + k, none⟩ = some (.int .u32 0) := by
            have := hd.at_ (wcells_free (wsched blk k) (by have := Hlen.out; omega))
            rwa [Hlen.out] at this
          have d2 := hd.frozen (16 + k)
          refine wp_region_drawn_tail 29 (by kernel_rfl) (by kernel_rfl) ?_
          simp only [List.take_succ_cons, List.take_zero, List.drop_succ_cons, List.drop_zero]
          repeat (go_big_quiet_step ((go_at_call 28; exact Calls.quiet_of_same (rotl_any _ _ _ (by decide) (by decide)))))
          refine wpQuiet_nil ?_
          rintro _ ⟨nq2, rfl⟩
          go_wp2_with fail
          go_roundw
          case rel =>
            refine ⟨k + 1, by omega, by go_num, ?_, (hrow.drewN _).set_other (Nat.ne_of_lt hcs.lt) _ _, grown_set (grown_drewN hbl _) (Or.inr (by simp)) _ _⟩
            have hlen := Hlen.out
            have := row_words (w' := w) (x := wnext (wsched blk k)) hd (by omega) (16 + k) hlen.symm nq2
            rw [wsched]
            simp only [wnext, sig0, sig1, hlen, List.getD_eq_getElem?_getD, Nat.add_sub_cancel_left] at this ⊢
            exact this
          case measure => simp [intOf]; omega
        · have hk48 : k = 48 := by omega
          subst hk48
          simp only [Nat.reduceAdd, Int.cast_ofNat_Int]
          obtain ⟨wo2, hwo2⟩ : ∃ wo : World, wo = wr := ⟨_, rfl⟩
          subst hwo2
          have hKt : ∀ j, j < 64 → w.cell? ⟨0, j, none⟩ = some (.int .u32 (KT.getD j 0)) := hK
          obtain ⟨W, hW⟩ : ∃ W, W = wsched blk 48 := ⟨_, rfl⟩
          obtain ⟨T, hT⟩ : ∃ T, T = KT := ⟨_, rfl⟩
          have hrn : ∀ m, roundsT T W s m = rounds (wsched blk 48) s m := fun m => by rw [hT, hW, roundsT_eq]
          have hWl : W.length = 64 := by rw [hW, wsched_length]
          rw [← hW] at hd
          rw [← hT] at hKt
          have hcomp : ∀ st, st = roundsT T W s 64 → comp s blk = addS s st := fun st h => comp_of (h.trans (hrn 64))
          have HWl := Lib.hid hWl
          have Hcomp := Lib.hid hcomp
          clear hW hT hrn hWl hcomp hK
          have e0 : wo2.cell? ⟨b, 0, none⟩ = some (.int .u32 s.a) := hrow.at_ (hv 0 (by omega))
          have e1 : wo2.cell? ⟨b, 1, none⟩ = some (.int .u32 s.b) := hrow.at_ (hv 1 (by omega))
          have e2 : wo2.cell? ⟨b, 2, none⟩ = some (.int .u32 s.c) := hrow.at_ (hv 2 (by omega))
          have e3 : wo2.cell? ⟨b, 3, none⟩ = some (.int .u32 s.d) := hrow.at_ (hv 3 (by omega))
          have e4 : wo2.cell? ⟨b, 4, none⟩ = some (.int .u32 s.e) := hrow.at_ (hv 4 (by omega))
          have e5 : wo2.cell? ⟨b, 5, none⟩ = some (.int .u32 s.f) := hrow.at_ (hv 5 (by omega))
          have e6 : wo2.cell? ⟨b, 6, none⟩ = some (.int .u32 s.g) := hrow.at_ (hv 6 (by omega))
          have e7 : wo2.cell? ⟨b, 7, none⟩ = some (.int .u32 s.h) := hrow.at_ (hv 7 (by omega))
          go_wp2_with fail
          go_quiet (fail)
          go_wp2_with fail
          clear e0 e1 e2 e3 e4 e5 e6 e7
          go_loopw [7, 8, 9, 10, 11, 12, 13, 14, 148] (fun v7 v8 v9 v10 v11 v12 v13 v14 i wr => ∃ (k : Nat) (st : S8), k ≤ 64 ∧ i = .int .i64 k ∧ Hid (st = roundsT T W s k) ∧
              v7 = .int .u32 st.a ∧ v8 = .int .u32 st.b ∧ v9 = .int .u32 st.c ∧ v10 = .int .u32 st.d ∧ v11 = .int .u32 st.e ∧ v12 = .int .u32 st.f ∧ v13 = .int .u32 st.g ∧ v14 = .int .u32 st.h ∧
              Row wr w.heap.size 52 (wcells W) ∧ Row wr b 50 cs ∧ w.grownBy wr (some b))
            (fun _ _ _ _ _ _ _ _ i _ => 64 - (intOf i).toNat)
          case atStart => exact ⟨0, s, by omega, rfl, Lib.hid rfl, rfl, rfl, rfl, rfl, rfl, rfl, rfl, rfl, hd, hrow, grown_drewN hbl _⟩
          case round =>
            clear hd hrow hbl
            obtain ⟨k, st, hk, rfl, hst, rfl, rfl, rfl, rfl, rfl, rfl, rfl, rfl, hd, hrow, hbl⟩ := hrel
            by_cases hlt : k < 64
            · have c0 : wr.cell? ⟨w.heap.size, k, none⟩ = _ := hd.at_ (wcells_get _ _ (by rw [HWl.out]; omega))
              have c1 : wr.cell? ⟨0, k, none⟩ = some (.int .u32 (T.getD k 0)) := by
                have h0 := hKt k hlt
                rw [grown_cell hbl (block_lt_of_cell h0) (by simpa using hb0)]; exact h0
              obtain ⟨wk, hwk⟩ : ∃ x, W.getD k 0 = x := ⟨_, rfl⟩
              obtain ⟨kk, hkk⟩ : ∃ x, T.getD k 0 = x := ⟨_, rfl⟩
              rw [hwk] at c0
              rw [hkk] at c1
              have Hwk := Lib.hid hwk
              have Hkk := Lib.hid hkk
              clear hwk hkk
              go_wp2_with fail
              go_quiet ((go_at_call 28; exact Calls.quiet_of_same (rotl_any _ _ _ (by decide) (by decide))))
              go_wp2_with (go_at_call 28; refine (rotl_any _ _ _ (by decide) (by decide)).mono ?_; rintro e w' ⟨rfl, rfl⟩)
              go_roundw
              case rel =>
                refine ⟨k + 1, rnd st kk wk, by omega, by go_num, ?_, ?_, rfl, rfl, rfl, ?_, rfl, rfl, rfl, hd, hrow, grown_drewN hbl _⟩
                · refine Lib.hid ?_
                  rw [roundsT, ← hst.out, Hwk.out, Hkk.out]
                · refine congrArg (Value.int .u32) ?_
                  show _ = (t1f st kk wk + t2f st) % 4294967296
                  rw [show (if IntKind.u32.signed = true then (-1 : Int) else IntKind.u32.max) = IntKind.u32.max from rfl]
                  unfold t1f t2f bsig1 bsig0 chf majf
                  omega
                · refine congrArg (Value.int .u32) ?_
                  show _ = (st.d + t1f st kk wk) % 4294967296
                  rw [show (if IntKind.u32.signed = true then (-1 : Int) else IntKind.u32.max) = IntKind.u32.max from rfl]
                  unfold t1f bsig1 chf
                  omega
              case measure => simp [intOf]; omega
            · have hk64 : k = 64 := by omega
              subst hk64
              simp only [Nat.reduceAdd, Int.cast_ofNat_Int]
              obtain ⟨wo3, hwo3⟩ : ∃ wo : World, wo = wr := ⟨_, rfl⟩
              subst hwo3
              go_wp2_with fail
              have hrow0 : Row wo3 b 50 (mix s st 0 ++ (blk.map (Value.int .u8) ++ [.int .u64 n])) := by
                have := hrow
                rw [← Hcs.out] at this
                exact this
              go_loopw [220] (fun i wr => ∃ k : Nat, k ≤ 8 ∧ i = .int .i64 k ∧ Row wr b 50 (mix s st k ++ (blk.map (Value.int .u8) ++ [.int .u64 n])) ∧ w.grownBy wr (some b))
                (fun i _ => 8 - (intOf i).toNat)
              case atStart => exact ⟨0, by omega, rfl, hrow0, hbl⟩
              case round =>
                clear hd hrow hbl hrow0
                obtain ⟨k, hk, rfl, hrow, hbl⟩ := hrel
                by_cases hlt : k < 8
                · have hidx := idx8 st k hlt
                  have c0 := hrow.at_ (mix_get s st _ k hlt)
                  have d0 := hrow.frozen k
                  obtain ⟨x, hx⟩ : ∃ x, s.list.getD k 0 = x := ⟨_, rfl⟩
                  obtain ⟨y, hy⟩ : ∃ x, st.list.getD k 0 = x := ⟨_, rfl⟩
                  rw [hx] at c0
                  simp only [hy] at hidx
                  have Hx := Lib.hid hx
                  have Hy := Lib.hid hy
                  clear hx hy
                  go_wp2_with fail
                  refine wp_region_drawn_tail 11 (by kernel_rfl) (by kernel_rfl) ?_
                  simp only [List.take_succ_cons, List.take_zero, List.drop_succ_cons, List.drop_zero]
                  repeat (go_big_quiet_step (fail))
                  refine wpQuiet_nil ?_
                  rintro _ ⟨nq, rfl⟩
                  go_wp2_with fail
                  go_roundw
                  case rel =>
                    refine ⟨k + 1, by omega, by go_num, ?_, grown_set (grown_drewN hbl _) (Or.inl rfl) _ _⟩
                    have := (hrow.drewN nq).set k (.int .u32 ((x + y) % 4294967296))
                    rw [← Hx.out, ← Hy.out, mix_set s st _ k hlt, Hx.out, Hy.out] at this
                    exact this
                  case measure => simp [intOf]; omega
                · have hk8 : k = 8 := by omega
                  subst hk8
                  go_wp2_with fail
                  go_end0
                  refine ⟨rfl, ?_, hbl⟩
                  rw [mix_all, ← Hcomp.out st hst.out] at hrow
                  exact hrow
end Go.Proofs.YtkfdaeipfjcibaaDoor
