/- The statements' own help: the same bytes, with seven more behind them; are they kept; and the anchor of the statements. -/
import Derived.Test.YtkfdaeipfjcibaaDoorApp
import Derived.Laws.BytesArg
namespace Go.Proofs.YtkfdaeipfjcibaaDoor
open Go.RowKit
set_option linter.unusedVariables false
set_option linter.unusedSimpArgs false
theorem conv_src {w : World} {A : Option Addr} {y : List Int} (c : Nat) (h : Src w A y) (hA : A = none → y = []) : (convert 22 9 (.slice A y.length c)).run Tryd.prog w = .ok (.string (strOfNums y)) w := by
  cases A with
  | none =>
    obtain rfl := hA rfl
    rw [run_convert_bytes_nil w 22 5 Tryd.underlying22 Tryd.underlying5 _ _ 9 Tryd.underlying9]
    rfl
  | some a =>
    by_cases h0 : 0 < y.length
    · obtain ⟨a', ha, hs, hc⟩ := h h0
      obtain rfl := Option.some.inj ha
      obtain ⟨ab, ao, asp⟩ := a
      simp at hs
      subst hs
      exact run_convert_bytes_arg w 22 5 Tryd.underlying22 Tryd.underlying5 ab ao y.length c y rfl (fun i hi => hc i hi) 9 Tryd.underlying9
    · have : y = [] := List.eq_nil_of_length_eq_zero (by omega)
      subst this
      rw [run_convert_bytes_string w 22 9 5 _ _ _ Tryd.underlying22 Tryd.underlying5 Tryd.underlying9]
      show (Conv.bytesToString (.slice (some a) 0 c)).run Tryd.prog w = _
      rw [run_bytesToString w a 0 c [] (by rfl)]
      rfl
set_option maxHeartbeats 400000 in
theorem eqBytes_any (A B : Option Addr) (ca cb : Nat) (x : List Int) (w : World) (hA : A = none → x = []) (hB : B = none → x = []) (hxa : Src w A x) (hxb : Src w B x) :
    Calls Tryd.prog 23 #[.slice A x.length ca, .slice B x.length cb] w fun e w' => e = .returned (.bool true) ∧ w = w' := by
  have h1 := conv_src ca hxa hA
  have h2 := conv_src cb hxb hB
  generalize strOfNums x = s at h1 h2
  clear hxa hxb hA hB
  go_enter Tryd.func23, Tryd.ntmps23
  go_wp2
  go_ret
  exact ⟨rfl, rfl⟩
def marks : List Int := [201, 202, 203, 204, 205, 206, 207]
/-- Block g holds these bytes, the seven marks behind them, and whatever behind these. -/
def Roomed (w : World) (g cap : Nat) (x : List Int) : Prop := ∃ cs : List Value, Row w g 5 cs ∧ (∀ j, j < x.length + 7 → cs[j]? = some (.int .u8 ((x ++ marks).getD j 0))) ∧ x.length + 7 ≤ cap ∧ cap = cs.length ∧ cap ≤ maxLen
theorem Roomed.src {w : World} {g cap : Nat} {x : List Int} (h : Roomed w g cap x) : Src w (some ⟨g, 0, none⟩) x := fun h0 => by
  obtain ⟨cs, hr, hc, _⟩ := h
  refine ⟨_, rfl, rfl, fun j hj => ?_⟩
  rw [Nat.zero_add, hr.cell, hc j (by omega)]
  simp [List.getD_eq_getElem?_getD, List.getElem?_append, hj]
theorem Roomed.grown {w w' : World} {g cap : Nat} {x : List Int} {row : Option Nat} (h : Roomed w g cap x) (hg : w.grownBy w' row) (hne : some g ≠ row) : Roomed w' g cap x := by
  obtain ⟨cs, hr, h⟩ := h
  exact ⟨cs, hr.grown hg hne, h⟩
theorem Roomed.lt {w : World} {g cap : Nat} {x : List Int} (h : Roomed w g cap x) : g < w.heap.size := by obtain ⟨cs, hr, _⟩ := h; exact hr.lt
theorem slice_to (A : Option Addr) (n c h : Nat) (hc : h ≤ c) (W : World) : (Instr.slice 22 (.slice A n c) none (some (.int .i64 (h : Int))) none).run Tryd.prog W = .ok (.slice A h c) W := by
  have hz : (sizeOf (Tryd.prog.elem 22)).run Tryd.prog W = .ok 1 W := by kernel_rfl
  rw [run_slice_h W 22 A n c (by kernel_rfl) .i64 h (by omega) (by omega), hz]
  simp only [Result.andThen, sliced, Nat.zero_mul, Int.toNat_natCast, Nat.sub_zero]
  congr 2
  split
  · rfl
  · cases A with
    | none => rfl
    | some a => simp [Addr.add]
theorem own_roomed {w : World} {base : Nat} {v : Value} {x : List Int} (h : Own w base v (x ++ marks)) : ∃ g cap, v = .slice (some ⟨g, 0, none⟩) (x.length + 7) cap ∧ base ≤ g ∧ Roomed w g cap x := by
  have hl : (x ++ marks).length = x.length + 7 := by simp [marks]
  rcases h.2 with ⟨_, h0⟩ | ⟨g, cap, cur, rfl, hb, hg, hn, hm, hs, ht⟩
  · simp [marks] at h0
  · refine ⟨g, cap, by rw [hl], hb, cur.toList, by simpa [Row] using hg, fun j hj => ?_, by omega, by simp; omega, hm⟩
    have e : cur.toList[j]? = (cur.toList.take ((x ++ marks).length * 1))[j]? := by rw [List.getElem?_take, if_pos (by omega)]
    rw [e, ht, List.getElem?_map, List.getElem?_eq_getElem (by omega)]
    simp [List.getD_eq_getElem?_getD, List.getElem?_eq_getElem (show j < (x ++ marks).length by omega)]
theorem marks_byte : ∀ k : Nat, k < 7 → marks.getD k 0 = 201 + (k : Int) := by decide
set_option maxHeartbeats 800000 in
set_option maxRecDepth 100000 in
theorem roomy_any (A : Option Addr) (c : Nat) (x : List Int) (w : World) (hA : A = none → x = [] ∧ c = 0) (hx : Src w A x) (hsz : x.length ≤ 1073741824) :
    Calls Tryd.prog 9 #[.slice A x.length c] w fun e w' => ∃ g cap, e = .returned (.slice (some ⟨g, 0, none⟩) x.length cap) ∧ w.heap.size ≤ g ∧ Roomed w' g cap x ∧ w.grownBy w' none := by
  have HX := Lib.hid hx
  have HA := Lib.hid hA
  clear hx hA
  go_enter Tryd.func9, Tryd.ntmps9
  go_wp2_with (go_at_call 18; refine (copyBytes_any A c x w HA.out HX.out hsz).mono ?_; rintro e w1 ⟨v, rfl, ho1, hg1⟩; have Ho1 := Lib.hid ho1; have Hg1 := Lib.hid hg1; clear ho1 hg1)
  go_loopw [3, 4] (fun v i wr => ∃ k : Nat, k ≤ 7 ∧ i = .int .i64 k ∧ Hid (Own wr w.heap.size v (x ++ marks.take k)) ∧ Hid (w.grownBy wr none))
    (fun _ i _ => 7 - (intOf i).toNat)
  case atStart => exact ⟨0, by omega, rfl, by simpa using Ho1, Hg1⟩
  case round =>
    obtain ⟨k, hk, rfl, Ho, Hg⟩ := hrel
    by_cases hlt : k < 7
    · have hb := marks_byte k hlt
      have hst : x ++ marks.take (k + 1) = (x ++ marks.take k) ++ [201 + (k : Int)] := by
        rw [List.take_succ_eq_append_getElem (by simpa [marks] using hlt), List.append_assoc, ← hb]
        simp [List.getD_eq_getElem?_getD, List.getElem?_eq_getElem (show k < marks.length by simpa [marks] using hlt)]
      have Hst := Lib.hid hst
      have hln : (x ++ marks.take k).length + 1 ≤ 1099511627776 := by simp; omega
      have Hln := Lib.hid hln
      clear hb hst hln
      go_wp2_with (first
        | (refine wpList_build1 rfl 22 5 (.tmp 14) rfl Tryd.underlying22 (.int .u8 (201 + (k : Int))) rfl _ info5 (by kernel_rfl) (.int .u8 0) (by kernel_rfl) rfl rfl ?_; intro w6 hr6 hg6 hs6; clear hs6; simp only [Act.put, List.setIfInBounds_toArray, List.set_cons_zero, List.set_cons_succ])
        | (refine wpList_append_bytes rfl (.tmp 11) (.tmp 15) rfl w.heap.size _ (x ++ marks.take k) [201 + (k : Int)] rfl (Ho.out.grown hg6 (by cases h : u3.ownBlock <;> simp)) (some ⟨wr.heap.size, 0, none⟩) 1 rfl (by intro h; cases h) (src_build hr6) Hln.out (by have := Hg.out.size; have := hg6.size; omega) ?_; intro v7 w7 ho7 hg7; simp only [Act.put, List.setIfInBounds_toArray, List.set_cons_zero, List.set_cons_succ]
           have Ho7 := Lib.hid ho7
           have Hg7 : Hid (w.grownBy w7 none) := Lib.hid (grown_own (grown_own Hg.out hg6 (by simp)) hg7 (fun i hi => Or.inr (Ho.out.block i hi).1))
           clear ho7 hg7 hr6 hg6))
      go_roundw
      case rel => exact ⟨k + 1, by omega, by go_num, by rw [Hst.out]; exact Ho7, Hg7⟩
      case measure => simp [intOf]; omega
    · have hk7 : k = 7 := by omega
      subst hk7
      obtain ⟨g, cap, rfl, hb, hr⟩ := own_roomed (x := x) (by simpa [marks] using Ho.out)
      have hcap : x.length ≤ cap := by obtain ⟨_, _, _, h, _⟩ := hr; omega
      have hsl := slice_to (some ⟨g, 0, none⟩) (x.length + 7) cap x.length hcap
      have Hr := Lib.hid hr
      clear hr
      go_wp2
      go_ret
      exact ⟨g, cap, rfl, hb, Hr.out, Hg.out⟩
set_option maxHeartbeats 800000 in
set_option maxRecDepth 100000 in
theorem kept_any (g cap : Nat) (A : Option Addr) (c : Nat) (x : List Int) (w : World) (hr : Roomed w g cap x) (hA : A = none → x = []) (hx : Src w A x) (hsz : x.length ≤ 1073741824) :
    Calls Tryd.prog 12 #[.slice (some ⟨g, 0, none⟩) x.length cap, .slice A x.length c] w fun e w' => e = .returned (.bool true) ∧ w = w' := by
  have hcap : x.length + 7 ≤ cap := by obtain ⟨_, _, _, h, _⟩ := hr; omega
  have Hr := Lib.hid hr
  have HX := Lib.hid hx
  have HA := Lib.hid hA
  have hsl := slice_to (some ⟨g, 0, none⟩) x.length cap (x.length + 7) hcap
  rw [show ((x.length + 7 : Nat) : Int) = (x.length : Int) + 7 from rfl] at hsl
  clear hr hx hA
  go_enter Tryd.func12, Tryd.ntmps12
  go_wp2_with (go_at_call 23; refine (eqBytes_any (some ⟨g, 0, none⟩) A cap c x w (by intro h; cases h) HA.out Hr.out.src HX.out).mono ?_; rintro e w1 ⟨rfl, rfl⟩)
  go_loop [6] (fun i => ∃ k : Nat, k ≤ 7 ∧ i = .int .i64 k) (fun i => 7 - (intOf i).toNat)
  case atStart => exact ⟨0, by omega, rfl⟩
  case round =>
    obtain ⟨k, hk, rfl⟩ := hrel
    by_cases hlt : k < 7
    · have hb := marks_byte k hlt
      have hc : w.cell? ⟨g, x.length + k, none⟩ = some (.int .u8 (201 + (k : Int))) := by
        obtain ⟨cs, hrow, hcs, _⟩ := Hr.out
        rw [hrow.cell, hcs _ (by omega), ← hb, List.getD_eq_getElem?_getD, List.getElem?_append_right (by omega), Nat.add_sub_cancel_left, ← List.getD_eq_getElem?_getD]
      clear hb
      go_wp2
      go_round
      case rel => exact ⟨k + 1, by omega, by go_num⟩
      case measure => simp [intOf]; omega
    · go_wp2
      go_ret
      exact ⟨rfl, rfl⟩
end Go.Proofs.YtkfdaeipfjcibaaDoor
