/- The reference's quoted text. The reference's least: the place of the least key above another one. The reference's text of a value; its Check, its Print. The reference's Check and Print. -/
import Derived.Test.YtlbilofnbhhmjaaGreatDoorRCheck
import Derived.Test.YtlbilofnbhhmjaaGreatDoorPVal
import Derived.Test.YtlbilofnbhhmjaaGreatDoorSame
import Derived.Lib.ConvBytes
import Derived.Lib.SlBytesConst
import Derived.Test.YtlbilofnbhhmjaaGreatDoorPrint
namespace Go.Proofs.YtlbilofnbhhmjaaGreatDoor
section
open Go.RowKit
set_option linter.unusedVariables false
set_option linter.unusedSimpArgs false
set_option maxHeartbeats 3200000 in
theorem half_any (n : Int) (w : World) (h0 : 0 ≤ n) (h1 : n ≤ 15) : Calls Tryz.prog 79 #[.int .u8 n] w fun e w' => e = .returned (.int .u8 (hexD n)) ∧ w = w' := by
  by_cases h : n < 10
  · have HE : Hid (hexD n = 48 + n) := Lib.hid (by unfold hexD; rw [if_pos h])
    go_enter Tryz.func79, Tryz.ntmps79
    go_wp2
    go_ret
    exact ⟨ret_num (by rw [HE.out]), rfl⟩
  · have HE : Hid (hexD n = 97 + n - 10) := Lib.hid (by unfold hexD; rw [if_neg h]; omega)
    go_enter Tryz.func79, Tryz.ntmps79
    go_wp2
    go_ret
    exact ⟨ret_num (by rw [HE.out]), rfl⟩
theorem hexD_range {n : Int} (h0 : 0 ≤ n) (h1 : n ≤ 15) : 48 ≤ hexD n ∧ hexD n ≤ 102 := by unfold hexD; split <;> omega
theorem restAt_cons {s : ByteArray} {i : Nat} (h : i < s.size) : restAt s i = ch s i :: restAt s (i + 1) := by rw [restAt_step (n := 1) (by omega), bytesAt_one]; rfl
theorem own_then {w w1 w2 : World} {v : Value} {l : List Int} (hg : w.grownBy w1 none) (ho : Own w1 w.heap.size v l) (h : w1.grownBy w2 v.ownBlock) : w.grownBy w2 none := grown_own hg h (fun i hi => .inr (ho.block i hi).1)
theorem own_fresh (w : World) (l : List Int) (hz : l.length ≤ maxLen) : Own (w.alloc (.cells (l.map (Value.int .u8)).toArray 5)) w.heap.size (.slice (some ⟨w.heap.size, 0, none⟩) l.length l.length) l := by
  refine ⟨by simp, .inr ⟨w.heap.size, l.length, (l.map (Value.int .u8)).toArray, rfl, Nat.le_refl _, heap_alloc_new w _, Nat.le_refl _, hz, by simp, ?_⟩⟩
  rw [List.toList_toArray, List.take_of_length_le (by simp)]
theorem escS_le (l : List Int) : (escS l).length ≤ 6 * l.length := by
  induction l with
  | nil => simp [escS]
  | cons c l ih =>
    have := escB_le c
    have e : escS (c :: l) = escB c ++ escS l := by simp [escS]
    rw [e, List.length_append, List.length_cons]
    omega
theorem quoteS_le (s : ByteArray) : (quoteS s).length ≤ 6 * s.size + 2 := by
  have := escS_le (restAt s 0)
  rw [restAt_length] at this
  simp [quoteS]; omega
/-- Bytes that are told one by one, as a new slice. -/
theorem wpList_buildB {ops : Array Oper} {rest : List Oper} {o : Oper} {a : Act} {w : World} {Q : Exit → Act → World → Prop} (hgd : o.guard = none) (l : List Int) (n : Nat) (parts : Array (Nat × Operand)) (ho : o.op = .buildSlice 41 n parts) (hn : n = l.length)
    (hp : parts.toList.map (fun p => (p.1, a.eval p.2)) = ((l.map (Value.int .u8)).zipIdx 0).map fun x => (x.2, x.1)) (h0 : 0 < n) (hz : n ≤ 2 ^ 24)
    (h : wpList Tryz.prog ops Q rest (a.put o.dst (.slice (some ⟨w.heap.size, 0, none⟩) n n)) (w.alloc (.cells (l.map (Value.int .u8)).toArray 5))) : wpList Tryz.prog ops Q (o :: rest) a w := by
  have hsz : (Tryz.prog.info? 5).get!.size = 1 := by kernel_rfl
  refine wpList_buildSlice hgd 41 5 n parts ho _ _ (.int .u8 0) Tryz.underlying41 info5 (by kernel_rfl) (by rw [hsz]; omega) (by rw [hsz]; omega) ?_ h
  rw [Array.toList_map, show parts.toList.map (fun (i, x) => (i, a.eval x)) = parts.toList.map (fun p => (p.1, a.eval p.2)) from rfl, hp, hsz]
  exact Great.fill_flat _ _ (fun v hv => by obtain ⟨n, _, rfl⟩ := List.mem_map.1 hv; rfl) (by simp [hn])
/-- Such bytes behind a row of the call's own. -/
theorem wpList_appLit {ops : Array Oper} {rest : List Oper} {o1 o2 : Oper} {a : Act} {w : World} {Q : Exit → Act → World → Prop} (g1 : o1.guard = none) (g2 : o2.guard = none) (l : List Int) (n : Nat) (parts : Array (Nat × Operand)) (ho1 : o1.op = .buildSlice 41 n parts) (hn : n = l.length)
    (hp : parts.toList.map (fun p => (p.1, a.eval p.2)) = ((l.map (Value.int .u8)).zipIdx 0).map fun x => (x.2, x.1)) (h0 : 0 < n) (hz : n ≤ 2 ^ 24)
    (s x : Operand) (ho2 : o2.op = .call { callee := .builtin .append, args := #[s, x], argTypes := #[41, 41] }) (base : Nat) (v : Value) (acc : List Int) (hs : (a.put o1.dst (.slice (some ⟨w.heap.size, 0, none⟩) n n)).eval s = v)
    (hx : (a.put o1.dst (.slice (some ⟨w.heap.size, 0, none⟩) n n)).eval x = .slice (some ⟨w.heap.size, 0, none⟩) n n) (hown : Own w base v acc) (hsz : acc.length + n ≤ 1099511627776) (hbase : base ≤ w.heap.size)
    (h : ∀ v' w1 w2, Own w2 base v' (acc ++ l) → w.grownBy w1 none → w1.grownBy w2 v.ownBlock → wpList Tryz.prog ops Q rest ((a.put o1.dst (.slice (some ⟨w.heap.size, 0, none⟩) n n)).put o2.dst v') w2) : wpList Tryz.prog ops Q (o1 :: o2 :: rest) a w := by
  subst hn
  refine wpList_buildB g1 l _ parts ho1 rfl hp h0 hz ?_
  exact wpList_append_bytes g2 s x ho2 base v acc l hs (own_none_grown hown (grown_new w _).1) (some ⟨w.heap.size, 0, none⟩) l.length hx (by intro h; cases h) (src_row (Row.new w _ 5)) hsz (by simp; omega) (fun v' w' h1 h2 => h v' _ w' h1 (grown_new w _).1 h2)
def QuPost (l : List Int) (w : World) (e : Ending) (w' : World) : Prop := ∃ v, e = .returned v ∧ Own w' w.heap.size v l ∧ w.grownBy w' none
set_option maxHeartbeats 12800000 in
set_option maxRecDepth 100000 in
theorem quoted_any (s : ByteArray) (w : World) (hs : s.size ≤ 16777216) : Calls Tryz.prog 54 #[.string s] w (QuPost (quoteS s) w) := by
  obtain ⟨RES, hR⟩ : ∃ r, quoteS s = r := ⟨_, rfl⟩
  have HI0 : Hid ([34] ++ (escS (restAt s 0) ++ [34]) = RES) := Lib.hid (by rw [← hR]; rfl)
  have HL : Hid (RES.length ≤ 6 * s.size + 2) := Lib.hid (by rw [← hR]; exact quoteS_le s)
  rw [hR]
  clear hR
  go_enter Tryz.func54, Tryz.ntmps54
  go_upto_region 2 with fail
  have HO1 : Hid (Own (w.alloc (.cells #[.int .u8 34] 5)) w.heap.size (.slice (some ⟨w.heap.size, 0, none⟩) 1 1) [34]) := Lib.hid (own_fresh w [34] (by decide))
  have HG1 := Lib.hid (grown_new w (.cells #[.int .u8 34] 5)).1
  generalize hw1 : w.alloc (.cells #[.int .u8 34] 5) = w1 at HO1 HG1 ⊢
  clear hw1
  go_wp2_with fail
  go_loopw [3, 4] (fun u v wr => ∃ (i : Nat) (acc : List Int), i ≤ s.size ∧ v = .int .i64 (i : Int) ∧ Hid (Own wr w.heap.size u acc) ∧ Hid (w.grownBy wr none) ∧ Hid (acc ++ (escS (restAt s i) ++ [34]) = RES)) (fun _ v _ => s.size - (intOf v).toNat)
  case atStart => exact ⟨0, [34], by omega, rfl, HO1, HG1, HI0⟩
  case round =>
    obtain ⟨i, acc, hi, rfl, HO, HG, HI⟩ := hrel
    clear HO1 HG1 HI0
    have hal : acc.length ≤ 6 * s.size + 2 := by have := HL.out; have h := HI.out; rw [← h, List.length_append] at this; omega
    have hgs := HG.out.size
    by_cases hlt : i < s.size
    · have e1 : (i : Int) < (s.size : Int) := by omega
      obtain ⟨c, hc⟩ : ∃ c, ch s i = c := ⟨_, rfl⟩
      have hcr := ch_range s i
      have hi2 := HI.out
      rw [restAt_cons hlt, hc] at hi2
      rw [hc] at hcr
      obtain ⟨hc0, hc1⟩ := hcr
      have hcb := ch_in hlt
      rw [hc] at hcb
      have HI2 : Hid ((acc ++ escB c) ++ (escS (restAt s (i + 1)) ++ [34]) = RES) := Lib.hid (by rw [← hi2]; simp [escS])
      clear HI hi2 hc
      go_upto_region 5 with fail
      have hcb2 := hcb.symm
      clear hcb
      go_upto_region 7 with fail
      clear hcb2
      by_cases k34 : c = 34
      · subst k34
        have HI3 : Hid ((acc ++ [92, 34]) ++ (escS (restAt s (i + 1)) ++ [34]) = RES) := HI2
        clear HI2
        go_wp2_with (refine wpList_appLit rfl rfl [92, 34] 2 _ rfl rfl rfl (by decide) (by decide) (.tmp 27) (.tmp 29) rfl w.heap.size u3 acc rfl rfl HO.out (by omega) (by omega) ?_; intro v8 w7 w8 ho8 hg7 hg8; simp only [Act.put, List.setIfInBounds_toArray, List.set_cons_zero, List.set_cons_succ]; have HO8 := Lib.hid ho8; have HG8 := Lib.hid (own_then (grown_own HG.out hg7 (by simp)) (own_none_grown HO.out hg7) hg8); clear ho8 hg7 hg8)
        go_roundw
        case rel => exact ⟨i + 1, _, by omega, by go_num, HO8, HG8, HI3⟩
        case measure => simp [intOf]; omega
      have b34 : (c == 34) = false := by simpa using k34
      by_cases k92 : c = 92
      · subst k92
        have HI3 : Hid ((acc ++ [92, 92]) ++ (escS (restAt s (i + 1)) ++ [34]) = RES) := HI2
        clear HI2
        go_wp2_with (refine wpList_appLit rfl rfl [92, 92] 2 _ rfl rfl rfl (by decide) (by decide) (.tmp 27) (.tmp 29) rfl w.heap.size u3 acc rfl rfl HO.out (by omega) (by omega) ?_; intro v8 w7 w8 ho8 hg7 hg8; simp only [Act.put, List.setIfInBounds_toArray, List.set_cons_zero, List.set_cons_succ]; have HO8 := Lib.hid ho8; have HG8 := Lib.hid (own_then (grown_own HG.out hg7 (by simp)) (own_none_grown HO.out hg7) hg8); clear ho8 hg7 hg8)
        go_roundw
        case rel => exact ⟨i + 1, _, by omega, by go_num, HO8, HG8, HI3⟩
        case measure => simp [intOf]; omega
      have b92 : (c == 92) = false := by simpa using k92
      by_cases k8 : c = 8
      · subst k8
        have HI3 : Hid ((acc ++ [92, 98]) ++ (escS (restAt s (i + 1)) ++ [34]) = RES) := HI2
        clear HI2
        go_wp2_with (refine wpList_appLit rfl rfl [92, 98] 2 _ rfl rfl rfl (by decide) (by decide) (.tmp 34) (.tmp 35) rfl w.heap.size u3 acc rfl rfl HO.out (by omega) (by omega) ?_; intro v8 w7 w8 ho8 hg7 hg8; simp only [Act.put, List.setIfInBounds_toArray, List.set_cons_zero, List.set_cons_succ]; have HO8 := Lib.hid ho8; have HG8 := Lib.hid (own_then (grown_own HG.out hg7 (by simp)) (own_none_grown HO.out hg7) hg8); clear ho8 hg7 hg8)
        go_roundw
        case rel => exact ⟨i + 1, _, by omega, by go_num, HO8, HG8, HI3⟩
        case measure => simp [intOf]; omega
      have b8 : (c == 8) = false := by simpa using k8
      by_cases k12 : c = 12
      · subst k12
        have HI3 : Hid ((acc ++ [92, 102]) ++ (escS (restAt s (i + 1)) ++ [34]) = RES) := HI2
        clear HI2
        go_wp2_with (refine wpList_appLit rfl rfl [92, 102] 2 _ rfl rfl rfl (by decide) (by decide) (.tmp 40) (.tmp 41) rfl w.heap.size u3 acc rfl rfl HO.out (by omega) (by omega) ?_; intro v8 w7 w8 ho8 hg7 hg8; simp only [Act.put, List.setIfInBounds_toArray, List.set_cons_zero, List.set_cons_succ]; have HO8 := Lib.hid ho8; have HG8 := Lib.hid (own_then (grown_own HG.out hg7 (by simp)) (own_none_grown HO.out hg7) hg8); clear ho8 hg7 hg8)
        go_roundw
        case rel => exact ⟨i + 1, _, by omega, by go_num, HO8, HG8, HI3⟩
        case measure => simp [intOf]; omega
      have b12 : (c == 12) = false := by simpa using k12
      by_cases k10 : c = 10
      · subst k10
        have HI3 : Hid ((acc ++ [92, 110]) ++ (escS (restAt s (i + 1)) ++ [34]) = RES) := HI2
        clear HI2
        go_wp2_with (refine wpList_appLit rfl rfl [92, 110] 2 _ rfl rfl rfl (by decide) (by decide) (.tmp 46) (.tmp 47) rfl w.heap.size u3 acc rfl rfl HO.out (by omega) (by omega) ?_; intro v8 w7 w8 ho8 hg7 hg8; simp only [Act.put, List.setIfInBounds_toArray, List.set_cons_zero, List.set_cons_succ]; have HO8 := Lib.hid ho8; have HG8 := Lib.hid (own_then (grown_own HG.out hg7 (by simp)) (own_none_grown HO.out hg7) hg8); clear ho8 hg7 hg8)
        go_roundw
        case rel => exact ⟨i + 1, _, by omega, by go_num, HO8, HG8, HI3⟩
        case measure => simp [intOf]; omega
      have b10 : (c == 10) = false := by simpa using k10
      by_cases k13 : c = 13
      · subst k13
        have HI3 : Hid ((acc ++ [92, 114]) ++ (escS (restAt s (i + 1)) ++ [34]) = RES) := HI2
        clear HI2
        go_wp2_with (refine wpList_appLit rfl rfl [92, 114] 2 _ rfl rfl rfl (by decide) (by decide) (.tmp 52) (.tmp 53) rfl w.heap.size u3 acc rfl rfl HO.out (by omega) (by omega) ?_; intro v8 w7 w8 ho8 hg7 hg8; simp only [Act.put, List.setIfInBounds_toArray, List.set_cons_zero, List.set_cons_succ]; have HO8 := Lib.hid ho8; have HG8 := Lib.hid (own_then (grown_own HG.out hg7 (by simp)) (own_none_grown HO.out hg7) hg8); clear ho8 hg7 hg8)
        go_roundw
        case rel => exact ⟨i + 1, _, by omega, by go_num, HO8, HG8, HI3⟩
        case measure => simp [intOf]; omega
      have b13 : (c == 13) = false := by simpa using k13
      by_cases k9 : c = 9
      · subst k9
        have HI3 : Hid ((acc ++ [92, 116]) ++ (escS (restAt s (i + 1)) ++ [34]) = RES) := HI2
        clear HI2
        go_wp2_with (refine wpList_appLit rfl rfl [92, 116] 2 _ rfl rfl rfl (by decide) (by decide) (.tmp 58) (.tmp 59) rfl w.heap.size u3 acc rfl rfl HO.out (by omega) (by omega) ?_; intro v8 w7 w8 ho8 hg7 hg8; simp only [Act.put, List.setIfInBounds_toArray, List.set_cons_zero, List.set_cons_succ]; have HO8 := Lib.hid ho8; have HG8 := Lib.hid (own_then (grown_own HG.out hg7 (by simp)) (own_none_grown HO.out hg7) hg8); clear ho8 hg7 hg8)
        go_roundw
        case rel => exact ⟨i + 1, _, by omega, by go_num, HO8, HG8, HI3⟩
        case measure => simp [intOf]; omega
      have b9 : (c == 9) = false := by simpa using k9
      have HX : Hid (c ≠ 34 ∧ c ≠ 92 ∧ c ≠ 8 ∧ c ≠ 12 ∧ c ≠ 10 ∧ c ≠ 13 ∧ c ≠ 9) := Lib.hid ⟨k34, k92, k8, k12, k10, k13, k9⟩
      clear k34 k92 k8 k12 k10 k13 k9
      by_cases k32 : c < 32
      · have h1 := hexD_range (n := c / 16) (by omega) (by omega)
        have h2 := hexD_range (n := c % 16) (by omega) (by omega)
        have HI3 : Hid ((acc ++ [92, 117, 48, 48, hexD (c / 16), hexD (c % 16)]) ++ (escS (restAt s (i + 1)) ++ [34]) = RES) := Lib.hid (by
          obtain ⟨x1, x2, x3, x4, x5, x6, x7⟩ := HX.out
          have := HI2.out
          unfold escB at this
          rwa [if_neg x1, if_neg x2, if_neg x3, if_neg x4, if_neg x5, if_neg x6, if_neg x7, if_pos k32] at this)
        clear HI2
        go_wp2_with (first
          | (go_at_call 79; refine (half_any _ _ (by omega) (by omega)).mono ?_; rintro e wz ⟨rfl, rfl⟩)
          | (refine wpList_appLit rfl rfl [92, 117, 48, 48, hexD (c / 16), hexD (c % 16)] 6 _ rfl rfl rfl (by decide) (by decide) (.tmp 64) (.tmp 71) rfl w.heap.size u3 acc rfl rfl HO.out (by omega) (by omega) ?_; intro v8 w7 w8 ho8 hg7 hg8; simp only [Act.put, List.setIfInBounds_toArray, List.set_cons_zero, List.set_cons_succ]; have HO8 := Lib.hid ho8; have HG8 := Lib.hid (own_then (grown_own HG.out hg7 (by simp)) (own_none_grown HO.out hg7) hg8); clear ho8 hg7 hg8))
        go_roundw
        case rel => exact ⟨i + 1, _, by omega, by go_num, HO8, HG8, HI3⟩
        case measure => simp [intOf]; omega
      · have HI3 : Hid ((acc ++ [c]) ++ (escS (restAt s (i + 1)) ++ [34]) = RES) := Lib.hid (by
          obtain ⟨x1, x2, x3, x4, x5, x6, x7⟩ := HX.out
          have := HI2.out
          unfold escB at this
          rwa [if_neg x1, if_neg x2, if_neg x3, if_neg x4, if_neg x5, if_neg x6, if_neg x7, if_neg k32] at this)
        clear HI2
        go_wp2_with (refine wpList_appLit rfl rfl [c] 1 _ rfl rfl rfl (by decide) (by decide) (.tmp 16) (.tmp 18) rfl w.heap.size u3 acc rfl rfl HO.out (by omega) (by omega) ?_; intro v8 w7 w8 ho8 hg7 hg8; simp only [Act.put, List.setIfInBounds_toArray, List.set_cons_zero, List.set_cons_succ]; have HO8 := Lib.hid ho8; have HG8 := Lib.hid (own_then (grown_own HG.out hg7 (by simp)) (own_none_grown HO.out hg7) hg8); clear ho8 hg7 hg8)
        go_roundw
        case rel => exact ⟨i + 1, _, by omega, by go_num, HO8, HG8, HI3⟩
        case measure => simp [intOf]; omega
    · obtain rfl : i = s.size := by omega
      have HI3 : Hid (acc ++ [34] = RES) := Lib.hid (by rw [← HI.out, restAt_end (Nat.le_refl _)]; rfl)
      go_wp2_with (refine wpList_appLit rfl rfl [34] 1 _ rfl rfl rfl (by decide) (by decide) (.tmp 73) (.tmp 74) rfl w.heap.size u3 acc rfl rfl HO.out (by omega) (by omega) ?_; intro v8 w7 w8 ho8 hg7 hg8; simp only [Act.put, List.setIfInBounds_toArray, List.set_cons_zero, List.set_cons_succ]; have HO8 := Lib.hid ho8; have HG8 := Lib.hid (own_then (grown_own HG.out hg7 (by simp)) (own_none_grown HO.out hg7) hg8); clear ho8 hg7 hg8)
      go_ret
      exact ⟨_, rfl, by rw [← HI3.out]; exact HO8.out, HG8.out⟩
end
section
open Go.RowKit Go.Sort Go.Lib Go.Shelf
set_option linter.unusedVariables false
set_option linter.unusedSimpArgs false
/-- The place of the least of the first n keys that are let. -/
def leastS (ks : List ByteArray) (el : Nat → Bool) (n : Nat) : Option Nat → Option Nat
  | none => if el n = true then some n else none
  | some a => if el n = true ∧ keyLt ks n a = true then some n else some a
def leastN (ks : List ByteArray) (el : Nat → Bool) : Nat → Option Nat
  | 0 => none
  | n + 1 => leastS ks el n (leastN ks el n)
def lv : Option Nat → Int
  | none => -1
  | some a => a
theorem leastN_spec (ks : List ByteArray) (el : Nat → Bool) : ∀ n, (leastN ks el n = none → ∀ k, k < n → el k = false) ∧ ∀ a, leastN ks el n = some a → a < n ∧ el a = true ∧ ∀ k, k < n → el k = true → keyLt ks k a = false
  | 0 => ⟨fun _ k h => by omega, fun a h => by cases h⟩
  | n + 1 => by
    obtain ⟨h1, h2⟩ := leastN_spec ks el n
    have hS := swo_key ks (fun x : Nat => x)
    unfold leastN leastS
    cases hr : leastN ks el n with
    | none =>
      have h0 := h1 hr
      by_cases he : el n = true
      · simp only [he, if_true]
        refine ⟨fun h => (by cases h), fun a h => ?_⟩
        obtain rfl := Option.some.inj h
        refine ⟨by omega, he, fun k hk hk2 => ?_⟩
        rcases Nat.lt_or_ge k n with hl | hl
        · rw [h0 k hl] at hk2; cases hk2
        · obtain rfl : k = n := by omega
          exact hS.irrefl k
      · simp only [he]
        refine ⟨fun _ k hk => ?_, fun a h => (by simp at h)⟩
        rcases Nat.lt_or_ge k n with hl | hl
        · exact h0 k hl
        · obtain rfl : k = n := by omega
          simpa using he
    | some a =>
      obtain ⟨ha, hb, hc⟩ := h2 a hr
      by_cases he : el n = true ∧ keyLt ks n a = true
      · simp only [he, and_self, if_true]
        refine ⟨fun h => (by cases h), fun x h => ?_⟩
        obtain rfl := Option.some.inj h
        refine ⟨by omega, he.1, fun k hk hk2 => ?_⟩
        rcases Nat.lt_or_ge k n with hl | hl
        · have := hc k hl hk2
          cases hkn : keyLt ks k n with
          | false => rfl
          | true => have := hS.trans k n a hkn he.2; simp_all
        · obtain rfl : k = n := by omega
          exact hS.irrefl k
      · simp only [if_neg he]
        refine ⟨fun h => (by cases h), fun x h => ?_⟩
        obtain rfl := Option.some.inj h
        refine ⟨by omega, hb, fun k hk hk2 => ?_⟩
        rcases Nat.lt_or_ge k n with hl | hl
        · exact hc k hl hk2
        · obtain rfl : k = n := by omega
          cases hkn : keyLt ks k a with
          | false => rfl
          | true => exact absurd ⟨hk2, hkn⟩ he
theorem leastN_ord {ks : List ByteArray} (hn : ks.Nodup) {el : Nat → Bool} (i0 : Nat) (hel : ∀ m k, (ordOf ks)[m]? = some k → el k = decide (i0 ≤ m)) : leastN ks el ks.length = (ordOf ks)[i0]? := by
  obtain ⟨h1, h2⟩ := leastN_spec ks el ks.length
  cases hr : leastN ks el ks.length with
  | none =>
    cases hp : (ordOf ks)[i0]? with
    | none => rfl
    | some p =>
      have := h1 hr p (ord_mem.1 (List.mem_of_getElem? hp))
      rw [hel i0 p hp] at this
      simp at this
  | some a =>
    obtain ⟨ha, hb, hc⟩ := h2 a hr
    obtain ⟨m, hm⟩ := List.mem_iff_getElem?.1 (ord_mem.2 ha)
    rw [hel m a hm] at hb
    have hb := of_decide_eq_true hb
    have hml := (List.getElem?_eq_some_iff.1 hm).1
    have hp : (ordOf ks)[i0]? = some (ordOf ks)[i0] := List.getElem?_eq_getElem (by omega)
    have hpl : (ordOf ks)[i0] < ks.length := ord_mem.1 (List.getElem_mem _)
    have hpa := hc _ hpl (by rw [hel i0 _ hp]; simp)
    rw [hp]
    rcases Nat.lt_or_ge i0 m with hlt | hge
    · have hs := ord_sorted ks
      rw [List.pairwise_iff_getElem] at hs
      have := hs i0 m (by omega) hml hlt
      rw [(List.getElem?_eq_some_iff.1 hm).2] at this
      rw [key_anti hn ha hpl this hpa]
    · obtain rfl : m = i0 := by omega
      rw [(List.getElem?_eq_some_iff.1 hm).2]
theorem least_first {ks : List ByteArray} (hn : ks.Nodup) : leastN ks (fun _ => true) ks.length = (ordOf ks)[0]? := leastN_ord hn 0 (fun m k _ => by simp)
theorem least_next {ks : List ByteArray} (hn : ks.Nodup) {i o : Nat} (ho : (ordOf ks)[i]? = some o) : leastN ks (fun k => keyLt ks o k) ks.length = (ordOf ks)[i + 1]? := by
  refine leastN_ord hn (i + 1) (fun m k hm => ?_)
  have hS := swo_key ks (fun x : Nat => x)
  have hs := ord_sorted ks
  rw [List.pairwise_iff_getElem] at hs
  obtain ⟨hil, hie⟩ := List.getElem?_eq_some_iff.1 ho
  obtain ⟨hml, hme⟩ := List.getElem?_eq_some_iff.1 hm
  rcases Nat.lt_trichotomy m i with h | h | h
  · have := hs m i hml hil h
    rw [hie, hme] at this
    rw [this]; simp; omega
  · subst h
    rw [hie] at hme
    subst hme
    rw [hS.irrefl]; simp
  · have h0 := hs i m hil hml h
    rw [hie, hme] at h0
    have hd : decide (i + 1 ≤ m) = true := by simp; omega
    rw [hd]
    cases hk : keyLt ks o k with
    | true => rfl
    | false =>
      have e := key_anti hn (ord_mem.1 (List.mem_of_getElem? ho)) (ord_mem.1 (List.mem_of_getElem? hm)) hk h0
      subst e
      have hnd : (ordOf ks).Nodup := (ord_perm ks).nodup_iff.2 List.nodup_range
      rw [List.nodup_iff_pairwise_ne, List.pairwise_iff_getElem] at hnd
      exact absurd (hie.trans hme.symm) (hnd i m hil hml h)
/-- The world after some draws. -/
def DrewOf (w w' : World) : Prop := ∃ n, w' = w.drewN n
theorem drew_more {w w' : World} (h : DrewOf w w') (n : Nat) : DrewOf w (w'.drewN n) := by
  obtain ⟨m, rfl⟩ := h
  exact ⟨m + n, World.drewN_drewN _ _ _⟩
theorem drew_grown {w w' : World} (h : DrewOf w w') : w.grownBy w' none := by
  obtain ⟨m, rfl⟩ := h
  exact grown_drewN (grown_refl _ _) m
theorem gt_cases (k above : ByteArray) (all : Bool) : (all = true ∧ (all || Op.bytesLess above.toList k.toList) = true) ∨ (all = false ∧ Op.bytesLess k.toList above.toList = true ∧ (all || Op.bytesLess above.toList k.toList) = false) ∨
    (all = false ∧ Op.bytesLess k.toList above.toList = false ∧ (k.toList == above.toList) = true ∧ (all || Op.bytesLess above.toList k.toList) = false) ∨
    (all = false ∧ Op.bytesLess k.toList above.toList = false ∧ (k.toList == above.toList) = false ∧ (all || Op.bytesLess above.toList k.toList) = true) := by
  cases all with
  | true => exact .inl ⟨rfl, rfl⟩
  | false =>
    simp only [Bool.false_or, bytesLess_eq]
    by_cases h1 : k.toList < above.toList
    · refine .inr (.inl ⟨trivial, by simpa using h1, ?_⟩)
      simp only [decide_eq_false_iff_not]
      exact fun h2 => absurd (List.lt_trans h1 h2) (List.lt_irrefl _)
    · by_cases h2 : k.toList = above.toList
      · refine .inr (.inr (.inl ⟨trivial, by simpa using h1, by simpa using h2, ?_⟩))
        rw [h2]; simp [List.lt_irrefl]
      · refine .inr (.inr (.inr ⟨trivial, by simpa using h1, by simpa using h2, ?_⟩))
        have h3 : above.toList < k.toList := by
          refine Decidable.byContradiction fun h3 => h2 (List.le_antisymm ?_ ?_)
          · exact List.not_lt.1 h3
          · exact List.not_lt.1 h1
        simpa using h3
set_option maxHeartbeats 6400000 in
set_option maxRecDepth 100000 in
theorem least_any (A : Option Addr) (c : Nat) (ks : List ByteArray) (above : ByteArray) (all : Bool) (w : World) (hA : StrAt w A ks) (hn : ks.length ≤ 1073741824) :
    Calls Tryz.prog 55 #[.slice A ks.length c, .string above, .bool all] w fun e w' => e = .returned (.int .i64 (lv (leastN ks (fun k => all || Op.bytesLess above.toList (ks.getD k ⟨#[]⟩).toList) ks.length))) ∧ DrewOf w w' := by
  obtain ⟨el, hel⟩ : ∃ el : Nat → Bool, (fun k => all || Op.bytesLess above.toList (ks.getD k ⟨#[]⟩).toList) = el := ⟨_, rfl⟩
  rw [hel]
  have HEL := Lib.hid hel
  have HA := Lib.hid hA
  obtain ⟨R, hR⟩ : ∃ r, lv (leastN ks el ks.length) = r := ⟨_, rfl⟩
  rw [hR]
  have HR := Lib.hid hR
  clear hel hA hR
  go_enter Tryz.func55, Tryz.ntmps55
  go_wp2_with fail
  go_loopw [7, 8] (fun u v wr => ∃ i : Nat, ∃ r : Option Nat, i ≤ ks.length ∧ v = .int .i64 (i : Int) ∧ u = .int .i64 (lv r) ∧ Hid (leastN ks el i = r) ∧ Hid (∀ a, r = some a → a < i) ∧ Hid (StrAt wr A ks) ∧ Hid (DrewOf w wr)) (fun _ v _ => ks.length - (intOf v).toNat)
  case atStart => exact ⟨0, none, by omega, rfl, rfl, Lib.hid rfl, Lib.hid (fun a h => by cases h), HA, Lib.hid ⟨0, rfl⟩⟩
  case round =>
    obtain ⟨i, r, hi, rfl, rfl, HL, HLt, HA1, HG⟩ := hrel
    clear HA
    by_cases hlt : i < ks.length
    · obtain ⟨k, hk⟩ : ∃ k, ks[i]? = some k := ⟨_, List.getElem?_eq_getElem hlt⟩
      obtain ⟨a1, o1, rfl, h1⟩ := HA1.out (by omega)
      have c1 := h1 i k hk
      have e1 : (i : Int) < (ks.length : Int) := by omega
      have hkd : ks.getD i ⟨#[]⟩ = k := by rw [List.getD_eq_getElem?_getD, hk]; rfl
      have Hel : Hid (el i = (all || Op.bytesLess above.toList k.toList)) := Lib.hid (by rw [← HEL.out]; show (all || Op.bytesLess above.toList (ks.getD i ⟨#[]⟩).toList) = _; rw [hkd])
      have Hstep : Hid (leastN ks el (i + 1) = leastS ks el i r) := Lib.hid (by unfold leastN; rw [HL.out])
      have Hkd := Lib.hid hkd
      clear hk hkd
      cases r with
      | none =>
        clear h1
        have hl : lv none = -1 := rfl
        rw [hl]
        clear hl
        rcases gt_cases k above all with ⟨rfl, hB⟩ | ⟨rfl, h2, hB⟩ | ⟨rfl, h2, h3, hB⟩ | ⟨rfl, h2, h3, hB⟩
        · have HS : Hid (leastN ks el (i + 1) = some i) := Lib.hid (by rw [Hstep.out]; unfold leastS; rw [Hel.out, hB]; rfl)
          clear hB
          go_wp2_with fail
          go_quiet (fail)
          have HA2 := Lib.hid (HA1.out.drewN nq)
          have HG2 := Lib.hid (drew_more HG.out nq)
          generalize hw : wr.drewN nq = w2 at HA2 HG2
          clear hw c1
          go_wp2_with fail
          go_roundw
          case rel => exact ⟨i + 1, some i, by omega, by go_num, rfl, HS, Lib.hid (fun x h => by have := Option.some.inj h; omega), HA2, HG2⟩
          case measure => simp [intOf]; omega
        · have HS : Hid (leastN ks el (i + 1) = none) := Lib.hid (by rw [Hstep.out]; unfold leastS; rw [Hel.out, hB]; rfl)
          clear hB
          go_wp2_with fail
          go_quiet (fail)
          have HA2 := Lib.hid (HA1.out.drewN nq)
          have HG2 := Lib.hid (drew_more HG.out nq)
          generalize hw : wr.drewN nq = w2 at HA2 HG2
          clear hw c1
          go_wp2_with fail
          go_roundw
          case rel => exact ⟨i + 1, none, by omega, by go_num, rfl, HS, Lib.hid (fun x h => by cases h), HA2, HG2⟩
          case measure => simp [intOf]; omega
        · have HS : Hid (leastN ks el (i + 1) = none) := Lib.hid (by rw [Hstep.out]; unfold leastS; rw [Hel.out, hB]; rfl)
          clear hB
          go_wp2_with fail
          go_quiet (fail)
          have HA2 := Lib.hid (HA1.out.drewN nq)
          have HG2 := Lib.hid (drew_more HG.out nq)
          generalize hw : wr.drewN nq = w2 at HA2 HG2
          clear hw c1
          go_wp2_with fail
          go_roundw
          case rel => exact ⟨i + 1, none, by omega, by go_num, rfl, HS, Lib.hid (fun x h => by cases h), HA2, HG2⟩
          case measure => simp [intOf]; omega
        · have HS : Hid (leastN ks el (i + 1) = some i) := Lib.hid (by rw [Hstep.out]; unfold leastS; rw [Hel.out, hB]; rfl)
          clear hB
          go_wp2_with fail
          go_quiet (fail)
          have HA2 := Lib.hid (HA1.out.drewN nq)
          have HG2 := Lib.hid (drew_more HG.out nq)
          generalize hw : wr.drewN nq = w2 at HA2 HG2
          clear hw c1
          go_wp2_with fail
          go_roundw
          case rel => exact ⟨i + 1, some i, by omega, by go_num, rfl, HS, Lib.hid (fun x h => by have := Option.some.inj h; omega), HA2, HG2⟩
          case measure => simp [intOf]; omega
      | some a =>
        have hai := HLt.out a rfl
        obtain ⟨q, hq⟩ : ∃ q, ks[a]? = some q := ⟨_, List.getElem?_eq_getElem (by omega)⟩
        have c2 := h1 a q hq
        have hqd : ks.getD a ⟨#[]⟩ = q := by rw [List.getD_eq_getElem?_getD, hq]; rfl
        have Hlt : Hid (keyLt ks i a = Op.bytesLess k.toList q.toList) := Lib.hid (by unfold keyLt; rw [Hkd.out, hqd])
        have e2 : (a : Int) < (ks.length : Int) := by omega
        have e3 : decide ((a : Int) < 0) = false := by simp
        clear h1 hq hqd
        have hl : lv (some a) = (a : Int) := rfl
        rw [hl]
        clear hl
        cases hL : Op.bytesLess k.toList q.toList with
        | true =>
          rw [hL] at Hlt
          rcases gt_cases k above all with ⟨rfl, hB⟩ | ⟨rfl, h2, hB⟩ | ⟨rfl, h2, h3, hB⟩ | ⟨rfl, h2, h3, hB⟩
          · have HS : Hid (leastN ks el (i + 1) = some i) := Lib.hid (by rw [Hstep.out]; show (if el i = true ∧ keyLt ks i a = true then some i else some a) = _; rw [Hel.out, Hlt.out, hB]; rfl)
            clear hB
            go_wp2_with fail
            go_quiet (fail)
            have HA2 := Lib.hid (HA1.out.drewN nq)
            have HG2 := Lib.hid (drew_more HG.out nq)
            generalize hw : wr.drewN nq = w2 at HA2 HG2
            clear hw c1 c2
            go_wp2_with fail
            go_roundw
            case rel => exact ⟨i + 1, some i, by omega, by go_num, rfl, HS, Lib.hid (fun x h => by have := Option.some.inj h; omega), HA2, HG2⟩
            case measure => simp [intOf]; omega
          · have HS : Hid (leastN ks el (i + 1) = some a) := Lib.hid (by rw [Hstep.out]; show (if el i = true ∧ keyLt ks i a = true then some i else some a) = _; rw [Hel.out, Hlt.out, hB]; rfl)
            clear hB
            go_wp2_with fail
            go_quiet (fail)
            have HA2 := Lib.hid (HA1.out.drewN nq)
            have HG2 := Lib.hid (drew_more HG.out nq)
            generalize hw : wr.drewN nq = w2 at HA2 HG2
            clear hw c1 c2
            go_wp2_with fail
            go_roundw
            case rel => exact ⟨i + 1, some a, by omega, by go_num, rfl, HS, Lib.hid (fun x h => by have := Option.some.inj h; omega), HA2, HG2⟩
            case measure => simp [intOf]; omega
          · have HS : Hid (leastN ks el (i + 1) = some a) := Lib.hid (by rw [Hstep.out]; show (if el i = true ∧ keyLt ks i a = true then some i else some a) = _; rw [Hel.out, Hlt.out, hB]; rfl)
            clear hB
            go_wp2_with fail
            go_quiet (fail)
            have HA2 := Lib.hid (HA1.out.drewN nq)
            have HG2 := Lib.hid (drew_more HG.out nq)
            generalize hw : wr.drewN nq = w2 at HA2 HG2
            clear hw c1 c2
            go_wp2_with fail
            go_roundw
            case rel => exact ⟨i + 1, some a, by omega, by go_num, rfl, HS, Lib.hid (fun x h => by have := Option.some.inj h; omega), HA2, HG2⟩
            case measure => simp [intOf]; omega
          · have HS : Hid (leastN ks el (i + 1) = some i) := Lib.hid (by rw [Hstep.out]; show (if el i = true ∧ keyLt ks i a = true then some i else some a) = _; rw [Hel.out, Hlt.out, hB]; rfl)
            clear hB
            go_wp2_with fail
            go_quiet (fail)
            have HA2 := Lib.hid (HA1.out.drewN nq)
            have HG2 := Lib.hid (drew_more HG.out nq)
            generalize hw : wr.drewN nq = w2 at HA2 HG2
            clear hw c1 c2
            go_wp2_with fail
            go_roundw
            case rel => exact ⟨i + 1, some i, by omega, by go_num, rfl, HS, Lib.hid (fun x h => by have := Option.some.inj h; omega), HA2, HG2⟩
            case measure => simp [intOf]; omega
        | false =>
          rw [hL] at Hlt
          have HS : Hid (leastN ks el (i + 1) = some a) := Lib.hid (by rw [Hstep.out]; show (if el i = true ∧ keyLt ks i a = true then some i else some a) = _; rw [Hlt.out, if_neg (by simp)])
          rcases gt_cases k above all with ⟨rfl, hB⟩ | ⟨rfl, h2, hB⟩ | ⟨rfl, h2, h3, hB⟩ | ⟨rfl, h2, h3, hB⟩
          all_goals
            clear hB
            go_wp2_with fail
            go_quiet (fail)
            have HA2 := Lib.hid (HA1.out.drewN nq)
            have HG2 := Lib.hid (drew_more HG.out nq)
            generalize hw : wr.drewN nq = w2 at HA2 HG2
            clear hw c1 c2
            go_wp2_with fail
            go_roundw
            case rel => exact ⟨i + 1, some a, by omega, by go_num, rfl, HS, Lib.hid (fun x h => by have := Option.some.inj h; omega), HA2, HG2⟩
            case measure => simp [intOf]; omega
    · have e1 : ¬ (i : Int) < (ks.length : Int) := by omega
      have HF : Hid (lv r = R) := Lib.hid (by rw [← HR.out, ← HL.out, show i = ks.length by omega])
      go_wp2_with fail
      go_ret
      rw [HF.out]
      exact ⟨rfl, HG.out⟩
end
section
open Go.RowKit
set_option linter.unusedVariables false
set_option linter.unusedSimpArgs false
/-- Bytes that are handed out and only read. -/
def TxPost (l : List Int) (w : World) (e : Ending) (w' : World) : Prop := ∃ A c, e = .returned (.slice A l.length c) ∧ (A = none → l = [] ∧ c = 0) ∧ Src w' A l ∧ w.grownBy w' none
theorem src_of_str2 (w : World) (s : ByteArray) : Src (Lib.bytesWorld w 5 s) (some ⟨w.heap.size, 0, none⟩) (restAt s 0) := fun h0 => ⟨_, rfl, rfl, fun j hj => by
  rw [restAt_len] at hj
  rw [Nat.zero_add, Lib.bytesWorld_cell w 5 s j hj]
  have e1 : (restAt s 0).getD j 0 = ch s j := by
    unfold restAt bytesAt
    rw [List.getD_eq_getElem?_getD, List.getElem?_map, List.getElem?_range (by omega)]
    simp
  rw [e1, ch_in hj]
  congr 2
  rw [List.getD_eq_getElem?_getD, Array.getElem?_toList, Array.getElem?_eq_getElem (show j < s.data.size from hj)]
  rfl⟩
set_option maxRecDepth 100000 in
theorem wpList_conv_str2 {ops : Array Oper} {rest : List Oper} {o : Oper} {a : Act} {w : World} {Q : Exit → Act → World → Prop} (hgd : o.guard = none) (x : Operand) (ho : o.op = .convert 9 41 x) (s : ByteArray) (hx : a.eval x = .string s)
    (h : ∀ c w', Src w' (some ⟨w.heap.size, 0, none⟩) (restAt s 0) → w.grownBy w' none → wpList Tryz.prog ops Q rest (a.put o.dst (.slice (some ⟨w.heap.size, 0, none⟩) (restAt s 0).length c)) w') : wpList Tryz.prog ops Q (o :: rest) a w :=
  wpList_plain hgd fun K hK => by
    have hrun := Lib.run_convert_string_bytes (P := Tryz.prog) w 9 41 5 s Tryz.underlying9 Tryz.underlying41 Tryz.underlying5
    rw [← restAt_len s] at hrun
    unfold Oper.wp execOp
    simp only [ho, hx, Sem.run_bind, hrun, Result.andThen_ok, Sem.run_pure]
    refine hK _ _ (h _ _ (src_of_str2 w s) ⟨rfl, rfl, rfl, by rw [Lib.bytesWorld_size]; omega, fun i hi _ => Lib.bytesWorld_at_old w 5 s i hi⟩)
theorem src_marked2 (w : World) (l : List Int) (fr : Nat × Nat) : Src (w.alloc (.cells (l.map (Value.int .u8)).toArray 5 fr)) (some ⟨w.heap.size, 0, none⟩) l := fun h0 => ⟨_, rfl, rfl, fun j hj => by
  rw [cell_of_row _ _ _ _ _ _ (heap_alloc_new w _), Nat.zero_add]
  simp [hj]⟩
def TxIs (w0 : World) (f : Nat) (j : J) : Prop := ∀ (cs : List Value) (w : World), JR w0 j cs → Right f j → Below w0.heap.size w0 w → (writeJ f j).length ≤ 16777216 → Calls Tryz.prog 33 #[.agg cs.toArray] w (TxPost (writeJ f j) w)
/-- A text under way: the value's box, the bytes in a row of the call's own. -/
structure TxAt (w0 w wr : World) (Bb : Nat) (cs : List Value) (u : Value) (acc : List Int) : Prop where
  box : Row wr Bb 26 cs
  grown : w.grownBy wr none
  below : Below w0.heap.size w0 wr
  own : Own wr (Bb + 1) u acc
section
variable {w0 w wr w2 w3 : World} {Bb : Nat} {cs : List Value} {u u' : Value} {acc acc' : List Int}
theorem TxAt.keep (h : TxAt w0 w wr Bb cs u acc) (hg : wr.grownBy w2 none) : TxAt w0 w w2 Bb cs u acc :=
  ⟨h.box.grown hg (by simp), grown_own h.grown hg (by simp), grown_below0 h.below hg (by simp), own_none_grown h.own hg⟩
theorem TxAt.app (h : TxAt w0 w wr Bb cs u acc) (hg : wr.grownBy w2 none) (ho : Own w3 (Bb + 1) u' acc') (hg3 : w2.grownBy w3 u.ownBlock) (hB : w.heap.size = Bb) (hW : w0.heap.size ≤ Bb) : TxAt w0 w w3 Bb cs u' acc' :=
  have hb := h.own.block
  ⟨(h.box.grown hg (by simp)).grown hg3 (fun e => by have := hb Bb e.symm; omega), grown_own (grown_own h.grown hg (by simp)) hg3 (fun i hi => .inr (by have := hb i hi; omega)), grown_below0 (grown_below0 h.below hg (by simp)) hg3 (fun x hx => by have := hb x hx; omega), ho⟩
theorem TxAt.post (h : TxAt w0 w wr Bb cs u acc) : TxPost acc w (.returned u) wr := by
  obtain ⟨A, c, rfl, h1, h2, h3, h4⟩ := own_slice h.own
  exact ⟨A, c, rfl, h1, h3, h.grown⟩
end
set_option maxHeartbeats 3200000 in
set_option maxRecDepth 100000 in
theorem text_flat (w0 : World) (f : Nat) (kd : Int) (bb : Bool) (t : ByteArray) (ks : List ByteArray) (ls : List J) (h : kd = 0 ∨ kd = 1 ∨ kd = 2 ∨ kd = 3) : TxIs w0 (f + 1) (.mk kd bb t ks ls) := by
  intro cs w hj hr hb hsz
  unfold JR at hj
  obtain ⟨A, c, B, dd, rfl, hkc, hlc, hA, hB⟩ := hj
  clear hA hB hr hkc hlc
  rcases h with rfl | rfl | rfl | rfl
  · have hw : writeJ (f + 1) (.mk 0 bb t ks ls) = [110, 117, 108, 108] := rfl
    rw [hw]
    clear hw hsz
    go_enter Tryz.func33, Tryz.ntmps33
    go_upto_region 1 with (refine wpList_box_abs rfl 26 (.tmp 0) rfl [.int .i8 0, .bool bb, .string t, .slice A ks.length c, .slice B ls.length dd] rfl ?_; intro w1 hr1 hg1 hs1; simp only [Act.put, List.setIfInBounds_toArray, List.set_cons_zero, List.set_cons_succ])
    have ck := hr1.at_ (j := 0) rfl
    have hcv := fun C n c => Lib.run_convert_bytes_const (P := Tryz.prog) w1 41 5 C n c Tryz.underlying41 Tryz.underlying5
    clear hs1
    go_wp2_with fail
    go_ret
    exact ⟨_, _, rfl, (by intro h; cases h), src_marked2 w1 [110, 117, 108, 108] _, grown_own hg1 (grown_new w1 _).1 (by simp)⟩
  · have hw : writeJ (f + 1) (.mk 1 bb t ks ls) = (if bb then [116, 114, 117, 101] else [102, 97, 108, 115, 101]) := rfl
    rw [hw]
    clear hw hsz
    cases bb with
    | true =>
      show Calls _ _ _ _ (TxPost [116, 114, 117, 101] w)
      go_enter Tryz.func33, Tryz.ntmps33
      go_upto_region 1 with (refine wpList_box_abs rfl 26 (.tmp 0) rfl [.int .i8 1, .bool true, .string t, .slice A ks.length c, .slice B ls.length dd] rfl ?_; intro w1 hr1 hg1 hs1; simp only [Act.put, List.setIfInBounds_toArray, List.set_cons_zero, List.set_cons_succ])
      have ck := hr1.at_ (j := 0) rfl
      have hcv := fun C n c => Lib.run_convert_bytes_const (P := Tryz.prog) w1 41 5 C n c Tryz.underlying41 Tryz.underlying5
      clear hs1
      have ck1 := hr1.at_ (j := 1) rfl
      go_wp2_with fail
      go_ret
      exact ⟨_, _, rfl, (by intro h; cases h), src_marked2 w1 [116, 114, 117, 101] _, grown_own hg1 (grown_new w1 _).1 (by simp)⟩
    | false =>
      show Calls _ _ _ _ (TxPost [102, 97, 108, 115, 101] w)
      go_enter Tryz.func33, Tryz.ntmps33
      go_upto_region 1 with (refine wpList_box_abs rfl 26 (.tmp 0) rfl [.int .i8 1, .bool false, .string t, .slice A ks.length c, .slice B ls.length dd] rfl ?_; intro w1 hr1 hg1 hs1; simp only [Act.put, List.setIfInBounds_toArray, List.set_cons_zero, List.set_cons_succ])
      have ck := hr1.at_ (j := 0) rfl
      have hcv := fun C n c => Lib.run_convert_bytes_const (P := Tryz.prog) w1 41 5 C n c Tryz.underlying41 Tryz.underlying5
      clear hs1
      have ck1 := hr1.at_ (j := 1) rfl
      go_wp2_with fail
      go_ret
      exact ⟨_, _, rfl, (by intro h; cases h), src_marked2 w1 [102, 97, 108, 115, 101] _, grown_own hg1 (grown_new w1 _).1 (by simp)⟩
  · have hw : writeJ (f + 1) (.mk 2 bb t ks ls) = restAt t 0 := rfl
    rw [hw]
    clear hw hsz
    go_enter Tryz.func33, Tryz.ntmps33
    go_upto_region 1 with (refine wpList_box_abs rfl 26 (.tmp 0) rfl [.int .i8 2, .bool bb, .string t, .slice A ks.length c, .slice B ls.length dd] rfl ?_; intro w1 hr1 hg1 hs1; simp only [Act.put, List.setIfInBounds_toArray, List.set_cons_zero, List.set_cons_succ])
    have ck := hr1.at_ (j := 0) rfl
    have hcv := fun C n c => Lib.run_convert_bytes_const (P := Tryz.prog) w1 41 5 C n c Tryz.underlying41 Tryz.underlying5
    clear hs1
    have ck1 := hr1.at_ (j := 2) rfl
    go_wp2_with (refine wpList_conv_str2 rfl (.tmp 24) rfl t rfl ?_; intro cc w8 hs8 hg8; simp only [Act.put, List.setIfInBounds_toArray, List.set_cons_zero, List.set_cons_succ])
    go_ret
    exact ⟨_, _, rfl, (by intro h; cases h), hs8, grown_own hg1 hg8 (by simp)⟩
  · have hw : writeJ (f + 1) (.mk 3 bb t ks ls) = quoteS t := rfl
    rw [hw] at hsz ⊢
    have hq := quoteS_len t
    clear hw
    have hts : t.size ≤ 16777216 := by omega
    clear hq hsz
    go_enter Tryz.func33, Tryz.ntmps33
    go_upto_region 1 with (refine wpList_box_abs rfl 26 (.tmp 0) rfl [.int .i8 3, .bool bb, .string t, .slice A ks.length c, .slice B ls.length dd] rfl ?_; intro w1 hr1 hg1 hs1; simp only [Act.put, List.setIfInBounds_toArray, List.set_cons_zero, List.set_cons_succ])
    have ck := hr1.at_ (j := 0) rfl
    have hcv := fun C n c => Lib.run_convert_bytes_const (P := Tryz.prog) w1 41 5 C n c Tryz.underlying41 Tryz.underlying5
    clear hs1
    have ck1 := hr1.at_ (j := 2) rfl
    go_wp2_with (go_at_call 54; refine (quoted_any t w1 hts).mono ?_; rintro e w8 ⟨v8, rfl, ho8, hg8⟩)
    go_ret
    obtain ⟨A8, c8, rfl, h1, h2, h3, h4⟩ := own_slice ho8
    exact ⟨A8, c8, rfl, h1, h3, grown_own hg1 hg8 (by simp)⟩
set_option maxHeartbeats 12800000 in
set_option maxRecDepth 100000 in
theorem text_list (w0 : World) (f : Nat) (IH : ∀ j, TxIs w0 f j) (bb : Bool) (t : ByteArray) (ks : List ByteArray) (ls : List J) : TxIs w0 (f + 1) (.mk 4 bb t ks ls) := by
  intro cs w hj hr hb hsz
  unfold JR at hj
  obtain ⟨A, c, B, dd, rfl, hkc, hlc, hA, hB⟩ := hj
  unfold Right at hr
  obtain ⟨r1, r2, r3, r4, r5, r6⟩ := hr
  simp only [J.ls] at r2 r6
  have hw : writeJ (f + 1) (.mk 4 bb t ks ls) = 91 :: (joinFrom 0 (ls.map (writeJ f)) ++ [93]) := rfl
  rw [hw] at hsz ⊢
  obtain ⟨RES, hR⟩ : ∃ r, 91 :: (joinFrom 0 (ls.map (writeJ f)) ++ [93]) = r := ⟨_, rfl⟩
  rw [hR] at hsz ⊢
  have HI0 : Hid ([91] ++ (joinFrom 0 ((ls.drop 0).map (writeJ f)) ++ [93]) = RES) := Lib.hid (by rw [← hR]; simp)
  have IH := Lib.hid IH
  have Hb := Lib.hid hb
  have HB := Lib.hid hB
  have HRt := Lib.hid r6
  have hbs := hb.size
  clear hA hB r1 r3 r4 r5 r6 hkc hlc hb hw hR
  go_enter Tryz.func33, Tryz.ntmps33
  go_upto_region 1 with (refine wpList_box_abs rfl 26 (.tmp 0) rfl [.int .i8 4, .bool bb, .string t, .slice A ks.length c, .slice B ls.length dd] rfl ?_; intro w1 hr1 hg1 hs1; simp only [Act.put, List.setIfInBounds_toArray, List.set_cons_zero, List.set_cons_succ])
  obtain ⟨Bb, hBb⟩ : ∃ x, w.heap.size = x := ⟨_, rfl⟩
  have HB0 : Hid (w.heap.size = Bb ∧ w0.heap.size ≤ Bb) := Lib.hid ⟨hBb, by omega⟩
  have Hs1b : Hid (w1.heap.size = Bb + 1) := Lib.hid (by omega)
  rw [hBb] at hr1 ⊢
  have ck := hr1.at_ (j := 0) rfl
  have Hr1 := Lib.hid hr1
  have Hg1 := Lib.hid hg1
  clear hr1 hg1 hs1 hBb
  go_upto_region 14 with fail
  have HX2 : Hid (TxAt w0 w (w1.alloc (.cells #[.int .u8 91] 5)) Bb [.int .i8 4, .bool bb, .string t, .slice A ks.length c, .slice B ls.length dd] (.slice (some ⟨w1.heap.size, 0, none⟩) 1 1) [91]) := Lib.hid ⟨Hr1.out.grown (grown_new w1 _).1 (by simp), grown_own Hg1.out (grown_new w1 _).1 (by simp), grown_below0 (grown_below0 Hb.out Hg1.out (by simp)) (grown_new w1 _).1 (by simp), Own.mono (own_fresh w1 [91] (by decide)) (by have := Hs1b.out; omega)⟩
  generalize hw2 : w1.alloc (.cells #[.int .u8 91] 5) = w2 at HX2 ⊢
  clear hw2 ck Hr1 Hg1
  go_wp2_with fail
  go_loopw [3, 4] (fun u v wr => ∃ (i : Nat) (acc : List Int), i ≤ ls.length ∧ v = .int .i64 (i : Int) ∧ Hid (TxAt w0 w wr Bb [.int .i8 4, .bool bb, .string t, .slice A ks.length c, .slice B ls.length dd] u acc) ∧ Hid (acc ++ (joinFrom i ((ls.drop i).map (writeJ f)) ++ [93]) = RES)) (fun _ v _ => ls.length - (intOf v).toNat)
  case atStart => exact ⟨0, [91], by omega, rfl, HX2, HI0⟩
  case round =>
    obtain ⟨i, acc, hi, rfl, HX, HI⟩ := hrel
    clear HX2 HI0 Hs1b
    have Hszwr := HX.out.box.lt
    have cl : wr.cell? ⟨Bb, 4, none⟩ = some (.slice B ls.length dd) := HX.out.box.at_ rfl
    by_cases hlt : i < ls.length
    · have e1 : (i : Int) < (ls.length : Int) := by omega
      obtain ⟨jv, hjv⟩ : ∃ jv, ls[i]? = some jv := ⟨_, List.getElem?_eq_getElem hlt⟩
      obtain ⟨b, fo, cj, rfl, hJ, hcell⟩ := HB.out.get hjv
      obtain ⟨p0, p1, p2, p3, p4, rfl⟩ := five_of hJ.five
      have HJ := Lib.hid hJ
      have hcell := Lib.hid hcell
      have HRj := Lib.hid (HRt.out jv (List.mem_of_getElem? hjv))
      have hdrop : ls.drop i = jv :: ls.drop (i + 1) := by
        rw [List.drop_eq_getElem_cons hlt]
        rw [List.getElem?_eq_getElem hlt] at hjv
        rw [Option.some.inj hjv]
      have hI := HI.out
      rw [hdrop, List.map_cons, joinFrom_cons] at hI
      obtain ⟨REST, hREST⟩ : ∃ r, joinFrom (i + 1) ((ls.drop (i + 1)).map (writeJ f)) = r := ⟨_, rfl⟩
      rw [hREST] at hI
      have HREST := Lib.hid hREST
      have hlen : acc.length + (if 0 < i then [44] else ([] : List Int)).length + (writeJ f jv).length + REST.length + 1 = RES.length := by rw [← hI]; simp only [List.length_append, List.length_cons, List.length_nil]; omega
      have HI2 := Lib.hid hI
      clear hJ hjv hdrop HI hI hREST
      go_upto_region 17 with fail
      by_cases h0 : 0 < i
      · have d0 : decide ((0 : Int) < (i : Int)) = true := by simpa using h0
        rw [if_pos h0] at hlen
        simp only [List.length_cons, List.length_nil] at hlen
        have hI2 := HI2.out
        rw [if_pos h0] at hI2
        have HI3 : Hid (((acc ++ [44]) ++ writeJ f jv) ++ (REST ++ [93]) = RES) := Lib.hid (by rw [← hI2]; simp)
        clear HI2 hI2 cl
        go_upto_region 19 with (refine wpList_appLit rfl rfl [44] 1 _ rfl rfl rfl (by decide) (by decide) (.tmp 43) (.tmp 44) rfl (Bb + 1) u3 acc rfl rfl HX.out.own (by (try simp only [List.length_append]); omega) (by omega) ?_; intro v8 wb w8 ho8 hgb hg8; simp only [Act.put, List.setIfInBounds_toArray, List.set_cons_zero, List.set_cons_succ]; have HX8 := Lib.hid (HX.out.app hgb ho8 hg8 HB0.out.1 HB0.out.2); have Hszw8 := HX8.out.box.lt; clear ho8 hgb hg8)
        have hB := HX8.out.below
        have cl : w8.cell? ⟨Bb, 4, none⟩ = some (.slice (some ⟨b, fo, none⟩) ls.length dd) := HX8.out.box.at_ rfl
        have hcell := hcell.out
        have q0 : w8.cell? ⟨b, fo + i * 5, none⟩ = some p0 := by have := below_cell hB (hcell 0 _ rfl); rwa [show fo + (0 + i * 5 + 0) = fo + i * 5 by omega] at this
        have q1 : w8.cell? ⟨b, fo + i * 5 + 1, none⟩ = some p1 := by have := below_cell hB (hcell 1 _ rfl); rwa [show fo + (0 + i * 5 + 1) = fo + i * 5 + 1 by omega] at this
        have q2 : w8.cell? ⟨b, fo + i * 5 + 2, none⟩ = some p2 := by have := below_cell hB (hcell 2 _ rfl); rwa [show fo + (0 + i * 5 + 2) = fo + i * 5 + 2 by omega] at this
        have q3 : w8.cell? ⟨b, fo + i * 5 + 3, none⟩ = some p3 := by have := below_cell hB (hcell 3 _ rfl); rwa [show fo + (0 + i * 5 + 3) = fo + i * 5 + 3 by omega] at this
        have q4 : w8.cell? ⟨b, fo + i * 5 + 4, none⟩ = some p4 := by have := below_cell hB (hcell 4 _ rfl); rwa [show fo + (0 + i * 5 + 4) = fo + i * 5 + 4 by omega] at this
        clear hcell hB
        have HLN : acc.length + 1 + (writeJ f jv).length ≤ 16777216 := by omega
        go_wp2_with (first
          | (go_at_call 33; refine (IH.out jv [p0, p1, p2, p3, p4] w8 HJ.out HRj.out HX8.out.below (by omega)).mono ?_; rintro e wq ⟨Aq, cq, rfl, hAq, hsq, hgq⟩)
          | (have _ := hgq; refine wpList_append_bytes rfl (.tmp 46) (.tmp 52) rfl (Bb + 1) v8 (acc ++ [44]) (writeJ f jv) rfl (own_none_grown HX8.out.own hgq) Aq cq rfl hAq hsq (by have := HLN; (try simp); omega) (by have := hgq.size; have := Hszw8; omega) ?_; intro v9 w9 ho9 hg9; simp only [Act.put, List.setIfInBounds_toArray, List.set_cons_zero, List.set_cons_succ]; have HX9 := Lib.hid (HX8.out.app hgq ho9 hg9 HB0.out.1 HB0.out.2); have Hszw9 := HX9.out.box.lt; clear ho9 hg9 hsq hgq hAq))
        go_roundw
        case rel => exact ⟨i + 1, _, by omega, by go_num, HX9, Lib.hid (by rw [HREST.out]; exact HI3.out)⟩
        case measure => simp [intOf]; omega
      · obtain rfl : i = 0 := by omega
        rw [if_neg h0] at hlen
        simp only [List.length_nil] at hlen
        have hI2 := HI2.out
        rw [if_neg h0] at hI2
        have HI3 : Hid ((acc ++ writeJ f jv) ++ (REST ++ [93]) = RES) := Lib.hid (by rw [← hI2]; simp)
        clear HI2 hI2 h0
        have hB := HX.out.below
        have hcell := hcell.out
        have q0 : wr.cell? ⟨b, fo, none⟩ = some p0 := by have := below_cell hB (hcell 0 _ rfl); rwa [show fo + (0 + 0 * 5 + 0) = fo by omega] at this
        have q1 : wr.cell? ⟨b, fo + 1, none⟩ = some p1 := by have := below_cell hB (hcell 1 _ rfl); rwa [show fo + (0 + 0 * 5 + 1) = fo + 1 by omega] at this
        have q2 : wr.cell? ⟨b, fo + 2, none⟩ = some p2 := by have := below_cell hB (hcell 2 _ rfl); rwa [show fo + (0 + 0 * 5 + 2) = fo + 2 by omega] at this
        have q3 : wr.cell? ⟨b, fo + 3, none⟩ = some p3 := by have := below_cell hB (hcell 3 _ rfl); rwa [show fo + (0 + 0 * 5 + 3) = fo + 3 by omega] at this
        have q4 : wr.cell? ⟨b, fo + 4, none⟩ = some p4 := by have := below_cell hB (hcell 4 _ rfl); rwa [show fo + (0 + 0 * 5 + 4) = fo + 4 by omega] at this
        clear hcell hB
        have HLN : acc.length + (writeJ f jv).length ≤ 16777216 := by omega
        go_wp2_with (first
          | (go_at_call 33; refine (IH.out jv [p0, p1, p2, p3, p4] wr HJ.out HRj.out HX.out.below (by omega)).mono ?_; rintro e wq ⟨Aq, cq, rfl, hAq, hsq, hgq⟩)
          | (have _ := hgq; refine wpList_append_bytes rfl (.tmp 46) (.tmp 52) rfl (Bb + 1) u3 acc (writeJ f jv) rfl (own_none_grown HX.out.own hgq) Aq cq rfl hAq hsq (by have := HLN; (try simp); omega) (by have := hgq.size; have := Hszwr; omega) ?_; intro v9 w9 ho9 hg9; simp only [Act.put, List.setIfInBounds_toArray, List.set_cons_zero, List.set_cons_succ]; have HX9 := Lib.hid (HX.out.app hgq ho9 hg9 HB0.out.1 HB0.out.2); have Hszw9 := HX9.out.box.lt; clear ho9 hg9 hsq hgq hAq))
        go_roundw
        case rel => exact ⟨0 + 1, _, by omega, by go_num, HX9, Lib.hid (by rw [HREST.out]; exact HI3.out)⟩
        case measure => simp [intOf]; omega
    · obtain rfl : i = ls.length := by omega
      have HI3 : Hid (acc ++ [93] = RES) := Lib.hid (by rw [← HI.out]; simp [joinFrom])
      have hl : acc.length + 1 = RES.length := by rw [← HI3.out]; simp
      clear HI
      go_wp2_with (refine wpList_appLit rfl rfl [93] 1 _ rfl rfl rfl (by decide) (by decide) (.tmp 54) (.tmp 55) rfl (Bb + 1) u3 acc rfl rfl HX.out.own (by (try simp only [List.length_append]); omega) (by omega) ?_; intro v8 wb w8 ho8 hgb hg8; simp only [Act.put, List.setIfInBounds_toArray, List.set_cons_zero, List.set_cons_succ]; have HX8 := Lib.hid (HX.out.app hgb ho8 hg8 HB0.out.1 HB0.out.2); have Hszw8 := HX8.out.box.lt; clear ho8 hgb hg8)
      go_ret
      rw [← HI3.out]
      exact HX8.out.post
set_option maxHeartbeats 12800000 in
set_option maxRecDepth 100000 in
theorem text_object (w0 : World) (f : Nat) (IH : ∀ j, TxIs w0 f j) (bb : Bool) (t : ByteArray) (ks : List ByteArray) (ls : List J) : TxIs w0 (f + 1) (.mk 5 bb t ks ls) := by
  intro cs w hj hr hb hsz
  unfold JR at hj
  obtain ⟨A, c, B, dd, rfl, hkc, hlc, hA, hB⟩ := hj
  unfold Right at hr
  obtain ⟨r1, r2, r3, r4, r5, r6⟩ := hr
  simp only [J.ls, J.kd, J.ks, J.bl, J.tx] at r1 r2 r5 r6
  have hlen : ks.length = ls.length := by simp [shapeV] at r1; exact r1.1.1
  have hnd := (r5 trivial).2
  have hw : writeJ (f + 1) (.mk 5 bb t ks ls) = 123 :: (joinFrom 0 ((ordOf ks).map (membS (writeJ f) ks ls)) ++ [125]) := rfl
  rw [hw] at hsz ⊢
  obtain ⟨RES, hR⟩ : ∃ r, 123 :: (joinFrom 0 ((ordOf ks).map (membS (writeJ f) ks ls)) ++ [125]) = r := ⟨_, rfl⟩
  rw [hR] at hsz ⊢
  have HI0 : Hid ([123] ++ (joinFrom 0 (((ordOf ks).drop 0).map (membS (writeJ f) ks ls)) ++ [125]) = RES) := Lib.hid (by rw [← hR]; simp)
  have IH := Lib.hid IH
  have Hb := Lib.hid hb
  have HA := Lib.hid hA
  have HB := Lib.hid hB
  have HRt := Lib.hid r6
  have Hlen := Lib.hid hlen
  have Hnd := Lib.hid hnd
  have hbs := hb.size
  have hkl : ks.length ≤ 256 := by omega
  clear hA hB r1 r3 r4 r5 r6 hkc hlc hb hw hR hlen hnd
  go_enter Tryz.func33, Tryz.ntmps33
  go_upto_region 1 with (refine wpList_box_abs rfl 26 (.tmp 0) rfl [.int .i8 5, .bool bb, .string t, .slice A ks.length c, .slice B ls.length dd] rfl ?_; intro w1 hr1 hg1 hs1; simp only [Act.put, List.setIfInBounds_toArray, List.set_cons_zero, List.set_cons_succ])
  obtain ⟨Bb, hBb⟩ : ∃ x, w.heap.size = x := ⟨_, rfl⟩
  have HB0 : Hid (w.heap.size = Bb ∧ w0.heap.size ≤ Bb) := Lib.hid ⟨hBb, by omega⟩
  have Hs1b : Hid (w1.heap.size = Bb + 1) := Lib.hid (by omega)
  rw [hBb] at hr1 ⊢
  have ck := hr1.at_ (j := 0) rfl
  have Hr1 := Lib.hid hr1
  have Hg1 := Lib.hid hg1
  clear hr1 hg1 hs1 hBb
  go_upto_region 22 with fail
  have HX2 : Hid (TxAt w0 w (w1.alloc (.cells #[.int .u8 123] 5)) Bb [.int .i8 5, .bool bb, .string t, .slice A ks.length c, .slice B ls.length dd] (.slice (some ⟨w1.heap.size, 0, none⟩) 1 1) [123]) := Lib.hid ⟨Hr1.out.grown (grown_new w1 _).1 (by simp), grown_own Hg1.out (grown_new w1 _).1 (by simp), grown_below0 (grown_below0 Hb.out Hg1.out (by simp)) (grown_new w1 _).1 (by simp), Own.mono (own_fresh w1 [123] (by decide)) (by have := Hs1b.out; omega)⟩
  generalize hw2 : w1.alloc (.cells #[.int .u8 123] 5) = w2 at HX2 ⊢
  clear hw2 ck Hr1 Hg1
  have ca : w2.cell? ⟨Bb, 3, none⟩ = some (.slice A ks.length c) := HX2.out.box.at_ rfl
  have Hfst : Hid (Calls Tryz.prog 55 #[.slice A ks.length c, .string ⟨#[]⟩, .bool true] w2 fun e w' => e = .returned (.int .i64 (lv (ordOf ks)[0]?)) ∧ DrewOf w2 w') := Lib.hid (by
    have := least_any A c ks ⟨#[]⟩ true w2 (HA.out.below HX2.out.below) (by omega)
    simp only [Bool.true_or] at this
    rwa [least_first Hnd.out] at this)
  have Hnxt : Hid (∀ (i o : Nat) (key : ByteArray) (W : World), (ordOf ks)[i]? = some o → ks[o]? = some key → Below w0.heap.size w0 W → Calls Tryz.prog 55 #[.slice A ks.length c, .string key, .bool false] W fun e w' => e = .returned (.int .i64 (lv (ordOf ks)[i + 1]?)) ∧ DrewOf W w') := Lib.hid (by
    intro i o key W ho hk hW
    have := least_any A c ks key false W (HA.out.below hW) (by omega)
    simp only [Bool.false_or] at this
    have hkd : ks.getD o ⟨#[]⟩ = key := by rw [List.getD_eq_getElem?_getD, hk]; rfl
    rw [← hkd] at this
    have e : (fun k => Op.bytesLess (ks.getD o ⟨#[]⟩).toList (ks.getD k ⟨#[]⟩).toList) = (fun k => keyLt ks o k) := rfl
    rw [e, least_next Hnd.out ho] at this
    rwa [← hkd])
  go_upto_region 23 with (go_at_call 55; refine Hfst.out.mono ?_; rintro e w3 ⟨rfl, hd3⟩; have HX3 := Lib.hid (HX2.out.keep (drew_grown hd3)); clear hd3)
  clear ca HX2
  go_loopg [5, 6] ks.length (fun d u v wr => ∃ (i : Nat) (acc : List Int), d = ks.length - i ∧ i ≤ ks.length ∧ v = .int .i64 (lv (ordOf ks)[i]?) ∧ Hid (TxAt w0 w wr Bb [.int .i8 5, .bool bb, .string t, .slice A ks.length c, .slice B ls.length dd] u acc) ∧ Hid ((i = 0 → acc.length = 1) ∧ (0 < i → 2 ≤ acc.length)) ∧ Hid (acc ++ (joinFrom i (((ordOf ks).drop i).map (membS (writeJ f) ks ls)) ++ [125]) = RES))
  case atStart => exact ⟨0, [123], by omega, by omega, rfl, HX3, Lib.hid ⟨fun _ => rfl, fun h => by omega⟩, HI0⟩
  case round =>
    obtain ⟨i, acc, hd, hi, rfl, HX, HL, HI⟩ := hrel
    clear HX3 HI0 Hs1b
    have Hszwr := HX.out.box.lt
    have Hd := Lib.hid hd
    clear hd
    by_cases hlt : i < ks.length
    · have hol := ordOf_length ks
      obtain ⟨o, hoo⟩ : ∃ o, (ordOf ks)[i]? = some o := ⟨_, List.getElem?_eq_getElem (by omega)⟩
      have hok : o < ks.length := ordOf_lt (List.mem_of_getElem? hoo)
      have hol' : o < ls.length := by have := Hlen.out; omega
      rw [hoo]
      have hlv : lv (some o) = (o : Int) := rfl
      rw [hlv]
      obtain ⟨key, hkey⟩ : ∃ key, ks[o]? = some key := ⟨_, List.getElem?_eq_getElem hok⟩
      obtain ⟨jv, hjv⟩ : ∃ jv, ls[o]? = some jv := ⟨_, List.getElem?_eq_getElem hol'⟩
      obtain ⟨ab, ao, rfl, hac⟩ := HA.out (by omega)
      obtain ⟨b, fo, cj, rfl, hJ, hcell⟩ := HB.out.get hjv
      obtain ⟨p0, p1, p2, p3, p4, rfl⟩ := five_of hJ.five
      have HJ := Lib.hid hJ
      have HC0 : Hid (∀ W, Below w0.heap.size w0 W → W.cell? ⟨ab, ao + o, none⟩ = some (.string key)) := Lib.hid (fun W hW => below_cell hW (hac o key hkey))
      have HC1 : Hid (∀ W, Below w0.heap.size w0 W → W.cell? ⟨b, fo + o * 5, none⟩ = some p0 ∧ W.cell? ⟨b, fo + o * 5 + 1, none⟩ = some p1 ∧ W.cell? ⟨b, fo + o * 5 + 2, none⟩ = some p2 ∧ W.cell? ⟨b, fo + o * 5 + 3, none⟩ = some p3 ∧ W.cell? ⟨b, fo + o * 5 + 4, none⟩ = some p4) := Lib.hid (fun W hW => ⟨
        by have := below_cell hW (hcell 0 _ rfl); rwa [show fo + (0 + o * 5 + 0) = fo + o * 5 by omega] at this,
        by have := below_cell hW (hcell 1 _ rfl); rwa [show fo + (0 + o * 5 + 1) = fo + o * 5 + 1 by omega] at this,
        by have := below_cell hW (hcell 2 _ rfl); rwa [show fo + (0 + o * 5 + 2) = fo + o * 5 + 2 by omega] at this,
        by have := below_cell hW (hcell 3 _ rfl); rwa [show fo + (0 + o * 5 + 3) = fo + o * 5 + 3 by omega] at this,
        by have := below_cell hW (hcell 4 _ rfl); rwa [show fo + (0 + o * 5 + 4) = fo + o * 5 + 4 by omega] at this⟩)
      have HRj := Lib.hid (HRt.out jv (List.mem_of_getElem? hjv))
      have hdrop : (ordOf ks).drop i = o :: (ordOf ks).drop (i + 1) := by
        rw [List.drop_eq_getElem_cons (by omega)]
        rw [List.getElem?_eq_getElem (by omega)] at hoo
        rw [Option.some.inj hoo]
      have hI := HI.out
      have hM : membS (writeJ f) ks ls o = quoteS key ++ (58 :: writeJ f jv) := by unfold membS; rw [List.getD_eq_getElem?_getD, List.getD_eq_getElem?_getD, hkey, hjv]; rfl
      rw [hdrop, List.map_cons, joinFrom_cons, hM] at hI
      obtain ⟨REST, hREST⟩ : ∃ r, joinFrom (i + 1) (((ordOf ks).drop (i + 1)).map (membS (writeJ f) ks ls)) = r := ⟨_, rfl⟩
      rw [hREST] at hI
      have HREST := Lib.hid hREST
      obtain ⟨SEP, hSEP⟩ : ∃ r, (if 0 < i then [44] else ([] : List Int)) = r := ⟨_, rfl⟩
      have hI3 : acc ++ SEP ++ quoteS key ++ [58] ++ writeJ f jv ++ (REST ++ [125]) = RES := by rw [← hI, ← hSEP]; simp
      have hqs := quoteS_len key
      have hlen : acc.length + SEP.length + (quoteS key).length + (writeJ f jv).length + REST.length + 2 = RES.length := by rw [← hI3]; simp only [List.length_append, List.length_cons, List.length_nil]; omega
      have HI3 := Lib.hid hI3
      have HSEP := Lib.hid hSEP
      have e3 : (o : Int) < (ks.length : Int) := by omega
      have e4 : (o : Int) < (ls.length : Int) := by omega
      have hksz : key.size ≤ 16777216 := by omega
      have Hq := Lib.hid (quoted_any key)
      have Hkey := Lib.hid hkey
      have Hoo := Lib.hid hoo
      have hqs2 : 2 ≤ (quoteS key).length := by omega
      obtain ⟨QK, hQK⟩ : ∃ r, quoteS key = r := ⟨_, rfl⟩
      rw [hQK] at Hq HI3 hlen hqs2
      clear hJ hcell hac hjv hkey hdrop hoo HI hI hI3 hREST hM hol hlv hSEP hqs hQK
      obtain ⟨A5, c5, rfl, -, -, -, -⟩ := own_slice HX.out.own
      go_upto_if 65 with fail
      go_cut [5] (fun u wx => Hid (TxAt w0 w wx Bb [.int .i8 5, .bool bb, .string t, .slice (some ⟨ab, ao, none⟩) ks.length c, .slice (some ⟨b, fo, none⟩) ls.length dd] u (acc ++ SEP)))
      case first =>
        by_cases h0 : 0 < i
        · have hl := HL.out.2 h0
          have d0 : decide ((1 : Int) < (acc.length : Int)) = true := by simp; omega
          have HS : Hid (SEP = [44]) := Lib.hid (by rw [← HSEP.out, if_pos h0])
          go_wp2_with (refine wpList_appLit rfl rfl [44] 1 _ rfl rfl rfl (by decide) (by decide) (.tmp 66) (.tmp 67) rfl (Bb + 1) (.slice A5 acc.length c5) acc rfl rfl HX.out.own (by (try simp only [List.length_append]); omega) (by omega) ?_; intro v8 wb w8 ho8 hgb hg8; simp only [Act.put, List.setIfInBounds_toArray, List.set_cons_zero, List.set_cons_succ]; have HX8 := Lib.hid (HX.out.app hgb ho8 hg8 HB0.out.1 HB0.out.2); have Hszw8 := HX8.out.box.lt; clear ho8 hgb hg8)
          go_meet
          case rel => rw [HS.out]; exact HX8
        · have hl := HL.out.1 (by omega)
          have d0 : decide ((1 : Int) < (acc.length : Int)) = false := by simp; omega
          have HS : Hid (SEP = []) := Lib.hid (by rw [← HSEP.out, if_neg h0])
          go_wp2_with fail
          go_meet
          case rel => rw [HS.out, List.append_nil]; exact HX
      case rest =>
      have HXC := Lib.hid hcut.out
      clear hcut HX HL
      have ck3 : wc.cell? ⟨Bb, 3, none⟩ = some (.slice (some ⟨ab, ao, none⟩) ks.length c) := HXC.out.box.at_ rfl
      have ckey := HC0.out wc HXC.out.below
      have Hszwc := HXC.out.box.lt
      have HLN : acc.length + SEP.length + QK.length ≤ 16777216 := by omega
      go_upto_region 27 with (first
        | (go_at_call 54; refine (Hq.out wc hksz).mono ?_; rintro e wq ⟨vq, rfl, hoq, hgq⟩; obtain ⟨Aq, cq, rfl, hAq, -, hsq, -⟩ := own_slice hoq)
        | (have _ := hgq; refine wpList_append_bytes rfl (.tmp 69) (.tmp 75) rfl (Bb + 1) u5 (acc ++ SEP) QK rfl (own_none_grown HXC.out.own hgq) Aq cq rfl hAq hsq (by (try simp); omega) (by have := hgq.size; omega) ?_; intro v9 w9 ho9 hg9; simp only [Act.put, List.setIfInBounds_toArray, List.set_cons_zero, List.set_cons_succ]; have HX9 := Lib.hid (HXC.out.app hgq ho9 hg9 HB0.out.1 HB0.out.2); have Hszw9 := HX9.out.box.lt; clear ho9 hg9 hsq hgq hAq))
      clear ck3 ckey HXC
      go_upto_region 28 with (refine wpList_appLit rfl rfl [58] 1 _ rfl rfl rfl (by decide) (by decide) (.tmp 77) (.tmp 78) rfl (Bb + 1) v9 (acc ++ SEP ++ QK) rfl rfl HX9.out.own (by (try simp only [List.length_append]); omega) (by omega) ?_; intro v10 wb w10 ho10 hgb hg10; simp only [Act.put, List.setIfInBounds_toArray, List.set_cons_zero, List.set_cons_succ]; have HX10 := Lib.hid (HX9.out.app hgb ho10 hg10 HB0.out.1 HB0.out.2); have Hszw10 := HX10.out.box.lt; clear ho10 hgb hg10)
      clear HX9
      have ck4 : w10.cell? ⟨Bb, 4, none⟩ = some (.slice (some ⟨b, fo, none⟩) ls.length dd) := HX10.out.box.at_ rfl
      obtain ⟨q0, q1, q2, q3, q4⟩ := HC1.out w10 HX10.out.below
      have HLN : acc.length + SEP.length + QK.length + 1 + (writeJ f jv).length ≤ 16777216 := by omega
      go_upto_region 29 with (first
        | (go_at_call 33; refine (IH.out jv [p0, p1, p2, p3, p4] w10 HJ.out HRj.out HX10.out.below (by omega)).mono ?_; rintro e wq ⟨Aq, cq, rfl, hAq, hsq, hgq⟩)
        | (have _ := hgq; refine wpList_append_bytes rfl (.tmp 80) (.tmp 86) rfl (Bb + 1) v10 (acc ++ SEP ++ QK ++ [58]) (writeJ f jv) rfl (own_none_grown HX10.out.own hgq) Aq cq rfl hAq hsq (by (try simp); omega) (by have := hgq.size; omega) ?_; intro v11 w11 ho11 hg11; simp only [Act.put, List.setIfInBounds_toArray, List.set_cons_zero, List.set_cons_succ]; have HX11 := Lib.hid (HX10.out.app hgq ho11 hg11 HB0.out.1 HB0.out.2); have Hszw11 := HX11.out.box.lt; clear ho11 hg11 hsq hgq hAq))
      clear ck4 q0 q1 q2 q3 q4 HX10
      have ck3 : w11.cell? ⟨Bb, 3, none⟩ = some (.slice (some ⟨ab, ao, none⟩) ks.length c) := HX11.out.box.at_ rfl
      have ckey := HC0.out w11 HX11.out.below
      have Hn2 : Hid (∀ n, Calls Tryz.prog 55 #[.slice (some ⟨ab, ao, none⟩) ks.length c, .string key, .bool false] (w11.drewN n) fun e w' => e = .returned (.int .i64 (lv (ordOf ks)[i + 1]?)) ∧ ∃ m, w' = (w11.drewN n).drewN m) := Lib.hid (fun n => Hnxt.out i o key (w11.drewN n) Hoo.out Hkey.out (HX11.out.keep (grown_drewN (grown_refl _ _) n)).below)
      go_quiet ((go_at_call 55; exact Calls.quiet_of (Hn2.out _)))
      have HX12 := Lib.hid (HX11.out.keep (grown_drewN (grown_refl _ _) nq))
      generalize hw12 : w11.drewN nq = w12 at HX12 ⊢
      clear hw12 ck3 ckey HX11 Hn2
      go_wp2_with fail
      go_roundg (ks.length - (i + 1))
      case rel => exact ⟨i + 1, _, by omega, by omega, rfl, HX12, Lib.hid ⟨fun h => by omega, fun _ => by have := hqs2; simp; omega⟩, Lib.hid (by rw [HREST.out]; exact HI3.out)⟩
      case measure => have := Hd.out; omega
    · obtain rfl : i = ks.length := by omega
      have hon : (ordOf ks)[ks.length]? = none := List.getElem?_eq_none (by rw [ordOf_length]; omega)
      rw [hon]
      have hlv : lv none = -1 := rfl
      rw [hlv]
      have HI3 : Hid (acc ++ [125] = RES) := Lib.hid (by rw [← HI.out, List.drop_eq_nil_of_le (by rw [ordOf_length]; omega)]; simp [joinFrom])
      have hl : acc.length + 1 = RES.length := by rw [← HI3.out]; simp
      clear HI hon hlv
      go_wp2_with (refine wpList_appLit rfl rfl [125] 1 _ rfl rfl rfl (by decide) (by decide) (.tmp 96) (.tmp 97) rfl (Bb + 1) u5 acc rfl rfl HX.out.own (by (try simp only [List.length_append]); omega) (by omega) ?_; intro v8 wb w8 ho8 hgb hg8; simp only [Act.put, List.setIfInBounds_toArray, List.set_cons_zero, List.set_cons_succ]; have HX8 := Lib.hid (HX.out.app hgb ho8 hg8 HB0.out.1 HB0.out.2); have Hszw8 := HX8.out.box.lt; clear ho8 hgb hg8)
      go_ret
      rw [← HI3.out]
      exact HX8.out.post
theorem wtext_any (w0 : World) : ∀ (f : Nat) (j : J), TxIs w0 f j
  | 0, j => fun cs w _ hr => absurd hr (by unfold Right; exact id)
  | f + 1, .mk kd bb t ks ls => fun cs w hj hr hb hsz => by
    have hs : shapeV kd bb t ks.length ls.length = true := by have := hr; unfold Right at this; exact this.1
    have hk : kd = 0 ∨ kd = 1 ∨ kd = 2 ∨ kd = 3 ∨ kd = 4 ∨ kd = 5 := by
      refine Decidable.byContradiction fun h => ?_
      simp only [not_or] at h
      simp [shapeV, h] at hs
    rcases hk with h | h | h | h | h | h
    · exact text_flat w0 f kd bb t ks ls (.inl h) cs w hj hr hb hsz
    · exact text_flat w0 f kd bb t ks ls (.inr (.inl h)) cs w hj hr hb hsz
    · exact text_flat w0 f kd bb t ks ls (.inr (.inr (.inl h))) cs w hj hr hb hsz
    · exact text_flat w0 f kd bb t ks ls (.inr (.inr (.inr h))) cs w hj hr hb hsz
    · subst h; exact text_list w0 f (wtext_any w0 f) bb t ks ls cs w hj hr hb hsz
    · subst h; exact text_object w0 f (wtext_any w0 f) bb t ks ls cs w hj hr hb hsz
end
section
open Go.RowKit
set_option linter.unusedVariables false
set_option linter.unusedSimpArgs false
set_option maxHeartbeats 3200000 in
set_option maxRecDepth 100000 in
theorem rcheckP_any (j : J) (cs : List Value) (w : World) (hj : JR w j cs) (hsz : JAll (JSz 1099511627776) j) (hroom : (checkJ 17 j 1 0).1 = 0 → (writeJ 17 j).length ≤ 16777216) :
    Calls Tryz.prog 18 #[.agg cs.toArray] w fun e w' => e = .returned (.int .i64 (printE j)) ∧ w.grownBy w' none := by
  obtain ⟨p0, p1, p2, p3, p4, rfl⟩ := five_of hj.five
  obtain ⟨E, hE⟩ : ∃ e, (checkJ 17 j 1 0).1 = e := ⟨_, rfl⟩
  obtain ⟨N, hN⟩ : ∃ e, (checkJ 17 j 1 0).2 = e := ⟨_, rfl⟩
  have HE := Lib.hid hE
  have hEN : checkJ 17 j 1 0 = (E, N) := Prod.ext hE hN
  have HEN := Lib.hid hEN
  have Hj := Lib.hid hj
  have Hsz := Lib.hid hsz
  have Hroom := Lib.hid hroom
  clear hj hsz hroom hE hN hEN
  go_enter Tryz.func18, Tryz.ntmps18
  go_upto_region 1 with (refine wpList_box_abs rfl 26 (.tmp 0) rfl [p0, p1, p2, p3, p4] rfl ?_; intro w1 hr1 hg1 hs1; simp only [Act.put, List.setIfInBounds_toArray, List.set_cons_zero, List.set_cons_succ])
  obtain ⟨Bb, hBb⟩ : ∃ x, w.heap.size = x := ⟨_, rfl⟩
  rw [hBb] at hr1 ⊢
  have Hr1 := Lib.hid hr1
  have Hg1 := Lib.hid hg1
  have HbB := Lib.hid hBb
  clear hr1 hg1 hs1 hBb
  have Hwi : Hid (Calls Tryz.prog 32 #[.agg #[p0, p1, p2, p3, p4], .int .i64 1, .int .i64 0] w1 fun e w' => e = .returned (.tuple #[.int .i64 N, .int .i64 E]) ∧ w1.grownBy w' none) := Lib.hid (by
    have := within_any w 17 j [p0, p1, p2, p3, p4] 1 0 w1 Hj.out Hsz.out (below_of_grown Hg1.out) (by omega) (by omega) (by omega) (by omega) (by omega)
    unfold WiPost at this
    rwa [HEN.out] at this)
  by_cases h0 : E = 0
  · subst h0
    have HR := Lib.hid (check_right (f := 17) (j := j) (d := 1) (n := 0) (by omega) (by omega) HE.out)
    have hrm := Hroom.out HE.out
    have Htx : Hid (∀ W, w.grownBy W none → Calls Tryz.prog 33 #[.agg #[p0, p1, p2, p3, p4]] W (TxPost (writeJ 17 j) W)) := Lib.hid (fun W hW => wtext_any w 17 j [p0, p1, p2, p3, p4] W Hj.out HR.out (below_of_grown hW) hrm)
    have HP : Hid (printE j = if 8192 < (writeJ 17 j).length then 3 else 0) := Lib.hid (by unfold printE; rw [HE.out]; rfl)
    obtain ⟨L, hL⟩ : ∃ l, writeJ 17 j = l := ⟨_, rfl⟩
    rw [hL] at HP Htx hrm
    clear hL
    go_upto_region 4 with (first
      | (go_at_call 32; refine Hwi.out.mono ?_; rintro e w2 ⟨rfl, hg2⟩; have Hg2 := Lib.hid (grown_own Hg1.out hg2 (by simp)); have Hr2 := Lib.hid (Hr1.out.grown hg2 (by simp)); clear hg2)
      | (refine wpList_load_Row rfl 26 _ rfl Bb rfl [p0, p1, p2, p3, p4] 26 Hr1.out _ Tryz.underlying26 rfl size29 ?_; simp only [Act.put, List.setIfInBounds_toArray, List.set_cons_zero, List.set_cons_succ]))
    by_cases h8 : 8192 < L.length
    · have d8 : decide ((8192 : Int) < (L.length : Int)) = true := by simp; omega
      have HP3 : Hid (printE j = 3) := Lib.hid (by rw [HP.out, if_pos h8])
      clear h8
      go_wp2_with (first
        | (go_at_call 33; refine (Htx.out w2 Hg2.out).mono ?_; rintro e w3 ⟨A3, c3, rfl, -, -, hg3⟩; have Hg3 := Lib.hid (grown_own Hg2.out hg3 (by simp)); clear hg3)
        | (refine wpList_load_Row rfl 26 _ rfl Bb rfl [p0, p1, p2, p3, p4] 26 Hr2.out _ Tryz.underlying26 rfl size29 ?_; simp only [Act.put, List.setIfInBounds_toArray, List.set_cons_zero, List.set_cons_succ]))
      go_ret
      rw [HP3.out]
      exact ⟨rfl, Hg3.out⟩
    · have d8 : decide ((8192 : Int) < (L.length : Int)) = false := by simp; omega
      have HP3 : Hid (printE j = 0) := Lib.hid (by rw [HP.out, if_neg h8])
      clear h8
      go_wp2_with (first
        | (go_at_call 33; refine (Htx.out w2 Hg2.out).mono ?_; rintro e w3 ⟨A3, c3, rfl, -, -, hg3⟩; have Hg3 := Lib.hid (grown_own Hg2.out hg3 (by simp)); clear hg3)
        | (refine wpList_load_Row rfl 26 _ rfl Bb rfl [p0, p1, p2, p3, p4] 26 Hr2.out _ Tryz.underlying26 rfl size29 ?_; simp only [Act.put, List.setIfInBounds_toArray, List.set_cons_zero, List.set_cons_succ]))
      go_ret
      rw [HP3.out]
      exact ⟨rfl, Hg3.out⟩
  · have b0 : (E != 0) = true := by simpa using h0
    have HP : Hid (printE j = E) := Lib.hid (by unfold printE; rw [HE.out]; simp [h0])
    clear h0
    go_wp2_with (first
      | (go_at_call 32; refine Hwi.out.mono ?_; rintro e w2 ⟨rfl, hg2⟩; have Hg2 := Lib.hid (grown_own Hg1.out hg2 (by simp)); clear hg2)
      | (refine wpList_load_Row rfl 26 _ rfl Bb rfl [p0, p1, p2, p3, p4] 26 Hr1.out _ Tryz.underlying26 rfl size29 ?_; simp only [Act.put, List.setIfInBounds_toArray, List.set_cons_zero, List.set_cons_succ]))
    go_ret
    rw [HP.out]
    exact ⟨rfl, Hg2.out⟩
/-- What the reference's Print hands out. -/
def RPrinted (j : J) (w : World) (e : Ending) (w' : World) : Prop := ∃ A c, e = .returned (.tuple #[.slice A (printT j).length c, .int .i64 (printE j)]) ∧ (A = none → printT j = [] ∧ c = 0) ∧ Src w' A (printT j) ∧ w.grownBy w' none
end
end Go.Proofs.YtlbilofnbhhmjaaGreatDoor
