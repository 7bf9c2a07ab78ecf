/- What a value's text is, in plain Lean; and what UTF-8 is, sign by sign. A string's iterator, wherever it lies; strings.IndexRune of a great rune in a text of small ones. json's quote. Conditions: the text is UTF-8; there is room. -/
import Derived.Test.YtlbilofnbhhmjaaGreatDoorUtf
import Derived.Lib.ValidLaws
import Derived.Lib.TrimUEq
import Derived.Test.YtlbilofnbhhmjaaGreatDoorLaws
import Derived.Test.YtlbilofnbhhmjaaGreatDoorShelf
import Derived.Test.YtlbilofnbhhmjaaGreatDoorSmall
import Derived.Laws.RangeAny
import Derived.Laws.Runes
import Derived.Test.YtlbilofnbhhmjaaGreatDoorText
namespace Go.Proofs.YtlbilofnbhhmjaaGreatDoor
section
open Go.Lib
set_option linter.unusedVariables false
set_option linter.unusedSimpArgs false
def hexD (n : Int) : Int := if n < 10 then 48 + n else 87 + n
/-- A byte of a text, as it is written. -/
def escB (c : Int) : List Int :=
  if c = 34 then [92, 34] else if c = 92 then [92, 92] else if c = 8 then [92, 98] else if c = 12 then [92, 102] else if c = 10 then [92, 110] else if c = 13 then [92, 114] else if c = 9 then [92, 116]
  else if c < 32 then [92, 117, 48, 48, hexD (c / 16), hexD (c % 16)] else [c]
def escS (l : List Int) : List Int := l.flatMap escB
theorem escS_append (a b : List Int) : escS (a ++ b) = escS a ++ escS b := by simp [escS]
/-- A text's bytes from a place on. -/
def restAt (s : ByteArray) (i : Nat) : List Int := bytesAt s i (s.size - i)
/-- A text in quotes. -/
def quoteS (s : ByteArray) : List Int := 34 :: (escS (restAt s 0) ++ [34])
theorem escB_high {c : Int} (h : 128 ≤ c) : escB c = [c] := by
  unfold escB
  rw [if_neg (by omega), if_neg (by omega), if_neg (by omega), if_neg (by omega), if_neg (by omega), if_neg (by omega), if_neg (by omega), if_neg (by omega)]
theorem escS_high {l : List Int} (h : ∀ c ∈ l, 128 ≤ c) : escS l = l := by
  induction l with
  | nil => rfl
  | cons a l ih =>
    show escB a ++ escS l = _
    rw [escB_high (h a (by simp)), ih (fun c hc => h c (by simp [hc]))]
    rfl
theorem bytesAt_add (s : ByteArray) (i a b : Nat) : bytesAt s i (a + b) = bytesAt s i a ++ bytesAt s (i + a) b := by
  unfold bytesAt
  rw [List.range_add, List.map_append, List.map_map]
  congr 1
  apply List.map_congr_left
  intro k _
  simp [Nat.add_assoc]
theorem restAt_step {s : ByteArray} {i n : Nat} (h : i + n ≤ s.size) : restAt s i = bytesAt s i n ++ restAt s (i + n) := by
  unfold restAt
  rw [show s.size - i = n + (s.size - (i + n)) by omega, bytesAt_add]
theorem restAt_end {s : ByteArray} {i : Nat} (h : s.size ≤ i) : restAt s i = [] := by
  unfold restAt
  rw [show s.size - i = 0 by omega]; rfl
theorem bytesAt_one (s : ByteArray) (i : Nat) : bytesAt s i 1 = [ch s i] := by simp [bytesAt]
/-! ### UTF-8 -/
/-- A text is UTF-8 from a place on. -/
def utfFrom (s : ByteArray) (i : Nat) : Bool := validD (s.data.toList.drop i)
theorem utfFrom_end {s : ByteArray} {i : Nat} (h : s.size ≤ i) : utfFrom s i = true := by
  unfold utfFrom
  rw [List.drop_eq_nil_of_le (by simpa [← size_eq] using h)]
  rfl
theorem utfFrom_step {s : ByteArray} {i : Nat} (h : i < s.size) : utfFrom s i = if wholeAt s i = 0 then false else utfFrom s (i + wholeAt s i) := by
  unfold utfFrom
  have hne : s.data.toList.drop i ≠ [] := by
    intro e
    have := congrArg List.length e
    rw [List.length_drop, ← size_eq] at this
    simp at this; omega
  rw [validD_step _ hne, decodeL_drop, List.drop_drop]
  rcases rune_spec h with ⟨h1, h2, _⟩ | ⟨h1, h2, h3, h4, h5, h6, h7, h8⟩
  · rw [h2, h1]; simp
  · rw [if_neg (show ¬ wholeAt s i = 0 by omega), if_neg (show ¬ ((Utf8.decode s i).1 = 65533 ∧ (Utf8.decode s i).2 = 1) from fun ⟨a, b⟩ => by have := h8 (by omega); omega), h3]
/-- The bytes of a sign of several bytes are high. -/
theorem whole_high {s : ByteArray} {i : Nat} (h : i < s.size) (hc : 128 ≤ ch s i) : ∀ c ∈ bytesAt s i (wholeAt s i), 128 ≤ c := by
  have g0 := get_ch h
  have g1 : i + 1 < s.size → _ := get_ch (s := s) (i := i + 1)
  have g2 : i + 2 < s.size → _ := get_ch (s := s) (i := i + 2)
  have g3 : i + 3 < s.size → _ := get_ch (s := s) (i := i + 3)
  have lt : ∀ k, (s.get! k).toNat < 256 := fun k => UInt8.toNat_lt _
  have key := decodeN_whole (s.size - i) (s.get! i).toNat (s.get! (i + 1)).toNat (s.get! (i + 2)).toNat (s.get! (i + 3)).toNat (by omega) (lt _) (lt _) (lt _) (lt _)
  have hw : wholeAt s i = wholeN (s.size - i) (s.get! i).toNat (s.get! (i + 1)).toNat (s.get! (i + 2)).toNat (s.get! (i + 3)).toNat := rfl
  rw [← hw] at key
  rcases key with ⟨e, _⟩ | ⟨e, _, hb⟩ | ⟨e, _, a1, a2, a3, a4, a5⟩ | ⟨e, _, a1, a2, a3, a4, a5, a6, a7, a8⟩ | ⟨e, _, a1, a2, a3, a4, a5, a6, a7, a8, a9, a10⟩
  · rw [e]; intro c hc; simp [bytesAt] at hc
  · omega
  · rw [e]
    have := g1 (by omega)
    intro c hc
    simp [bytesAt, List.range_succ] at hc
    rcases hc with rfl | rfl <;> omega
  · rw [e]
    have := g1 (by omega)
    have := g2 (by omega)
    intro c hc
    simp [bytesAt, List.range_succ] at hc
    rcases hc with rfl | rfl | rfl <;> omega
  · rw [e]
    have := g1 (by omega)
    have := g2 (by omega)
    have := g3 (by omega)
    intro c hc
    simp [bytesAt, List.range_succ] at hc
    rcases hc with rfl | rfl | rfl | rfl <;> omega
theorem whole_low {s : ByteArray} {i : Nat} (h : i < s.size) (hc : ch s i < 128) : wholeAt s i = 1 ∧ Utf8.decode s i = ((s.get! i).toNat, 1) := by
  have g0 := get_ch h
  have lt : ∀ k, (s.get! k).toNat < 256 := fun k => UInt8.toNat_lt _
  have key := decodeN_whole (s.size - i) (s.get! i).toNat (s.get! (i + 1)).toNat (s.get! (i + 2)).toNat (s.get! (i + 3)).toNat (by omega) (lt _) (lt _) (lt _) (lt _)
  have hw : wholeAt s i = wholeN (s.size - i) (s.get! i).toNat (s.get! (i + 1)).toNat (s.get! (i + 2)).toNat (s.get! (i + 3)).toNat := rfl
  rw [← hw, ← decode_at] at key
  rcases key with ⟨e, _, hb⟩ | ⟨e, e2, hb⟩ | ⟨e, _, a1, a2, a3, a4, a5⟩ | ⟨e, _, a1, a2, a3, a4, a5, a6, a7, a8⟩ | ⟨e, _, a1, a2, a3, a4, a5, a6, a7, a8, a9, a10⟩
  · omega
  · exact ⟨e, e2⟩
  all_goals omega
end
section
open Go.RowKit
set_option linter.unusedVariables false
set_option linter.unusedSimpArgs false
/-- Block it is a string's iterator at a place. -/
def Iter (w : World) (it : Nat) (s : ByteArray) (p : Nat) : Prop := w.heap[it]? = some (.stringIter s p)
theorem Iter.lt {w : World} {it p : Nat} {s : ByteArray} (h : Iter w it s p) : it < w.heap.size := (Array.getElem?_eq_some_iff.1 h).1
theorem Iter.grown {w w' : World} {it p : Nat} {s : ByteArray} {row : Option Nat} (h : Iter w it s p) (hg : w.grownBy w' row) (hne : some it ≠ row) : Iter w' it s p := by
  unfold Iter; rw [hg.block it h.lt hne]; exact h
theorem iter_new (w : World) (s : ByteArray) : Iter (w.iter s 0) w.heap.size s 0 := World.iter_heap w s 0
theorem iter_grown (w : World) (s : ByteArray) : w.grownBy (w.iter s 0) none := World.grownBy_alloc w _ none
section
variable {P : Program} {ops : Array Oper} {rest : List Oper} {o : Oper} {a : Act} {w : World} {Q : Exit → Act → World → Prop}
theorem wpList_next_yes (hgd : o.guard = none) (x : Operand) (ho : o.op = .next x true) (it : Nat) (hx : a.eval x = .pointer (some ⟨it, 0, none⟩)) (s : ByteArray) (pos : Nat) (hi : Iter w it s pos) (h : pos < s.size)
    (hK : ∀ w', Iter w' it s (pos + (Utf8.decode s pos).2) → w.grownBy w' (some it) → w'.heap.size = w.heap.size → wpList P ops Q rest (a.put o.dst (.tuple #[.bool true, .int .i64 pos, .int .i32 ((Utf8.decode s pos).1 : Nat)])) w') : wpList P ops Q (o :: rest) a w :=
  wpList_plain hgd fun K hK' => by
    unfold Oper.wp execOp
    simp only [ho, hx]
    have hr : (Instr.next (.pointer (some ⟨it, 0, none⟩)) true o.type).run P w = .ok (.tuple #[.bool true, .int .i64 pos, .int .i32 ((Utf8.decode s pos).1 : Nat)]) { w with heap := w.heap.setIfInBounds it (.stringIter s (pos + (Utf8.decode s pos).2)) } := by
      have hi' : w.heap[it]? = some (.stringIter s pos) := hi
      simp [Instr.next, getObj, setObj, Sem.run_bind, Sem.run, hi', Result.andThen, h, goInt]
    simp only [Sem.run_bind, hr, Result.andThen_ok]
    refine hK' _ _ (hK _ ?_ ⟨rfl, rfl, rfl, by simp, fun j hj hne => ?_⟩ (by simp))
    · unfold Iter; simp [hi.lt]
    · simp only [ne_eq] at hne
      rw [Array.getElem?_setIfInBounds_ne (fun e => hne (by rw [e]))]
theorem wpList_next_no (hgd : o.guard = none) (x : Operand) (ho : o.op = .next x true) (it : Nat) (hx : a.eval x = .pointer (some ⟨it, 0, none⟩)) (s : ByteArray) (pos : Nat) (hi : Iter w it s pos) (h : ¬ pos < s.size)
    (hK : wpList P ops Q rest (a.put o.dst (.tuple #[.bool false])) w) : wpList P ops Q (o :: rest) a w :=
  wpList_plain hgd fun K hK' => by
    unfold Oper.wp execOp
    simp only [ho, hx]
    have hr : (Instr.next (.pointer (some ⟨it, 0, none⟩)) true o.type).run P w = .ok (.tuple #[.bool false]) w := by
      have hi' : w.heap[it]? = some (.stringIter s pos) := hi
      simp [Instr.next, getObj, Sem.run, hi', h]
    simp only [Sem.run_bind, hr, Result.andThen_ok]
    exact hK' _ _ hK
end
def shorts : ByteArray := ⟨#[34, 92, 8, 12, 10, 13, 9]⟩
theorem shorts_decode : ∀ p, p < 7 → (Utf8.decode shorts p).1 < 128 ∧ (Utf8.decode shorts p).2 = 1 := by decide +kernel
theorem indexByte_high (c : UInt8) (h : 128 ≤ c.toNat) (l : List UInt8) (hl : ∀ b ∈ l, b.toNat < 128) : Lib.indexByte l c = -1 := by
  induction l with
  | nil => rfl
  | cons a l ih =>
    have ha := hl a (by simp)
    have : (a == c) = false := by
      simp; intro e; subst e; omega
    rw [Lib.indexByte, this, ih (fun b hb => hl b (by simp [hb]))]
    rfl
theorem indexByte_hi (s : ByteArray) (c : Int) (w : World) (h1 : 128 ≤ c) (h2 : c ≤ 255) (hl : ∀ b ∈ s.data.toList, b.toNat < 128) :
    Calls Tryz.prog 80 #[.string s, .int .u8 c] w fun e w' => e = .returned (.int .i64 (-1)) ∧ w' = w := by
  have := Tryz.strings_IndexByte s c w
  rw [indexByte_high _ (by simp; omega) _ hl] at this
  exact this
set_option maxHeartbeats 3200000 in
set_option maxRecDepth 100000 in
theorem index_high (r : Int) (w : World) (h : 128 ≤ r) (h1 : r ≤ 1114111) (hs : ¬ (55296 ≤ r ∧ r ≤ 57343)) :
    Calls Tryz.prog 57 #[.string shorts, .int .i32 r] w fun e w' => e = .returned (.int .i64 (-1)) ∧ w.grownBy w' none := by
  by_cases he : r = 65533
  · subst he
    go_enter Tryz.func57, Tryz.ntmps57
    go_wp2_with fail
    go_loopg [] 7 (fun d wr => ∃ p : Nat, p ≤ 7 ∧ d = 7 - p ∧ Hid (Iter wr w.heap.size shorts p) ∧ Hid (w.grownBy wr none))
    case atStart => exact ⟨0, by omega, rfl, Lib.hid (iter_new _ _), Lib.hid (iter_grown _ _)⟩
    case round =>
      obtain ⟨p, hp, rfl, HI, HG⟩ := hrel
      by_cases hlt : p < 7
      · obtain ⟨k1, k2⟩ := shorts_decode p hlt
        generalize hc : (Utf8.decode shorts p).1 = c at k1
        have HC := Lib.hid hc
        have K2 := Lib.hid k2
        have bc : ((c : Int) == 65533) = false := by simp; omega
        clear hc k2
        go_wp2_with (refine wpList_next_yes rfl _ rfl w.heap.size rfl shorts p HI.out hlt ?_; intro w1 hi1 hg1 hs1; rw [HC.out]; rw [K2.out] at hi1; have HI1 := Lib.hid hi1; have HG1 := Lib.hid hg1; clear hi1 hg1 hs1; simp only [Act.put, List.setIfInBounds_toArray, List.set_cons_zero, List.set_cons_succ])
        go_roundg (7 - (p + 1))
        case measure => omega
        case rel => exact ⟨p + 1, by omega, rfl, HI1, Lib.hid (grown_own HG.out HG1.out (fun x hx => .inr (by have := Option.some.inj hx; omega)))⟩
      · go_wp2_with (refine wpList_next_no rfl _ rfl w.heap.size rfl shorts p HI.out (show ¬ p < 7 from hlt) ?_; simp only [Act.put, List.setIfInBounds_toArray, List.set_cons_zero, List.set_cons_succ])
        go_ret
        exact ⟨rfl, HG.out⟩
  · have be : (r == 65533) = false := by simpa using he
    have hv : Lib.validRune r = true := by unfold Lib.validRune; simp; omega
    obtain ⟨z1, z2, z3⟩ := encode_facts r (by unfold Utf8.valid; simp; omega) h
    have hcv : ∀ W : World, (convert 21 9 (.int .i32 r)).run Tryz.prog W = .ok (.string (Utf8.encode r)) W := fun W => run_convert_int_string (P := Tryz.prog) W 21 9 .i32 r (by kernel_rfl) Tryz.underlying9
    generalize hE : Utf8.encode r = E at z1 z2 z3 hcv
    have HE := Lib.hid hE
    clear hE
    go_enter Tryz.func57, Tryz.ntmps57
    go_wp2_with (first
      | (go_at_call 81; refine (Tryz.utf8_ValidRune r _).mono ?_; rintro e w' ⟨rfl, rfl⟩; rw [hv]))
    have hn : E.size = 2 ∨ E.size = 3 ∨ E.size = 4 := by omega
    rcases hn with hn | hn | hn
    · have hlt : 1 < E.size := by omega
      obtain ⟨b, hb⟩ : ∃ b : Int, ((E[1]'hlt).toNat : Int) = b := ⟨_, rfl⟩
      have hb1 : 128 ≤ b := by
        have := z3 (by omega)
        simp only [show E.size - 1 = 1 by omega] at this
        rw [← hb]; exact_mod_cast this
      have i1 : (1 : Int) < (E.size : Int) := by omega
      have i2 : (1 : Int) < (shorts.size : Int) := by decide
      have hwk : IntKind.i64.wrap 2 = 2 := by decide
      have HX : Hid (∀ b ∈ (shorts.extract 2 7).data.toList, b.toNat < 128) := Lib.hid (by decide +kernel)
      have hsl : ∀ W, (Instr.slice 9 (.string shorts) (some (.int .i64 2)) none none).run Tryz.prog W = .ok (.string (shorts.extract 2 7)) W := fun _ => by kernel_rfl
      have hb2 : b ≤ 255 := by rw [← hb]; have := UInt8.toNat_lt (E[1]'hlt); omega
      have hne : (92 != b) = true := by simp; omega
      have hsz : shorts.size = 7 := rfl
      have hs1 : (((shorts[1]'(by decide)).toNat : Nat) : Int) = 92 := rfl
      clear z1 z2 z3
      go_step3
      go_wp2_with fail
      go_loop [9] (fun v => v = .int .i64 1) (fun _ => 0)
      case atStart => rfl
      case round =>
        subst hrel
        go_wp2_with fail
        go_step3
        go_wp2_with fail
        go_quiet (fail)
        have HG1 : Hid (w'.grownBy (w'.drewN nq) none) := Lib.hid (grown_drewN (grown_refl _ _) _)
        generalize hw1 : w'.drewN nq = w1 at HG1 ⊢
        clear hw1
        go_wp2_with fail
        go_quiet ((go_at_call 80; exact Calls.quiet_of_same (indexByte_hi (shorts.extract 2 7) b _ hb1 hb2 HX.out)))
        go_wp2_with fail
        rw [Exit.noGoto_ret]
        simp +zetaDelta only [Exit.then, Exit.inBlock, Exit.noGoto]
        go_ret
        exact ⟨rfl, grown_drewN HG1.out _⟩
    · have hlt : 2 < E.size := by omega
      obtain ⟨b, hb⟩ : ∃ b : Int, ((E[2]'hlt).toNat : Int) = b := ⟨_, rfl⟩
      have hb1 : 128 ≤ b := by
        have := z3 (by omega)
        simp only [show E.size - 1 = 2 by omega] at this
        rw [← hb]; exact_mod_cast this
      have i1 : (2 : Int) < (E.size : Int) := by omega
      have i2 : (2 : Int) < (shorts.size : Int) := by decide
      have hwk : IntKind.i64.wrap 3 = 3 := by decide
      have HX : Hid (∀ b ∈ (shorts.extract 3 7).data.toList, b.toNat < 128) := Lib.hid (by decide +kernel)
      have hsl : ∀ W, (Instr.slice 9 (.string shorts) (some (.int .i64 3)) none none).run Tryz.prog W = .ok (.string (shorts.extract 3 7)) W := fun _ => by kernel_rfl
      have hb2 : b ≤ 255 := by rw [← hb]; have := UInt8.toNat_lt (E[2]'hlt); omega
      have hne : (8 != b) = true := by simp; omega
      have hsz : shorts.size = 7 := rfl
      have hs1 : (((shorts[2]'(by decide)).toNat : Nat) : Int) = 8 := rfl
      clear z1 z2 z3
      go_step3
      go_wp2_with fail
      go_loop [9] (fun v => v = .int .i64 2) (fun _ => 0)
      case atStart => rfl
      case round =>
        subst hrel
        go_wp2_with fail
        go_step3
        go_wp2_with fail
        go_quiet (fail)
        have HG1 : Hid (w'.grownBy (w'.drewN nq) none) := Lib.hid (grown_drewN (grown_refl _ _) _)
        generalize hw1 : w'.drewN nq = w1 at HG1 ⊢
        clear hw1
        go_wp2_with fail
        go_quiet ((go_at_call 80; exact Calls.quiet_of_same (indexByte_hi (shorts.extract 3 7) b _ hb1 hb2 HX.out)))
        go_wp2_with fail
        rw [Exit.noGoto_ret]
        simp +zetaDelta only [Exit.then, Exit.inBlock, Exit.noGoto]
        go_ret
        exact ⟨rfl, grown_drewN HG1.out _⟩
    · have hlt : 3 < E.size := by omega
      obtain ⟨b, hb⟩ : ∃ b : Int, ((E[3]'hlt).toNat : Int) = b := ⟨_, rfl⟩
      have hb1 : 128 ≤ b := by
        have := z3 (by omega)
        simp only [show E.size - 1 = 3 by omega] at this
        rw [← hb]; exact_mod_cast this
      have i1 : (3 : Int) < (E.size : Int) := by omega
      have i2 : (3 : Int) < (shorts.size : Int) := by decide
      have hwk : IntKind.i64.wrap 4 = 4 := by decide
      have HX : Hid (∀ b ∈ (shorts.extract 4 7).data.toList, b.toNat < 128) := Lib.hid (by decide +kernel)
      have hsl : ∀ W, (Instr.slice 9 (.string shorts) (some (.int .i64 4)) none none).run Tryz.prog W = .ok (.string (shorts.extract 4 7)) W := fun _ => by kernel_rfl
      have hb2 : b ≤ 255 := by rw [← hb]; have := UInt8.toNat_lt (E[3]'hlt); omega
      have hne : (12 != b) = true := by simp; omega
      have hsz : shorts.size = 7 := rfl
      have hs1 : (((shorts[3]'(by decide)).toNat : Nat) : Int) = 12 := rfl
      clear z1 z2 z3
      go_step3
      go_wp2_with fail
      go_loop [9] (fun v => v = .int .i64 3) (fun _ => 0)
      case atStart => rfl
      case round =>
        subst hrel
        go_wp2_with fail
        go_step3
        go_wp2_with fail
        go_quiet (fail)
        have HG1 : Hid (w'.grownBy (w'.drewN nq) none) := Lib.hid (grown_drewN (grown_refl _ _) _)
        generalize hw1 : w'.drewN nq = w1 at HG1 ⊢
        clear hw1
        go_wp2_with fail
        go_quiet ((go_at_call 80; exact Calls.quiet_of_same (indexByte_hi (shorts.extract 4 7) b _ hb1 hb2 HX.out)))
        go_wp2_with fail
        rw [Exit.noGoto_ret]
        simp +zetaDelta only [Exit.then, Exit.inBlock, Exit.noGoto]
        go_ret
        exact ⟨rfl, grown_drewN HG1.out _⟩
end
section
open Go.RowKit
set_option linter.unusedVariables false
set_option linter.unusedSimpArgs false
/-- All that was there stands, but for rows of bytes of the call's own (from block base on). -/
structure Kp (base : Nat) (w w' : World) : Prop where
  os : w'.os = w.os
  tape : w'.tape = w.tape
  output : w'.output = w.output
  size : w.heap.size ≤ w'.heap.size
  block : ∀ i, i < w.heap.size → (∀ cs, w.heap[i]? = some (.cells cs 5 (0, 0)) → i < base) → w'.heap[i]? = w.heap[i]?
theorem Kp.refl (base : Nat) (w : World) : Kp base w w := ⟨rfl, rfl, rfl, Nat.le_refl _, fun _ _ _ => rfl⟩
theorem Kp.trans {base : Nat} {w w1 w2 : World} (h : Kp base w w1) (k : Kp base w1 w2) : Kp base w w2 :=
  ⟨k.os.trans h.os, k.tape.trans h.tape, k.output.trans h.output, Nat.le_trans h.size k.size, fun i hi hc => by
    have e := h.block i hi hc
    rw [k.block i (Nat.lt_of_lt_of_le hi h.size) (fun cs hcs => hc cs (by rw [← e]; exact hcs)), e]⟩
theorem kp_grown {base : Nat} {w w1 : World} (h : w.grownBy w1 none) : Kp base w w1 := ⟨h.os, h.tape, h.output, h.size, fun i hi _ => h.block i hi (by simp)⟩
theorem Kp.grown {base : Nat} {w w1 w2 : World} (h : Kp base w w1) (k : w1.grownBy w2 none) : Kp base w w2 := h.trans (kp_grown k)
theorem kp_own {base : Nat} {w w1 : World} {v : Value} {l : List Int} (ho : Own w base v l) (h : w.grownBy w1 v.ownBlock) : Kp base w w1 :=
  ⟨h.os, h.tape, h.output, h.size, fun i hi hc => h.block i hi (fun e => by
    rcases ho.2 with ⟨rfl, _⟩ | ⟨g, cap, cur, rfl, hb, hg, _⟩
    · simp [Value.ownBlock] at e
    · simp [Value.ownBlock] at e
      subst e
      have := hc _ hg
      omega)⟩
theorem Kp.own {base : Nat} {w w1 w2 : World} {v : Value} {l : List Int} (h : Kp base w w1) (ho : Own w1 base v l) (k : w1.grownBy w2 v.ownBlock) : Kp base w w2 := h.trans (kp_own ho k)
/-- A block that is new turns. -/
theorem Kp.new {base : Nat} {w w1 w2 : World} {x : Nat} (h : Kp base w w1) (k : w1.grownBy w2 (some x)) (hx : w.heap.size ≤ x) : Kp base w w2 :=
  ⟨k.os.trans h.os, k.tape.trans h.tape, k.output.trans h.output, Nat.le_trans h.size k.size, fun i hi hc => by
    rw [k.block i (Nat.lt_of_lt_of_le hi h.size) (fun e => by have := Option.some.inj e; omega), h.block i hi hc]⟩
theorem Kp.below {base : Nat} {w w1 : World} (h : Kp base w w1) (hb : base ≤ w.heap.size) : Below base w w1 := ⟨h.os, h.tape, h.output, h.size, fun i hi => h.block i (by omega) (fun _ _ => hi)⟩
theorem Kp.row {base b : Nat} {T : TypeId} {w w1 : World} {cs : List Value} (h : Kp base w w1) (hr : Row w b T cs) (hT : T ≠ 5) : Row w1 b T cs := by
  unfold Row
  rw [h.block b hr.lt (fun ds e => by rw [show w.heap[b]? = _ from hr] at e; simp at e; exact absurd e.2 hT)]; exact hr
theorem Kp.iter {base it p : Nat} {w w1 : World} {s : ByteArray} (h : Kp base w w1) (hr : Iter w it s p) : Iter w1 it s p := by
  unfold Iter
  rw [h.block it hr.lt (fun ds e => by rw [show w.heap[it]? = _ from hr] at e; cases e)]; exact hr
theorem iter_own {w : World} {it p base : Nat} {s : ByteArray} {v : Value} {l : List Int} (h : Iter w it s p) (ho : Own w base v l) : some it ≠ v.ownBlock := fun e => by
  rcases ho.2 with ⟨rfl, _⟩ | ⟨g, cap, cur, rfl, hb, hg, _⟩
  · simp [Value.ownBlock] at e
  · simp [Value.ownBlock] at e
    subst e
    rw [show w.heap[it]? = _ from h] at hg
    cases hg
theorem own_kept_iter {w w1 : World} {it p base : Nat} {s : ByteArray} {v : Value} {l : List Int} (h : Iter w it s p) (ho : Own w base v l) (hg : w.grownBy w1 (some it)) : Own w1 base v l :=
  ho.grown hg (.inr (fun e => iter_own h ho e.symm))
theorem own_none_grown {w w1 : World} {base : Nat} {v : Value} {l : List Int} (ho : Own w base v l) (hg : w.grownBy w1 none) : Own w1 base v l := ho.grown hg (by cases v.ownBlock <;> simp)
/-- What a call does that appends to bytes of the caller's own. -/
def Appends (base : Nat) (w : World) (l : List Int) (e : Ending) (w' : World) : Prop := ∃ v', e = .returned v' ∧ Own w' base v' l ∧ Kp base w w'
theorem src_row {w : World} {g : Nat} {l : List Int} (h : Row w g 5 (l.map (Value.int .u8))) : Src w (some ⟨g, 0, none⟩) l := fun _ => ⟨⟨g, 0, none⟩, rfl, rfl, fun j hj => by
  rw [Nat.zero_add]
  refine h.at_ ?_
  rw [List.getElem?_map, List.getElem?_eq_getElem hj]
  simp [List.getD_eq_getElem?_getD, List.getElem?_eq_getElem hj]⟩
theorem step_append_bytes {ops : Array Oper} {o : Oper} {a : Act} {w : World} {K : Act → World → Prop} {Q : Exit → Act → World → Prop} (hw : Region.wanted o (yielded ops a.tmps) = true) (s x : Operand)
    (ho : o.op = .call { callee := .builtin .append, args := #[s, x], argTypes := #[41, 41] }) (base : Nat) (v : Value) (l y : List Int) (hs : a.eval s = v) (hown : Own w base v l)
    (g c : Nat) (hx : a.eval x = .slice (some ⟨g, 0, none⟩) y.length c) (hsrc : Row w g 5 (y.map (Value.int .u8))) (hsz : l.length + y.length ≤ 1099511627776) (hbase : base ≤ w.heap.size)
    (h : ∀ v' w', Own w' base v' (l ++ y) → w.grownBy w' v.ownBlock → K (a.put o.dst v') w') :
    if Region.wanted o (yielded ops a.tmps) = true then Oper.wp Tryz.prog o a w K Q else K (a.put o.dst undef) w := by
  rw [if_pos hw]
  obtain ⟨v', w', hr, h2, h3, h4⟩ := run_append_block (P := Tryz.prog) w base 41 o.type 5 _ (.int .u8 0) 1 1 Tryz.underlying41 info5 (by kernel_rfl) (by kernel_rfl) (by kernel_rfl) rfl (by decide) v l.length _ hown ⟨g, 0, none⟩ y.length c (y.map (Value.int .u8)) (by simp)
    (fun j u hu => by rw [Addr.add_lit, Nat.zero_add]; exact hsrc.at_ hu) (oneCell_bytes y) (by unfold maxLen; omega) (by omega) hbase
  unfold Oper.wp execOp
  simp only [ho, resolve, invoke, builtin, Sem.run_bind, Sem.run_pure, Result.andThen_ok, List.map_toArray, List.map_cons, List.map_nil, hs, hx, hr]
  exact h v' w' (by unfold Own; rw [List.map_append, List.length_append]; exact h2) h3
theorem shorts_fin : ∀ c : Fin 128, (c.val = 34 ∨ c.val = 92 ∨ c.val = 8 ∨ c.val = 12 ∨ c.val = 10 ∨ c.val = 13 ∨ c.val = 9) ∨ Lib.indexByte shorts.data.toList c.val.toUInt8 = -1 := by decide +kernel
theorem shorts_out {c : Int} (h0 : 0 ≤ c) (h1 : c < 128) (h : ¬ (c = 34 ∨ c = 92 ∨ c = 8 ∨ c = 12 ∨ c = 10 ∨ c = 13 ∨ c = 9)) : Lib.indexByte shorts.data.toList c.toNat.toUInt8 = -1 := by
  rcases shorts_fin ⟨c.toNat, by omega⟩ with h2 | h2
  · simp only at h2; omega
  · exact h2
theorem and_fin : ∀ c : Fin 32, bits .and .i32 ((c.val : Nat) : Int) 15 = ((c.val % 16 : Nat) : Int) := by decide +kernel
theorem and15 (c : Int) (h0 : 0 ≤ c) (h1 : c < 32) : bits .and .i32 c 15 = c % 16 := by
  have := and_fin ⟨c.toNat, by omega⟩
  rw [show (((⟨c.toNat, by omega⟩ : Fin 32).val : Nat) : Int) = c by simp; omega] at this
  rw [this]; simp; omega
theorem hex_index (k : Int) (hk0 : 0 ≤ k) (hk1 : k < 16) (W : World) : (Instr.index 9 (.string ⟨#[48, 49, 50, 51, 52, 53, 54, 55, 56, 57, 97, 98, 99, 100, 101, 102]⟩) (.int .i32 k)).run Tryz.prog W = .ok (.int .u8 (hexD k)) W := by
  have h0 : ∀ W, (Instr.index 9 (.string ⟨#[48, 49, 50, 51, 52, 53, 54, 55, 56, 57, 97, 98, 99, 100, 101, 102]⟩) (.int .i32 0)).run Tryz.prog W = .ok (.int .u8 (hexD 0)) W := fun _ => by kernel_rfl
  have h1 : ∀ W, (Instr.index 9 (.string ⟨#[48, 49, 50, 51, 52, 53, 54, 55, 56, 57, 97, 98, 99, 100, 101, 102]⟩) (.int .i32 1)).run Tryz.prog W = .ok (.int .u8 (hexD 1)) W := fun _ => by kernel_rfl
  have h2 : ∀ W, (Instr.index 9 (.string ⟨#[48, 49, 50, 51, 52, 53, 54, 55, 56, 57, 97, 98, 99, 100, 101, 102]⟩) (.int .i32 2)).run Tryz.prog W = .ok (.int .u8 (hexD 2)) W := fun _ => by kernel_rfl
  have h3 : ∀ W, (Instr.index 9 (.string ⟨#[48, 49, 50, 51, 52, 53, 54, 55, 56, 57, 97, 98, 99, 100, 101, 102]⟩) (.int .i32 3)).run Tryz.prog W = .ok (.int .u8 (hexD 3)) W := fun _ => by kernel_rfl
  have h4 : ∀ W, (Instr.index 9 (.string ⟨#[48, 49, 50, 51, 52, 53, 54, 55, 56, 57, 97, 98, 99, 100, 101, 102]⟩) (.int .i32 4)).run Tryz.prog W = .ok (.int .u8 (hexD 4)) W := fun _ => by kernel_rfl
  have h5 : ∀ W, (Instr.index 9 (.string ⟨#[48, 49, 50, 51, 52, 53, 54, 55, 56, 57, 97, 98, 99, 100, 101, 102]⟩) (.int .i32 5)).run Tryz.prog W = .ok (.int .u8 (hexD 5)) W := fun _ => by kernel_rfl
  have h6 : ∀ W, (Instr.index 9 (.string ⟨#[48, 49, 50, 51, 52, 53, 54, 55, 56, 57, 97, 98, 99, 100, 101, 102]⟩) (.int .i32 6)).run Tryz.prog W = .ok (.int .u8 (hexD 6)) W := fun _ => by kernel_rfl
  have h7 : ∀ W, (Instr.index 9 (.string ⟨#[48, 49, 50, 51, 52, 53, 54, 55, 56, 57, 97, 98, 99, 100, 101, 102]⟩) (.int .i32 7)).run Tryz.prog W = .ok (.int .u8 (hexD 7)) W := fun _ => by kernel_rfl
  have h8 : ∀ W, (Instr.index 9 (.string ⟨#[48, 49, 50, 51, 52, 53, 54, 55, 56, 57, 97, 98, 99, 100, 101, 102]⟩) (.int .i32 8)).run Tryz.prog W = .ok (.int .u8 (hexD 8)) W := fun _ => by kernel_rfl
  have h9 : ∀ W, (Instr.index 9 (.string ⟨#[48, 49, 50, 51, 52, 53, 54, 55, 56, 57, 97, 98, 99, 100, 101, 102]⟩) (.int .i32 9)).run Tryz.prog W = .ok (.int .u8 (hexD 9)) W := fun _ => by kernel_rfl
  have h10 : ∀ W, (Instr.index 9 (.string ⟨#[48, 49, 50, 51, 52, 53, 54, 55, 56, 57, 97, 98, 99, 100, 101, 102]⟩) (.int .i32 10)).run Tryz.prog W = .ok (.int .u8 (hexD 10)) W := fun _ => by kernel_rfl
  have h11 : ∀ W, (Instr.index 9 (.string ⟨#[48, 49, 50, 51, 52, 53, 54, 55, 56, 57, 97, 98, 99, 100, 101, 102]⟩) (.int .i32 11)).run Tryz.prog W = .ok (.int .u8 (hexD 11)) W := fun _ => by kernel_rfl
  have h12 : ∀ W, (Instr.index 9 (.string ⟨#[48, 49, 50, 51, 52, 53, 54, 55, 56, 57, 97, 98, 99, 100, 101, 102]⟩) (.int .i32 12)).run Tryz.prog W = .ok (.int .u8 (hexD 12)) W := fun _ => by kernel_rfl
  have h13 : ∀ W, (Instr.index 9 (.string ⟨#[48, 49, 50, 51, 52, 53, 54, 55, 56, 57, 97, 98, 99, 100, 101, 102]⟩) (.int .i32 13)).run Tryz.prog W = .ok (.int .u8 (hexD 13)) W := fun _ => by kernel_rfl
  have h14 : ∀ W, (Instr.index 9 (.string ⟨#[48, 49, 50, 51, 52, 53, 54, 55, 56, 57, 97, 98, 99, 100, 101, 102]⟩) (.int .i32 14)).run Tryz.prog W = .ok (.int .u8 (hexD 14)) W := fun _ => by kernel_rfl
  have h15 : ∀ W, (Instr.index 9 (.string ⟨#[48, 49, 50, 51, 52, 53, 54, 55, 56, 57, 97, 98, 99, 100, 101, 102]⟩) (.int .i32 15)).run Tryz.prog W = .ok (.int .u8 (hexD 15)) W := fun _ => by kernel_rfl
  have : k = 0 ∨ k = 1 ∨ k = 2 ∨ k = 3 ∨ k = 4 ∨ k = 5 ∨ k = 6 ∨ k = 7 ∨ k = 8 ∨ k = 9 ∨ k = 10 ∨ k = 11 ∨ k = 12 ∨ k = 13 ∨ k = 14 ∨ k = 15 := by omega
  rcases this with rfl | rfl | rfl | rfl | rfl | rfl | rfl | rfl | rfl | rfl | rfl | rfl | rfl | rfl | rfl | rfl
  · exact h0 W
  · exact h1 W
  · exact h2 W
  · exact h3 W
  · exact h4 W
  · exact h5 W
  · exact h6 W
  · exact h7 W
  · exact h8 W
  · exact h9 W
  · exact h10 W
  · exact h11 W
  · exact h12 W
  · exact h13 W
  · exact h14 W
  · exact h15 W
set_option maxHeartbeats 6400000 in
set_option maxRecDepth 100000 in
theorem quote_any (base : Nat) (v : Value) (acc : List Int) (s : ByteArray) (w : World) (hown : Own w base v acc) (hb : base ≤ w.heap.size) (hu : utfFrom s 0 = true) (hsz : acc.length + 6 * s.size ≤ 1073741824) :
    Calls Tryz.prog 49 #[v, .string s] w (Appends base w (acc ++ quoteS s)) := by
  have Ho := Lib.hid hown
  have Hu := Lib.hid hu
  obtain ⟨RES, hR⟩ : ∃ r, acc ++ quoteS s = r := ⟨_, rfl⟩
  have HR := Lib.hid hR
  rw [hR]
  clear hown hu hR
  go_enter Tryz.func49, Tryz.ntmps49
  go_upto_region 2 with (first
    | (have _ := w1; refine wpList_append_bytes rfl (.tmp 8) (.tmp 9) rfl base v acc [34] rfl (own_none_grown Ho.out hg1) (some ⟨w.heap.size, 0, none⟩) 1 rfl (by intro h; cases h) (src_build hr1) (by simp; omega) (by have := hg1.size; omega) ?_; intro v2 w2 ho2 hg2; simp only [Act.put, List.setIfInBounds_toArray, List.set_cons_zero, List.set_cons_succ]
       have Ho2 := Lib.hid ho2; have HK2 := Lib.hid ((kp_grown (base := base) hg1).own (own_none_grown Ho.out hg1) hg2); clear ho2 hg2 hr1 hg1)
    | (refine wpList_build1 rfl 41 5 (.const (.int .u8 34)) rfl Tryz.underlying41 (.int .u8 34) rfl _ info5 (by kernel_rfl) (.int .u8 0) (by kernel_rfl) rfl rfl ?_; intro w1 hr1 hg1 hs1; clear hs1; simp only [Act.put, List.setIfInBounds_toArray, List.set_cons_zero, List.set_cons_succ]))
  have HIT0 : Hid (w.heap.size ≤ w2.heap.size) := Lib.hid HK2.out.size
  have HI3 : Hid (Iter (w2.iter s 0) w2.heap.size s 0) := Lib.hid (iter_new _ _)
  have Ho3 : Hid (Own (w2.iter s 0) base v2 (acc ++ [34])) := Lib.hid (own_none_grown Ho2.out (iter_grown _ _))
  have HK3 : Hid (Kp base w (w2.iter s 0)) := Lib.hid (HK2.out.grown (iter_grown _ _))
  go_wp2_with fail
  obtain ⟨it, hit⟩ : ∃ x, w2.heap.size = x := ⟨_, rfl⟩
  rw [hit] at HI3 HIT0 ⊢
  generalize hw3 : w2.iter s 0 = w3 at HI3 Ho3 HK3 ⊢
  have HIT := HIT0
  clear hit hw3 HIT0 HK2 Ho2
  go_loopg [0] s.size (fun d v wr => ∃ (p : Nat) (acc' : List Int), p ≤ s.size ∧ d = s.size - p ∧ Hid (Iter wr it s p) ∧ Hid (Own wr base v acc') ∧ Hid (utfFrom s p = true) ∧ Hid (acc' ++ (escS (restAt s p) ++ [34]) = RES) ∧ Hid (acc'.length + 6 * (s.size - p) ≤ acc.length + 1 + 6 * s.size) ∧ Hid (Kp base w wr))
  case atStart => exact ⟨0, acc ++ [34], by omega, rfl, HI3, Ho3, Hu, Lib.hid (by rw [← HR.out]; simp [quoteS]), Lib.hid (by simp), HK3⟩
  case round =>
    clear HI3 Ho3 HK3 HR Hu Ho
    obtain ⟨p, acc', hp, rfl, HI, Ho, HU, HRR, HL, HK⟩ := hrel
    by_cases hlt : p < s.size
    · obtain ⟨c, hc⟩ : ∃ c, ch s p = c := ⟨_, rfl⟩
      have hcr := ch_range s p
      rw [hc] at hcr
      have hg := get_ch hlt
      rw [hc] at hg
      by_cases hlow : c < 128
      · obtain ⟨hn, hd⟩ := whole_low hlt (by omega)
        have HD1 : Hid ((((Utf8.decode s p).1 : Nat) : Int) = c) := Lib.hid (by rw [hd]; exact hg)
        have HD2 : Hid ((Utf8.decode s p).2 = 1) := Lib.hid (by rw [hd])
        have hrs := restAt_step (s := s) (i := p) (n := 1) (by omega)
        rw [bytesAt_one, hc] at hrs
        have HE : Hid (escS (restAt s p) = escB c ++ escS (restAt s (p + 1))) := Lib.hid (by rw [hrs, escS_append]; simp [escS])
        have HU2 : Hid (utfFrom s (p + 1) = true) := Lib.hid (by have := HU.out; rw [utfFrom_step hlt, hn] at this; simpa using this)
        have HRX : ∀ X, escB c = X → Hid ((acc' ++ X) ++ (escS (restAt s (p + 1)) ++ [34]) = RES) := fun X hX => Lib.hid (by rw [← HRR.out, HE.out, hX]; simp)
        have HLX : ∀ X : List Int, X.length ≤ 6 → Hid ((acc' ++ X).length + 6 * (s.size - (p + 1)) ≤ acc.length + 1 + 6 * s.size) := fun X hX => Lib.hid (by have := HL.out; rw [List.length_append]; omega)
        have HRX := Lib.hid HRX
        have HLX := Lib.hid HLX
        have HA := Lib.hid (Tryz.strings_IndexRune_ascii shorts c)
        clear hc hg hn hd hrs HE HRR HU
        by_cases hsh : c = 34 ∨ c = 92 ∨ c = 8 ∨ c = 12 ∨ c = 10 ∨ c = 13 ∨ c = 9
        · rcases hsh with rfl | rfl | rfl | rfl | rfl | rfl | rfl
          · have HIX : Hid (∀ W, Calls Tryz.prog 57 #[.string shorts, .int .i32 34] W fun e w' => e = .returned (.int .i64 0) ∧ W = w') := Lib.hid (fun W => (HA.out W (by decide) (by decide)).mono fun e w' ⟨h1, h2⟩ => ⟨h1, h2.symm⟩)
            have hbk : ((((⟨#[34, 92, 98, 102, 110, 114, 116]⟩ : ByteArray)[0]'(by decide)).toNat : Nat) : Int) = 34 := rfl
            have HR2 := HRX.out [92, 34] rfl
            have HL2 := HLX.out [92, 34] (by simp)
            go_wp2_with (first
              | (have _ := w4; refine wpList_append_bytes rfl (.tmp 24) (.tmp 27) rfl base u0 acc' [92, 34] rfl (own_none_grown Ho4.out (World.grownBy_alloc w4 _ none)) (some ⟨w4.heap.size, 0, none⟩) 2 rfl (by intro h; cases h) (src_row (Row.new w4 [.int .u8 92, .int .u8 34] 5)) (by have := HL.out; simp; omega) (by have := HK4.out.size; simp; omega) ?_; intro v6 w6 ho6 hg6; simp only [Act.put, List.setIfInBounds_toArray, List.set_cons_zero, List.set_cons_succ]
                 have hgd : w4.grownBy (w4.alloc (.cells #[.int .u8 92, .int .u8 34] 5)) none := World.grownBy_alloc w4 _ none; have Ho6 := Lib.hid ho6; have HI6 := Lib.hid ((HI4.out.grown hgd (by simp)).grown hg6 (iter_own (HI4.out.grown hgd (by simp)) (own_none_grown Ho4.out hgd))); have HK6 := Lib.hid ((HK4.out.grown hgd).own (own_none_grown Ho4.out hgd) hg6); clear ho6 hg6 hgd)
              | (have _ := w4; go_at_call 57; refine (HIX.out w4).mono ?_; rintro e w5 ⟨rfl, rfl⟩)
              | (refine wpList_next_yes rfl _ rfl it rfl s p HI.out hlt ?_; intro w4 hi4 hg4 hs4; rw [HD1.out]; rw [HD2.out] at hi4; have HI4 := Lib.hid hi4; have Ho4 := Lib.hid (own_kept_iter HI.out Ho.out hg4); have HK4 := Lib.hid (HK.out.new hg4 HIT.out); clear hi4 hg4 hs4; simp only [Act.put, List.setIfInBounds_toArray, List.set_cons_zero, List.set_cons_succ]))
            go_roundg (s.size - (p + 1))
            case measure => omega
            case rel => exact ⟨p + 1, acc' ++ [92, 34], by omega, rfl, HI6, Ho6, HU2, HR2, HL2, HK6⟩
          · have HIX : Hid (∀ W, Calls Tryz.prog 57 #[.string shorts, .int .i32 92] W fun e w' => e = .returned (.int .i64 1) ∧ W = w') := Lib.hid (fun W => (HA.out W (by decide) (by decide)).mono fun e w' ⟨h1, h2⟩ => ⟨h1, h2.symm⟩)
            have hbk : ((((⟨#[34, 92, 98, 102, 110, 114, 116]⟩ : ByteArray)[1]'(by decide)).toNat : Nat) : Int) = 92 := rfl
            have HR2 := HRX.out [92, 92] rfl
            have HL2 := HLX.out [92, 92] (by simp)
            go_wp2_with (first
              | (have _ := w4; refine wpList_append_bytes rfl (.tmp 24) (.tmp 27) rfl base u0 acc' [92, 92] rfl (own_none_grown Ho4.out (World.grownBy_alloc w4 _ none)) (some ⟨w4.heap.size, 0, none⟩) 2 rfl (by intro h; cases h) (src_row (Row.new w4 [.int .u8 92, .int .u8 92] 5)) (by have := HL.out; simp; omega) (by have := HK4.out.size; simp; omega) ?_; intro v6 w6 ho6 hg6; simp only [Act.put, List.setIfInBounds_toArray, List.set_cons_zero, List.set_cons_succ]
                 have hgd : w4.grownBy (w4.alloc (.cells #[.int .u8 92, .int .u8 92] 5)) none := World.grownBy_alloc w4 _ none; have Ho6 := Lib.hid ho6; have HI6 := Lib.hid ((HI4.out.grown hgd (by simp)).grown hg6 (iter_own (HI4.out.grown hgd (by simp)) (own_none_grown Ho4.out hgd))); have HK6 := Lib.hid ((HK4.out.grown hgd).own (own_none_grown Ho4.out hgd) hg6); clear ho6 hg6 hgd)
              | (have _ := w4; go_at_call 57; refine (HIX.out w4).mono ?_; rintro e w5 ⟨rfl, rfl⟩)
              | (refine wpList_next_yes rfl _ rfl it rfl s p HI.out hlt ?_; intro w4 hi4 hg4 hs4; rw [HD1.out]; rw [HD2.out] at hi4; have HI4 := Lib.hid hi4; have Ho4 := Lib.hid (own_kept_iter HI.out Ho.out hg4); have HK4 := Lib.hid (HK.out.new hg4 HIT.out); clear hi4 hg4 hs4; simp only [Act.put, List.setIfInBounds_toArray, List.set_cons_zero, List.set_cons_succ]))
            go_roundg (s.size - (p + 1))
            case measure => omega
            case rel => exact ⟨p + 1, acc' ++ [92, 92], by omega, rfl, HI6, Ho6, HU2, HR2, HL2, HK6⟩
          · have HIX : Hid (∀ W, Calls Tryz.prog 57 #[.string shorts, .int .i32 8] W fun e w' => e = .returned (.int .i64 2) ∧ W = w') := Lib.hid (fun W => (HA.out W (by decide) (by decide)).mono fun e w' ⟨h1, h2⟩ => ⟨h1, h2.symm⟩)
            have hbk : ((((⟨#[34, 92, 98, 102, 110, 114, 116]⟩ : ByteArray)[2]'(by decide)).toNat : Nat) : Int) = 98 := rfl
            have HR2 := HRX.out [92, 98] rfl
            have HL2 := HLX.out [92, 98] (by simp)
            go_wp2_with (first
              | (have _ := w4; refine wpList_append_bytes rfl (.tmp 24) (.tmp 27) rfl base u0 acc' [92, 98] rfl (own_none_grown Ho4.out (World.grownBy_alloc w4 _ none)) (some ⟨w4.heap.size, 0, none⟩) 2 rfl (by intro h; cases h) (src_row (Row.new w4 [.int .u8 92, .int .u8 98] 5)) (by have := HL.out; simp; omega) (by have := HK4.out.size; simp; omega) ?_; intro v6 w6 ho6 hg6; simp only [Act.put, List.setIfInBounds_toArray, List.set_cons_zero, List.set_cons_succ]
                 have hgd : w4.grownBy (w4.alloc (.cells #[.int .u8 92, .int .u8 98] 5)) none := World.grownBy_alloc w4 _ none; have Ho6 := Lib.hid ho6; have HI6 := Lib.hid ((HI4.out.grown hgd (by simp)).grown hg6 (iter_own (HI4.out.grown hgd (by simp)) (own_none_grown Ho4.out hgd))); have HK6 := Lib.hid ((HK4.out.grown hgd).own (own_none_grown Ho4.out hgd) hg6); clear ho6 hg6 hgd)
              | (have _ := w4; go_at_call 57; refine (HIX.out w4).mono ?_; rintro e w5 ⟨rfl, rfl⟩)
              | (refine wpList_next_yes rfl _ rfl it rfl s p HI.out hlt ?_; intro w4 hi4 hg4 hs4; rw [HD1.out]; rw [HD2.out] at hi4; have HI4 := Lib.hid hi4; have Ho4 := Lib.hid (own_kept_iter HI.out Ho.out hg4); have HK4 := Lib.hid (HK.out.new hg4 HIT.out); clear hi4 hg4 hs4; simp only [Act.put, List.setIfInBounds_toArray, List.set_cons_zero, List.set_cons_succ]))
            go_roundg (s.size - (p + 1))
            case measure => omega
            case rel => exact ⟨p + 1, acc' ++ [92, 98], by omega, rfl, HI6, Ho6, HU2, HR2, HL2, HK6⟩
          · have HIX : Hid (∀ W, Calls Tryz.prog 57 #[.string shorts, .int .i32 12] W fun e w' => e = .returned (.int .i64 3) ∧ W = w') := Lib.hid (fun W => (HA.out W (by decide) (by decide)).mono fun e w' ⟨h1, h2⟩ => ⟨h1, h2.symm⟩)
            have hbk : ((((⟨#[34, 92, 98, 102, 110, 114, 116]⟩ : ByteArray)[3]'(by decide)).toNat : Nat) : Int) = 102 := rfl
            have HR2 := HRX.out [92, 102] rfl
            have HL2 := HLX.out [92, 102] (by simp)
            go_wp2_with (first
              | (have _ := w4; refine wpList_append_bytes rfl (.tmp 24) (.tmp 27) rfl base u0 acc' [92, 102] rfl (own_none_grown Ho4.out (World.grownBy_alloc w4 _ none)) (some ⟨w4.heap.size, 0, none⟩) 2 rfl (by intro h; cases h) (src_row (Row.new w4 [.int .u8 92, .int .u8 102] 5)) (by have := HL.out; simp; omega) (by have := HK4.out.size; simp; omega) ?_; intro v6 w6 ho6 hg6; simp only [Act.put, List.setIfInBounds_toArray, List.set_cons_zero, List.set_cons_succ]
                 have hgd : w4.grownBy (w4.alloc (.cells #[.int .u8 92, .int .u8 102] 5)) none := World.grownBy_alloc w4 _ none; have Ho6 := Lib.hid ho6; have HI6 := Lib.hid ((HI4.out.grown hgd (by simp)).grown hg6 (iter_own (HI4.out.grown hgd (by simp)) (own_none_grown Ho4.out hgd))); have HK6 := Lib.hid ((HK4.out.grown hgd).own (own_none_grown Ho4.out hgd) hg6); clear ho6 hg6 hgd)
              | (have _ := w4; go_at_call 57; refine (HIX.out w4).mono ?_; rintro e w5 ⟨rfl, rfl⟩)
              | (refine wpList_next_yes rfl _ rfl it rfl s p HI.out hlt ?_; intro w4 hi4 hg4 hs4; rw [HD1.out]; rw [HD2.out] at hi4; have HI4 := Lib.hid hi4; have Ho4 := Lib.hid (own_kept_iter HI.out Ho.out hg4); have HK4 := Lib.hid (HK.out.new hg4 HIT.out); clear hi4 hg4 hs4; simp only [Act.put, List.setIfInBounds_toArray, List.set_cons_zero, List.set_cons_succ]))
            go_roundg (s.size - (p + 1))
            case measure => omega
            case rel => exact ⟨p + 1, acc' ++ [92, 102], by omega, rfl, HI6, Ho6, HU2, HR2, HL2, HK6⟩
          · have HIX : Hid (∀ W, Calls Tryz.prog 57 #[.string shorts, .int .i32 10] W fun e w' => e = .returned (.int .i64 4) ∧ W = w') := Lib.hid (fun W => (HA.out W (by decide) (by decide)).mono fun e w' ⟨h1, h2⟩ => ⟨h1, h2.symm⟩)
            have hbk : ((((⟨#[34, 92, 98, 102, 110, 114, 116]⟩ : ByteArray)[4]'(by decide)).toNat : Nat) : Int) = 110 := rfl
            have HR2 := HRX.out [92, 110] rfl
            have HL2 := HLX.out [92, 110] (by simp)
            go_wp2_with (first
              | (have _ := w4; refine wpList_append_bytes rfl (.tmp 24) (.tmp 27) rfl base u0 acc' [92, 110] rfl (own_none_grown Ho4.out (World.grownBy_alloc w4 _ none)) (some ⟨w4.heap.size, 0, none⟩) 2 rfl (by intro h; cases h) (src_row (Row.new w4 [.int .u8 92, .int .u8 110] 5)) (by have := HL.out; simp; omega) (by have := HK4.out.size; simp; omega) ?_; intro v6 w6 ho6 hg6; simp only [Act.put, List.setIfInBounds_toArray, List.set_cons_zero, List.set_cons_succ]
                 have hgd : w4.grownBy (w4.alloc (.cells #[.int .u8 92, .int .u8 110] 5)) none := World.grownBy_alloc w4 _ none; have Ho6 := Lib.hid ho6; have HI6 := Lib.hid ((HI4.out.grown hgd (by simp)).grown hg6 (iter_own (HI4.out.grown hgd (by simp)) (own_none_grown Ho4.out hgd))); have HK6 := Lib.hid ((HK4.out.grown hgd).own (own_none_grown Ho4.out hgd) hg6); clear ho6 hg6 hgd)
              | (have _ := w4; go_at_call 57; refine (HIX.out w4).mono ?_; rintro e w5 ⟨rfl, rfl⟩)
              | (refine wpList_next_yes rfl _ rfl it rfl s p HI.out hlt ?_; intro w4 hi4 hg4 hs4; rw [HD1.out]; rw [HD2.out] at hi4; have HI4 := Lib.hid hi4; have Ho4 := Lib.hid (own_kept_iter HI.out Ho.out hg4); have HK4 := Lib.hid (HK.out.new hg4 HIT.out); clear hi4 hg4 hs4; simp only [Act.put, List.setIfInBounds_toArray, List.set_cons_zero, List.set_cons_succ]))
            go_roundg (s.size - (p + 1))
            case measure => omega
            case rel => exact ⟨p + 1, acc' ++ [92, 110], by omega, rfl, HI6, Ho6, HU2, HR2, HL2, HK6⟩
          · have HIX : Hid (∀ W, Calls Tryz.prog 57 #[.string shorts, .int .i32 13] W fun e w' => e = .returned (.int .i64 5) ∧ W = w') := Lib.hid (fun W => (HA.out W (by decide) (by decide)).mono fun e w' ⟨h1, h2⟩ => ⟨h1, h2.symm⟩)
            have hbk : ((((⟨#[34, 92, 98, 102, 110, 114, 116]⟩ : ByteArray)[5]'(by decide)).toNat : Nat) : Int) = 114 := rfl
            have HR2 := HRX.out [92, 114] rfl
            have HL2 := HLX.out [92, 114] (by simp)
            go_wp2_with (first
              | (have _ := w4; refine wpList_append_bytes rfl (.tmp 24) (.tmp 27) rfl base u0 acc' [92, 114] rfl (own_none_grown Ho4.out (World.grownBy_alloc w4 _ none)) (some ⟨w4.heap.size, 0, none⟩) 2 rfl (by intro h; cases h) (src_row (Row.new w4 [.int .u8 92, .int .u8 114] 5)) (by have := HL.out; simp; omega) (by have := HK4.out.size; simp; omega) ?_; intro v6 w6 ho6 hg6; simp only [Act.put, List.setIfInBounds_toArray, List.set_cons_zero, List.set_cons_succ]
                 have hgd : w4.grownBy (w4.alloc (.cells #[.int .u8 92, .int .u8 114] 5)) none := World.grownBy_alloc w4 _ none; have Ho6 := Lib.hid ho6; have HI6 := Lib.hid ((HI4.out.grown hgd (by simp)).grown hg6 (iter_own (HI4.out.grown hgd (by simp)) (own_none_grown Ho4.out hgd))); have HK6 := Lib.hid ((HK4.out.grown hgd).own (own_none_grown Ho4.out hgd) hg6); clear ho6 hg6 hgd)
              | (have _ := w4; go_at_call 57; refine (HIX.out w4).mono ?_; rintro e w5 ⟨rfl, rfl⟩)
              | (refine wpList_next_yes rfl _ rfl it rfl s p HI.out hlt ?_; intro w4 hi4 hg4 hs4; rw [HD1.out]; rw [HD2.out] at hi4; have HI4 := Lib.hid hi4; have Ho4 := Lib.hid (own_kept_iter HI.out Ho.out hg4); have HK4 := Lib.hid (HK.out.new hg4 HIT.out); clear hi4 hg4 hs4; simp only [Act.put, List.setIfInBounds_toArray, List.set_cons_zero, List.set_cons_succ]))
            go_roundg (s.size - (p + 1))
            case measure => omega
            case rel => exact ⟨p + 1, acc' ++ [92, 114], by omega, rfl, HI6, Ho6, HU2, HR2, HL2, HK6⟩
          · have HIX : Hid (∀ W, Calls Tryz.prog 57 #[.string shorts, .int .i32 9] W fun e w' => e = .returned (.int .i64 6) ∧ W = w') := Lib.hid (fun W => (HA.out W (by decide) (by decide)).mono fun e w' ⟨h1, h2⟩ => ⟨h1, h2.symm⟩)
            have hbk : ((((⟨#[34, 92, 98, 102, 110, 114, 116]⟩ : ByteArray)[6]'(by decide)).toNat : Nat) : Int) = 116 := rfl
            have HR2 := HRX.out [92, 116] rfl
            have HL2 := HLX.out [92, 116] (by simp)
            go_wp2_with (first
              | (have _ := w4; refine wpList_append_bytes rfl (.tmp 24) (.tmp 27) rfl base u0 acc' [92, 116] rfl (own_none_grown Ho4.out (World.grownBy_alloc w4 _ none)) (some ⟨w4.heap.size, 0, none⟩) 2 rfl (by intro h; cases h) (src_row (Row.new w4 [.int .u8 92, .int .u8 116] 5)) (by have := HL.out; simp; omega) (by have := HK4.out.size; simp; omega) ?_; intro v6 w6 ho6 hg6; simp only [Act.put, List.setIfInBounds_toArray, List.set_cons_zero, List.set_cons_succ]
                 have hgd : w4.grownBy (w4.alloc (.cells #[.int .u8 92, .int .u8 116] 5)) none := World.grownBy_alloc w4 _ none; have Ho6 := Lib.hid ho6; have HI6 := Lib.hid ((HI4.out.grown hgd (by simp)).grown hg6 (iter_own (HI4.out.grown hgd (by simp)) (own_none_grown Ho4.out hgd))); have HK6 := Lib.hid ((HK4.out.grown hgd).own (own_none_grown Ho4.out hgd) hg6); clear ho6 hg6 hgd)
              | (have _ := w4; go_at_call 57; refine (HIX.out w4).mono ?_; rintro e w5 ⟨rfl, rfl⟩)
              | (refine wpList_next_yes rfl _ rfl it rfl s p HI.out hlt ?_; intro w4 hi4 hg4 hs4; rw [HD1.out]; rw [HD2.out] at hi4; have HI4 := Lib.hid hi4; have Ho4 := Lib.hid (own_kept_iter HI.out Ho.out hg4); have HK4 := Lib.hid (HK.out.new hg4 HIT.out); clear hi4 hg4 hs4; simp only [Act.put, List.setIfInBounds_toArray, List.set_cons_zero, List.set_cons_succ]))
            go_roundg (s.size - (p + 1))
            case measure => omega
            case rel => exact ⟨p + 1, acc' ++ [92, 116], by omega, rfl, HI6, Ho6, HU2, HR2, HL2, HK6⟩
        · have hix := shorts_out (by omega) hlow hsh
          have HIX : Hid (∀ W, Calls Tryz.prog 57 #[.string shorts, .int .i32 c] W fun e w' => e = .returned (.int .i64 (-1)) ∧ W = w') := Lib.hid (fun W => by have := HA.out W (by omega) hlow; rw [hix] at this; exact this.mono fun e w' ⟨h1, h2⟩ => ⟨h1, h2.symm⟩)
          have HSH := Lib.hid hsh
          clear hix hsh
          by_cases h32 : c < 32
          · have he : escB c = [92, 117, 48, 48, hexD (c / 16), hexD (c % 16)] := by
              have := HSH.out
              unfold escB
              rw [if_neg (by omega), if_neg (by omega), if_neg (by omega), if_neg (by omega), if_neg (by omega), if_neg (by omega), if_neg (by omega), if_pos h32]
            have HR2 := HRX.out _ he
            have HL2 := HLX.out [92, 117, 48, 48, hexD (c / 16), hexD (c % 16)] (by simp)
            have hand := and15 c (by omega) h32
            have hx1 := fun W => hex_index (c / 16) (by omega) (by omega) W
            have hx2 := fun W => hex_index (c % 16) (by omega) (by omega) W
            clear he
            go_upto_region 10 with (first
              | (have _ := w4; go_at_call 57; refine (HIX.out w4).mono ?_; rintro e w5 ⟨rfl, rfl⟩)
              | (refine wpList_next_yes rfl _ rfl it rfl s p HI.out hlt ?_; intro w4 hi4 hg4 hs4; rw [HD1.out]; rw [HD2.out] at hi4; have HI4 := Lib.hid hi4; have Ho4 := Lib.hid (own_kept_iter HI.out Ho.out hg4); have HK4 := Lib.hid (HK.out.new hg4 HIT.out); clear hi4 hg4 hs4; simp only [Act.put, List.setIfInBounds_toArray, List.set_cons_zero, List.set_cons_succ]))
            refine wp_region_any (by kernel_rfl) ?_
            change wpAny _ _ _ _ _ _ _ (World.drew _)
            refine wpAny_take (i := 0) (v := ?vq0) rfl (by kernel_rfl) (by kernel_rfl) (by kernel_rfl) (fun _ _ _ h => h) (Or.inl ⟨by rfl, ?hq0⟩) ?rq0
            case hq0 => intro w; go_simp <;> with_reducible rfl
            refine wpAny_take (i := 1) (v := ?vq1) rfl (by kernel_rfl) (by kernel_rfl) (by kernel_rfl) (fun _ _ _ h => h) (Or.inl ⟨by rfl, ?hq1⟩) ?rq1
            case hq1 => intro w; go_simp <;> with_reducible rfl
            refine wpAny_take (i := 2) (v := ?vq2) rfl (by kernel_rfl) (by kernel_rfl) (by kernel_rfl) (fun _ _ _ h => h) (Or.inl ⟨by rfl, ?hq2⟩) ?rq2
            case hq2 => intro w; go_simp <;> with_reducible rfl
            refine wpAny_take (i := 3) (v := ?vq3) rfl (by kernel_rfl) (by kernel_rfl) (by kernel_rfl) (fun _ _ _ h => h) (Or.inl ⟨by rfl, ?hq3⟩) ?rq3
            case hq3 => intro w; go_simp <;> with_reducible rfl
            refine wpAny_take (i := 4) (v := ?vq4) rfl (by kernel_rfl) (by kernel_rfl) (by kernel_rfl) (fun _ _ _ h => h) (Or.inl ⟨by rfl, ?hq4⟩) ?rq4
            case hq4 => intro w; go_simp <;> with_reducible rfl
            refine wpAny_take (i := 5) (v := ?vq5) rfl (by kernel_rfl) (by kernel_rfl) (by kernel_rfl) (fun _ _ _ h => h) (Or.inl ⟨by rfl, ?hq5⟩) ?rq5
            case hq5 => intro w; go_simp <;> with_reducible rfl
            refine wpAny_take (i := 6) (v := ?vq6) rfl (by kernel_rfl) (by kernel_rfl) (by kernel_rfl) (fun _ _ _ h => h) (Or.inl ⟨by rfl, ?hq6⟩) ?rq6
            case hq6 => intro w; go_simp <;> with_reducible rfl
            refine wpAny_ready (rs := [7]) (by kernel_rfl) (by simp) ?_
            refine AllReady.cons rfl (fun K hK => ?_) AllReady.nil
            go_simp
            refine hK _ _ ?_
            clear hK K
            refine wpAny_ready (rs := [8]) (by kernel_rfl) (by simp) ?_
            refine AllReady.cons rfl (fun K hK => ?_) AllReady.nil
            have hgd : w4.grownBy (w4.alloc (.cells #[.int .u8 92, .int .u8 117, .int .u8 48, .int .u8 48, .int .u8 (hexD (c / 16)), .int .u8 (hexD (c % 16))] 5)).drew none := grown_drewN (World.grownBy_alloc w4 _ none) 1
            refine step_append_bytes rfl (.tmp 32) (.tmp 39) rfl base u0 acc' [92, 117, 48, 48, hexD (c / 16), hexD (c % 16)] rfl (own_none_grown Ho4.out hgd) w4.heap.size 6 rfl (Row.new w4 [.int .u8 92, .int .u8 117, .int .u8 48, .int .u8 48, .int .u8 (hexD (c / 16)), .int .u8 (hexD (c % 16))] 5) (by have := HL.out; simp; omega) (by have := HK4.out.size; have := hgd.size; omega) ?_
            intro v6 w6 ho6 hg6
            refine hK _ _ ?_
            clear hK K
            have Ho6 := Lib.hid ho6
            have HI6 := Lib.hid ((HI4.out.grown hgd (by simp)).grown hg6 (iter_own (HI4.out.grown hgd (by simp)) (own_none_grown Ho4.out hgd)))
            have HK6 := Lib.hid ((HK4.out.grown hgd).own (own_none_grown Ho4.out hgd) hg6)
            clear ho6 hg6 hgd
            refine wpAny_ready (rs := [9]) (by kernel_rfl) (by simp) ?_
            refine AllReady.cons rfl (fun K hK => ?_) AllReady.nil
            go_simp
            refine hK _ _ ?_
            clear hK K
            refine ⟨by kernel_rfl, ?_⟩
            go_wp2_with fail
            go_roundg (s.size - (p + 1))
            case measure => omega
            case rel => exact ⟨p + 1, acc' ++ [92, 117, 48, 48, hexD (c / 16), hexD (c % 16)], by omega, rfl, HI6, Ho6, HU2, HR2, HL2, HK6⟩
          · have he : escB c = [c] := by
              have := HSH.out
              unfold escB
              rw [if_neg (by omega), if_neg (by omega), if_neg (by omega), if_neg (by omega), if_neg (by omega), if_neg (by omega), if_neg (by omega), if_neg h32]
            have HR2 := HRX.out _ he
            have HL2 := HLX.out [c] (by simp)
            have HX : Hid (Lib.encodeRuneZ c = [c]) := Lib.hid (Lib.encodeRuneZ_one (by omega) (by omega))
            clear he
            go_wp2_with (first
              | (have _ := w4; go_at_call 68; refine (appendRune_any base u0 acc' c w4 Ho4.out (by omega) (by omega) (by have := HL.out; omega) (by have := HK4.out.size; omega)).mono ?_; rintro e w6 ⟨v6, rfl, ho6, hg6⟩; rw [HX.out] at ho6; have Ho6 := Lib.hid ho6; have HI6 := Lib.hid (HI4.out.grown hg6 (iter_own HI4.out Ho4.out)); have HK6 := Lib.hid (HK4.out.own Ho4.out hg6); clear ho6 hg6)
              | (have _ := w4; go_at_call 57; refine (HIX.out w4).mono ?_; rintro e w5 ⟨rfl, rfl⟩)
              | (refine wpList_next_yes rfl _ rfl it rfl s p HI.out hlt ?_; intro w4 hi4 hg4 hs4; rw [HD1.out]; rw [HD2.out] at hi4; have HI4 := Lib.hid hi4; have Ho4 := Lib.hid (own_kept_iter HI.out Ho.out hg4); have HK4 := Lib.hid (HK.out.new hg4 HIT.out); clear hi4 hg4 hs4; simp only [Act.put, List.setIfInBounds_toArray, List.set_cons_zero, List.set_cons_succ]))
            go_roundg (s.size - (p + 1))
            case measure => omega
            case rel => exact ⟨p + 1, acc' ++ [c], by omega, rfl, HI6, Ho6, HU2, HR2, HL2, HK6⟩
      · have hu := HU.out
        rw [utfFrom_step hlt] at hu
        obtain ⟨n, hn⟩ : ∃ n, wholeAt s p = n := ⟨_, rfl⟩
        have hhigh := whole_high hlt (by omega)
        rw [hn] at hu hhigh
        rcases rune_spec hlt with ⟨h1, _⟩ | ⟨h1, h2, h3, h4, h5, h6, h7, h8⟩
        · rw [h1] at hn; subst hn; simp at hu
        · rw [hn] at h1 h2 h3 h4 h7
          obtain ⟨r, hr⟩ : ∃ r : Int, (((Utf8.decode s p).1 : Nat) : Int) = r := ⟨_, rfl⟩
          have hr0 : 0 ≤ r := by omega
          have hr1 : r ≤ 1114111 := by omega
          have hr2 : ¬ (55296 ≤ r ∧ r ≤ 57343) := by omega
          rw [hr] at h7
          have hr3 : 128 ≤ r := by
            rcases Int.lt_or_le r 128 with hlo | hlo
            · rw [Lib.encodeRuneZ_one hr0 (by omega)] at h7
              have := hhigh r (by rw [← h7]; simp)
              omega
            · exact hlo
          have HD1 := Lib.hid hr
          have HD2 := Lib.hid h3
          have hrs := restAt_step (s := s) (i := p) (n := n) h4
          have HE : Hid (escS (restAt s p) = bytesAt s p n ++ escS (restAt s (p + n))) := Lib.hid (by rw [hrs, escS_append, escS_high hhigh])
          have HU2 : Hid (utfFrom s (p + n) = true) := Lib.hid (by rw [if_neg (by omega)] at hu; exact hu)
          have HX := Lib.hid h7
          have HR2 : Hid ((acc' ++ bytesAt s p n) ++ (escS (restAt s (p + n)) ++ [34]) = RES) := Lib.hid (by rw [← HRR.out, HE.out]; simp)
          have HL2 : Hid ((acc' ++ bytesAt s p n).length + 6 * (s.size - (p + n)) ≤ acc.length + 1 + 6 * s.size) := Lib.hid (by have := HL.out; rw [List.length_append, bytesAt_length]; omega)
          have HIX : Hid (∀ W, Calls Tryz.prog 57 #[.string shorts, .int .i32 r] W fun e w' => e = .returned (.int .i64 (-1)) ∧ W.grownBy w' none) := Lib.hid (fun W => index_high r W hr3 hr1 hr2)
          have HPN := Lib.hid h4
          have HN1 := Lib.hid h1
          clear hu hn hhigh h1 h2 h3 h4 h5 h6 h7 h8 hr hr2 hrs HE HRR HU hc hg
          go_wp2_with (first
            | (have _ := w5; go_at_call 68; refine (appendRune_any base u0 acc' r w5 Ho5.out (by omega) (by omega) (by have := HL.out; omega) (by have := HK5.out.size; omega)).mono ?_; rintro e w6 ⟨v6, rfl, ho6, hg6⟩; rw [HX.out] at ho6; have Ho6 := Lib.hid ho6; have HI6 := Lib.hid (HI5.out.grown hg6 (iter_own HI5.out Ho5.out)); have HK6 := Lib.hid (HK5.out.own Ho5.out hg6); clear ho6 hg6)
            | (have _ := w4; go_at_call 57; refine (HIX.out w4).mono ?_; rintro e w5 ⟨rfl, hg5⟩; have HI5 := Lib.hid (HI4.out.grown hg5 (by simp)); have Ho5 := Lib.hid (own_none_grown Ho4.out hg5); have HK5 := Lib.hid (HK4.out.grown hg5); clear hg5)
            | (refine wpList_next_yes rfl _ rfl it rfl s p HI.out hlt ?_; intro w4 hi4 hg4 hs4; rw [HD1.out]; rw [HD2.out] at hi4; have HI4 := Lib.hid hi4; have Ho4 := Lib.hid (own_kept_iter HI.out Ho.out hg4); have HK4 := Lib.hid (HK.out.new hg4 HIT.out); clear hi4 hg4 hs4; simp only [Act.put, List.setIfInBounds_toArray, List.set_cons_zero, List.set_cons_succ]))
          go_roundg (s.size - (p + n))
          case measure => have := HPN.out; have := HN1.out; omega
          case rel => exact ⟨p + n, acc' ++ bytesAt s p n, HPN.out, rfl, HI6, Ho6, HU2, HR2, HL2, HK6⟩
    · obtain rfl : p = s.size := by omega
      have HE : Hid (acc' ++ [34] = RES) := Lib.hid (by rw [← HRR.out, restAt_end (Nat.le_refl _)]; rfl)
      go_wp2_with (first
        | (have _ := w1; refine wpList_append_bytes rfl (.tmp 41) (.tmp 42) rfl base u0 acc' [34] rfl (own_none_grown Ho.out hg1) (some ⟨wr.heap.size, 0, none⟩) 1 rfl (by intro h; cases h) (src_build hr1) (by have := HL.out; simp; omega) (by have := HK.out.size; have := hg1.size; omega) ?_; intro v2 w2 ho2 hg2; simp only [Act.put, List.setIfInBounds_toArray, List.set_cons_zero, List.set_cons_succ]
           have Ho2 := Lib.hid ho2; have HK2 := Lib.hid ((HK.out.grown hg1).own (own_none_grown Ho.out hg1) hg2); clear ho2 hg2 hr1 hg1)
        | (refine wpList_build1 rfl 41 5 (.const (.int .u8 34)) rfl Tryz.underlying41 (.int .u8 34) rfl _ info5 (by kernel_rfl) (.int .u8 0) (by kernel_rfl) rfl rfl ?_; intro w1 hr1 hg1 hs1; clear hs1; simp only [Act.put, List.setIfInBounds_toArray, List.set_cons_zero, List.set_cons_succ])
        | (refine wpList_next_no rfl _ rfl it rfl s s.size HI.out (Nat.lt_irrefl _) ?_; simp only [Act.put, List.setIfInBounds_toArray, List.set_cons_zero, List.set_cons_succ]))
      go_ret
      rw [← HE.out]
      exact ⟨_, rfl, Ho2.out, HK2.out⟩
end
end Go.Proofs.YtlbilofnbhhmjaaGreatDoor
