/- Slices of bytes that the call itself appends to; the small functions of the statements' own help: copies, what is the same. -/
import Derived.Test.YtkfdaeipfjcibaaDoorMac
import Derived.Laws.AppendOwnNone
import Derived.Lib.ConvBytes
namespace Go.Proofs.YtkfdaeipfjcibaaDoor
open Go.RowKit
set_option linter.unusedVariables false
set_option linter.unusedSimpArgs false
/-- A slice of the call's own that holds these bytes. -/
def Own (w : World) (base : Nat) (v : Value) (l : List Int) : Prop := w.ownsRow base 5 1 v l.length (l.map (Value.int .u8))
theorem own_nil (w : World) (base : Nat) : Own w base (.slice none 0 0) [] := World.ownsRow_nil w base 5 1
theorem own_slice {w : World} {base : Nat} {v : Value} {l : List Int} (h : Own w base v l) : ∃ (A : Option Addr) (c : Nat), v = .slice A l.length c ∧ (A = none → l = [] ∧ c = 0) ∧ l.length ≤ c ∧ Src w A l ∧
    ∀ a, A = some a → base ≤ a.block ∧ a.block < w.heap.size := by
  rcases h.2 with ⟨rfl, h0⟩ | ⟨g, cap, cur, rfl, hb, hg, hn, hm, hs, ht⟩
  · have : l = [] := List.eq_nil_of_length_eq_zero h0
    subst this
    exact ⟨none, 0, rfl, fun _ => ⟨rfl, rfl⟩, Nat.le_refl _, fun h => absurd h (by simp), by intro a ha; cases ha⟩
  · refine ⟨some ⟨g, 0, none⟩, cap, rfl, (by intro h; cases h), hn, fun _ => ⟨_, rfl, rfl, fun j hj => ?_⟩, ?_⟩
    · rw [World.ownsRow.cellAt h (0 + j) (by omega)]; simp [hj]
    · intro a ha; simp at ha; subst ha; exact ⟨hb, (Array.getElem?_eq_some_iff.1 hg).1⟩
theorem Own.grown {w w' : World} {base : Nat} {v : Value} {l : List Int} {row : Option Nat} (h : Own w base v l) (hg : w.grownBy w' row) (hne : v.ownBlock = none ∨ v.ownBlock ≠ row) : Own w' base v l := World.ownsRow.kept h hg hne
theorem Own.mono {w : World} {base b2 : Nat} {v : Value} {l : List Int} (h : Own w base v l) (hb : b2 ≤ base) : Own w b2 v l := by
  refine ⟨h.1, ?_⟩
  rcases h.2 with h | ⟨g, cap, cur, h1, h2, h3⟩
  · exact .inl h
  · exact .inr ⟨g, cap, cur, h1, Nat.le_trans hb h2, h3⟩
theorem Own.block {w : World} {base : Nat} {v : Value} {l : List Int} (h : Own w base v l) : ∀ i, v.ownBlock = some i → base ≤ i ∧ i < w.heap.size := World.ownsRow.lt h
theorem src_list {w : World} {A : Option Addr} {y : List Int} (h : Src w A y) {a : Addr} (ha : A = some a) : ∀ (j : Nat) u, (y.map (Value.int .u8))[j]? = some u → w.cell? (a.add j) = some u := fun j u hu => by
  have hj : j < y.length := by have := (List.getElem?_eq_some_iff.1 hu).1; simpa using this
  obtain ⟨ad, had, hc⟩ := src_copy h (by simp; omega)
  obtain rfl := Option.some.inj (had.symm.trans ha)
  exact hc j u hu
theorem wpList_append_bytes {ops : Array Oper} {rest : List Oper} {o : Oper} {a : Act} {w : World} {Q : Exit → Act → World → Prop} (hgd : o.guard = none) (s x : Operand)
    (ho : o.op = .call { callee := .builtin .append, args := #[s, x], argTypes := #[22, 22] }) (base : Nat) (v : Value) (l y : List Int) (hs : a.eval s = v) (hown : Own w base v l)
    (A : Option Addr) (c : Nat) (hx : a.eval x = .slice A y.length c) (hA : A = none → y = [] ∧ c = 0) (hsrc : Src w A y) (hsz : l.length + y.length ≤ 1099511627776) (hbase : base ≤ w.heap.size)
    (h : ∀ v' w', Own w' base v' (l ++ y) → w.grownBy w' v.ownBlock → wpList Tryd.prog ops Q rest (a.put o.dst v') w') : wpList Tryd.prog ops Q (o :: rest) a w := by
  cases A with
  | none =>
    obtain ⟨rfl, rfl⟩ := hA rfl
    exact wpList_append_own_none hgd s x 22 ho base 5 _ 1 Tryd.underlying22 info5 v l.length _ hs hown hx (h v w (by rw [List.append_nil]; exact hown) (grown_refl _ _))
  | some ad =>
    refine wpList_append_own w hgd s x 22 ho base 5 _ (.int .u8 0) 1 1 Tryd.underlying22 info5 (by kernel_rfl) (by kernel_rfl) (by kernel_rfl) rfl (by decide) v l.length _ hs hown ad y.length c (y.map (Value.int .u8)) hx (by simp) (src_list hsrc rfl) (oneCell_bytes y)
      (by unfold maxLen; omega) (by omega) hbase (fun v' w' h1 h2 _ => h v' w' ?_ h2)
    unfold Own
    rw [List.map_append, List.length_append]; exact h1
theorem src_build {w : World} {g : Nat} {v : Int} (h : Row w g 5 [.int .u8 v]) : Src w (some ⟨g, 0, none⟩) [v] := src_one h
set_option maxHeartbeats 400000 in
theorem copyBytes_any (A : Option Addr) (c : Nat) (x : List Int) (w : World) (hA : A = none → x = [] ∧ c = 0) (hx : Src w A x) (hsz : x.length ≤ 1073741824) :
    Calls Tryd.prog 18 #[.slice A x.length c] w fun e w' => ∃ v, e = .returned v ∧ Own w' w.heap.size v x ∧ w.grownBy w' none := by
  have HX := Lib.hid hx
  have HA := Lib.hid hA
  clear hx hA
  go_enter Tryd.func18, Tryd.ntmps18
  go_wp2_with (refine wpList_append_bytes rfl (.tmp 4) (.tmp 5) rfl w.heap.size _ [] x rfl (own_nil w _) A c rfl HA.out HX.out (by simp; omega) (Nat.le_refl _) ?_; intro v' w1 ho1 hg1; simp only [Act.put, List.setIfInBounds_toArray, List.set_cons_zero, List.set_cons_succ])
  go_ret
  exact ⟨_, rfl, ho1, hg1⟩
end Go.Proofs.YtkfdaeipfjcibaaDoor
