/- The reference's reader: what reading a value does; a list. The reference's reader: what a round of an object's reading keeps. -/
import Derived.Test.YtlbilofnbhhmjaaDoorRKey
import Derived.Test.YtlbilofnbhhmjaaDoorList
import Derived.Test.YtlbilofnbhhmjaaDoorOb
namespace Go.Proofs.YtlbilofnbhhmjaaDoor
section
open Go.RowKit
set_option linter.unusedVariables false
set_option linter.unusedSimpArgs false
/-- What a method of the reference's reader does that reads a value. -/
def RDoesJ (r : R J) (b : Nat) (s : ByteArray) (w : World) (e : Ending) (w' : World) : Prop :=
  w.grownBy w' (some b) ∧ match r with
    | .ok v j => ∃ cs F, e = .returned (.agg cs.toArray) ∧ JAt w' w.heap.size v cs F ∧ Sc w' b s j 0
    | .no j er => (∃ cs : List Value, e = .returned (.agg cs.toArray) ∧ cs.length = 5 ∧ ∀ u ∈ cs, u.oneCell' = true) ∧ Sc w' b s j er ∧ er ≠ 0
theorem RDoesJ.ok {r : R J} {b : Nat} {s : ByteArray} {w w' : World} {e : Ending} (h : RDoesJ r b s w e w') {v : J} {j : Nat} (hr : r = .ok v j) :
    ∃ cs F, e = .returned (.agg cs.toArray) ∧ JAt w' w.heap.size v cs F ∧ Sc w' b s j 0 ∧ w.grownBy w' (some b) := by
  subst hr; obtain ⟨hg, cs, F, h1, h2, h3⟩ := h; exact ⟨cs, F, h1, h2, h3, hg⟩
theorem RDoesJ.no {r : R J} {b : Nat} {s : ByteArray} {w w' : World} {e : Ending} (h : RDoesJ r b s w e w') {er : Int} {j : Nat} (hr : r = .no j er) :
    ∃ cs : List Value, e = .returned (.agg cs.toArray) ∧ cs.length = 5 ∧ (∀ u ∈ cs, u.oneCell' = true) ∧ Sc w' b s j er ∧ er ≠ 0 ∧ w.grownBy w' (some b) := by
  subst hr; obtain ⟨hg, ⟨cs, h1, h2, h3⟩, h4, h5⟩ := h; exact ⟨cs, h1, h2, h3, h4, h5, hg⟩
/-- What is known of the reading of values one depth further in. -/
structure RValIs (s : ByteArray) (b : Nat) (dep : Int) (val : Nat → R J) : Prop where
  calls : ∀ (i : Nat) (w : World), Sc w b s i 0 → i ≤ s.size → Calls Tryd.prog 36 #[.pointer (some ⟨b, 0, none⟩), .int .i64 (dep + 1)] w (RDoesJ (val i) b s w)
  fwd : ∀ i v j, i ≤ s.size → val i = .ok v j → i < j ∧ j ≤ s.size
/-- The reader, the result's block, the list that is made (its keys are vk), and the values that it has so far. -/
structure RLs (W wr : World) (b : Nat) (s : ByteArray) (p : Nat) (e : Int) (N Br Bj : Nat) (kd : Int) (vk : Value) (ls : List J) (vl : Value) : Prop where
  rd : Sc wr b s p e
  res : Row wr Br 29 zero5
  loc : Row wr Bj 29 (five kd vk vl)
  grown : W.grownBy wr (some b)
  big : N ≤ wr.heap.size
theorem RLs.keep {W wr w2 : World} {b p p' N Br Bj : Nat} {s : ByteArray} {e e' : Int} {kd : Int} {vk vl : Value} {ls : List J} (h : RLs W wr b s p e N Br Bj kd vk ls vl) (hg : wr.grownBy w2 (some b)) (hr : Sc w2 b s p' e') (h1 : Br ≠ b) (h2 : Bj ≠ b) : RLs W w2 b s p' e' N Br Bj kd vk ls vl :=
  ⟨hr, h.res.grown hg (by simpa using h1), h.loc.grown hg (by simpa using h2), grown_trans h.grown hg, Nat.le_trans h.big hg.size⟩
/-- One value more in the list. -/
theorem RLs.step {W w1 w2 w3 w4 : World} {b q j N Br Bj : Nat} {s : ByteArray} {kd : Int} {vk vl vl' : Value} {ls : List J} {v : J} {xs cs : List Value} {G F : List Nat} (h : RLs W w1 b s q 0 N Br Bj kd vk ls vl) (hR : Rows_ w1 N ls vl xs G) (hg2 : w1.grownBy w2 (some b)) (hrd : Sc w2 b s j 0)
    (hj : JAt w2 w1.heap.size v cs F) (hg3 : w2.grownBy w3 none) (ho : w4.ownsRow N 29 5 vl' (ls.length + 1) (xs ++ cs)) (hg4 : w3.grownBy w4 vl.ownBlock) (hl : ∀ k, vl'.ownBlock = some k → vl.ownBlock = some k ∨ w3.heap.size ≤ k)
    (hW : W.heap.size ≤ Br) (hb : b < Br) (h1 : Br < Bj) (h2 : Bj < N) :
    RLs W (w4.setCell ⟨Bj, 4, none⟩ vl') b s j 0 N Br Bj kd vk (ls ++ [v]) vl' ∧ Rows_ (w4.setCell ⟨Bj, 4, none⟩ vl') N (ls ++ [v]) vl' (xs ++ cs) (G ++ F) := by
  have hv : ∀ k, vl.ownBlock = some k → N ≤ k := fun k hk => (World.ownsRow.lt hR.1 k hk).1
  have hne : ∀ x, x < N → some x ≠ vl.ownBlock := fun x hx e => by have := hv x e.symm; omega
  have hgs : w4.grownBy (w4.setCell ⟨Bj, 4, none⟩ vl') (some Bj) := grown_set (grown_refl _ _) (.inl rfl) _ _
  have k4 : w1.grownBy w4 (some b) ∨ True := .inr trivial
  have rb : Row w4 Bj 29 (five kd vk vl) := ((h.loc.grown hg2 (by simp; omega)).grown hg3 (by simp)).grown hg4 (hne Bj h2)
  have rr : Row w4 Br 29 zero5 := ((h.res.grown hg2 (by simp; omega)).grown hg3 (by simp)).grown hg4 (hne Br (by omega))
  have rd4 : Sc w4 b s j 0 := (hrd.grown hg3 (by simp)).grown hg4 (hne b (by omega))
  have gw : W.grownBy w4 (some b) := grown_own (grown_own (grown_trans h.grown hg2) hg3 (by simp)) hg4 (fun x hx => .inr (by have := hv x hx; omega))
  have s2 := hg2.size
  have s3 := hg3.size
  have s4 := hg4.size
  have sN := h.big
  refine ⟨⟨rd4.grown hgs (by simp; omega), rr.grown hgs (by simp; omega), ?_, grown_set gw (.inr (by omega)) _ _, by simp; omega⟩, ?_⟩
  · have := rb.set 4 vl'
    exact this
  · exact (hR.snoc sN (by omega) hg2 hj hg3 ho hg4 hl).kept hgs (fun g hg _ e => by have := Option.some.inj e; omega)
/-- The value is laid into the result's block, the reader stands behind the bracket. -/
theorem RLs.done {W w1 w2 : World} {b q N Br Bj : Nat} {s : ByteArray} {kd : Int} {vk vl : Value} {ls : List J} {xs : List Value} {G : List Nat} {ks : List ByteArray} (h : RLs W w1 b s q 0 N Br Bj kd vk ls vl) (hR : Rows_ w1 N ls vl xs G)
    (hk : w1.ownsRow N 9 1 vk ks.length (ks.map Value.string)) (hd : ∀ g, vk.ownBlock = some g → g ∉ obs vl ++ G) (hr : Row w2 Br 29 (five kd vk vl)) (hg : (w1.setCell ⟨b, 1, none⟩ (.int .i64 ((q : Int) + 1))).grownBy w2 (some Br))
    (hW : W.heap.size ≤ Br) (hb : b < Br) (hN : Br < N) : RDoesJ (.ok (.mk kd false ⟨#[]⟩ ks ls) (q + 1)) b s W (.returned (.agg (five kd vk vl).toArray)) w2 := by
  have hgs : w1.grownBy (w1.setCell ⟨b, 1, none⟩ (.int .i64 ((q : Int) + 1))) (some b) := grown_set (grown_refl _ _) (.inl rfl) _ _
  have hs : (w1.setCell ⟨b, 1, none⟩ (.int .i64 ((q : Int) + 1))).heap.size = w1.heap.size := by simp
  have hR2 : Rows_ w2 N ls vl xs G := (hR.kept hgs (fun g h1 h2 e => by have := Option.some.inj e; omega)).kept hg (fun g h1 h2 e => by have := Option.some.inj e; omega)
  have hkb : ∀ x, x < N → vk.ownBlock = none ∨ vk.ownBlock ≠ some x := fun x hx => by
    cases hb : vk.ownBlock with
    | none => exact .inl rfl
    | some g => right; intro e; have := (World.ownsRow.lt hk g hb).1; have := Option.some.inj e; omega
  have hk2 : w2.ownsRow N 9 1 vk ks.length (ks.map Value.string) := World.ownsRow.kept (World.ownsRow.kept hk hgs (hkb b (by omega))) hg (hkb Br hN)
  refine ⟨grown_own (grown_trans h.grown hgs) hg (fun x hx => .inr (by have := Option.some.inj hx; omega)), five kd vk vl, _, rfl, hR2.shut hk2 hd (by omega), ?_⟩
  exact Sc.grown (Sc.set h.rd (q + 1)) hg (by simp; omega)
/-- Reading has failed: what was made so far is handed out. -/
theorem RLs.no {W w1 w2 : World} {b q N Br Bj : Nat} {s : ByteArray} {er : Int} {kd : Int} {vk vl : Value} {ls : List J} (h : RLs W w1 b s q er N Br Bj kd vk ls vl) (hne : er ≠ 0) (h5 : ∀ u ∈ five kd vk vl, u.oneCell' = true)
    (hg : w1.grownBy w2 (some Br)) (hW : W.heap.size ≤ Br) (hb : b < Br) : RDoesJ (.no q er) b s W (.returned (.agg (five kd vk vl).toArray)) w2 :=
  ⟨grown_own h.grown hg (fun x hx => .inr (by have := Option.some.inj hx; omega)), ⟨_, rfl, rfl, h5⟩, Sc.grown h.rd hg (by simp; omega), hne⟩
theorem five_one {kd : Int} {A B : Option Addr} {n c m d : Nat} : ∀ u ∈ five kd (.slice A n c) (.slice B m d), u.oneCell' = true := by
  intro u hu; simp [five] at hu; rcases hu with rfl | rfl | rfl | rfl | rfl <;> rfl
section
variable {ops : Array Oper} {rest : List Oper} {o : Oper} {a : Act} {w : World} {Q : Exit → Act → World → Prop}
theorem wpList_build29 (hgd : o.guard = none) (x : Operand) (ho : o.op = .buildSlice 27 1 #[(0, x)]) (cs : List Value) (hx : a.eval x = .agg cs.toArray) (hcs : cs.length = 5)
    (h : ∀ w', Row w' w.heap.size 29 cs → w.grownBy w' none → wpList Tryd.prog ops Q rest (a.put o.dst (.slice (some ⟨w.heap.size, 0, none⟩) 1 1)) w') : wpList Tryd.prog ops Q (o :: rest) a w :=
  wpList_plain hgd fun K hK => by
    match cs, hcs with
    | [p, q, r, s, t], _ =>
      have hrun := run_build29 w p q r s t
      unfold Oper.wp execOp
      simp only [ho, List.map_toArray, List.map_cons, List.map_nil, hx, Sem.run_bind, hrun, Result.andThen_ok]
      exact hK _ _ (h _ (Row.new w [p, q, r, s, t] 29) (grown_new _ _).1)
theorem wpList_append29 (hgd : o.guard = none) (s x : Operand) (ho : o.op = .call { callee := .builtin .append, args := #[s, x], argTypes := #[27, 27] })
    (base : Nat) (v : Value) (n : Nat) (xs : List Value) (hs : a.eval s = v) (hown : w.ownsRow base 29 5 v n xs) (g : Nat) (cs : List Value) (hx : a.eval x = .slice (some ⟨g, 0, none⟩) 1 1) (hrow : Row w g 29 cs) (hcs : cs.length = 5) (h1 : ∀ u ∈ cs, u.oneCell' = true)
    (hn : n ≤ 1073741824) (hbase : base ≤ w.heap.size)
    (h : ∀ v' w', w'.ownsRow base 29 5 v' (n + 1) (xs ++ cs) → w.grownBy w' v.ownBlock → (∀ k, v'.ownBlock = some k → v.ownBlock = some k ∨ w.heap.size ≤ k) → wpList Tryd.prog ops Q rest (a.put o.dst v') w') : wpList Tryd.prog ops Q (o :: rest) a w :=
  wpList_plain hgd fun K hK => by
    obtain ⟨v', w', hr, h2, h3, h4⟩ := run_append_block (P := Tryd.prog) w base 27 o.type 29 _ _ 5 72 Tryd.underlying27 info29 zi29 si29 bi29 rfl (by decide) v n xs hown ⟨g, 0, none⟩ 1 1 cs (by omega) (row_news hrow) h1 (by unfold maxLen; omega) (by omega) hbase
    unfold Oper.wp execOp
    simp only [ho, resolve, invoke, builtin, Sem.run_bind, Sem.run_pure, Result.andThen_ok, List.map_toArray, List.map_cons, List.map_nil, hs, hx, hr]
    exact hK _ _ (h _ _ h2 h3 h4)
theorem wpList_build9 (hgd : o.guard = none) (x : Operand) (ho : o.op = .buildSlice 26 1 #[(0, x)]) (s : ByteArray) (hx : a.eval x = .string s)
    (h : ∀ w', Row w' w.heap.size 9 [.string s] → w.grownBy w' none → wpList Tryd.prog ops Q rest (a.put o.dst (.slice (some ⟨w.heap.size, 0, none⟩) 1 1)) w') : wpList Tryd.prog ops Q (o :: rest) a w :=
  wpList_plain hgd fun K hK => by
    have hrun := run_build9 w s
    unfold Oper.wp execOp
    simp only [ho, List.map_toArray, List.map_cons, List.map_nil, hx, Sem.run_bind, hrun, Result.andThen_ok]
    exact hK _ _ (h _ (Row.new w [.string s] 9) (grown_new _ _).1)
theorem wpList_append9 (hgd : o.guard = none) (s x : Operand) (ho : o.op = .call { callee := .builtin .append, args := #[s, x], argTypes := #[26, 26] })
    (base : Nat) (v : Value) (n : Nat) (xs : List Value) (hs : a.eval s = v) (hown : w.ownsRow base 9 1 v n xs) (g : Nat) (u : ByteArray) (hx : a.eval x = .slice (some ⟨g, 0, none⟩) 1 1) (hrow : Row w g 9 [.string u])
    (hn : n ≤ 1073741824) (hbase : base ≤ w.heap.size)
    (h : ∀ v' w', w'.ownsRow base 9 1 v' (n + 1) (xs ++ [.string u]) → w.grownBy w' v.ownBlock → (∀ k, v'.ownBlock = some k → v.ownBlock = some k ∨ w.heap.size ≤ k) → wpList Tryd.prog ops Q rest (a.put o.dst v') w') : wpList Tryd.prog ops Q (o :: rest) a w :=
  wpList_plain hgd fun K hK => by
    obtain ⟨v', w', hr, h2, h3, h4⟩ := run_append_block (P := Tryd.prog) w base 26 o.type 9 _ _ 1 16 Tryd.underlying26 info9 zi9 si9 bi9 rfl (by decide) v n xs hown ⟨g, 0, none⟩ 1 1 [.string u] rfl (row_news hrow) (by intro y hy; simp at hy; subst hy; rfl) (by unfold maxLen; omega) (by omega) hbase
    unfold Oper.wp execOp
    simp only [ho, resolve, invoke, builtin, Sem.run_bind, Sem.run_pure, Result.andThen_ok, List.map_toArray, List.map_cons, List.map_nil, hs, hx, hr]
    exact hK _ _ (h _ _ h2 h3 h4)
end
end
section
open Go.RowKit
set_option linter.unusedVariables false
set_option linter.unusedSimpArgs false
/-- An object that is read: the list that it has, the keys, all rows apart. -/
structure ROb (W wr : World) (b : Nat) (s : ByteArray) (p : Nat) (e : Int) (N Br Bj : Nat) (ks : List ByteArray) (ls : List J) (vk vl : Value) (xs : List Value) (G : List Nat) : Prop where
  at_ : RLs W wr b s p e N Br Bj 5 vk ls vl
  rows : Rows_ wr N ls vl xs G
  keys : wr.ownsRow N 9 1 vk ks.length (ks.map Value.string)
  apart : ∀ g, vk.ownBlock = some g → g ∉ obs vl ++ G
section
variable {W wr : World} {b p N Br Bj : Nat} {s : ByteArray} {e : Int} {ks : List ByteArray} {ls : List J} {vk vl : Value} {xs : List Value} {G : List Nat}
theorem ROb.kept {w2 : World} {p' : Nat} {e' : Int} (h : ROb W wr b s p e N Br Bj ks ls vk vl xs G) (hg : wr.grownBy w2 (some b)) (hr : Sc w2 b s p' e') (h1 : Br ≠ b) (h2 : Bj ≠ b) (h3 : b < N) : ROb W w2 b s p' e' N Br Bj ks ls vk vl xs G :=
  ⟨h.at_.keep hg hr h1 h2, h.rows.kept hg (fun g h1 h2 e => by have := Option.some.inj e; omega), World.ownsRow.kept h.keys hg (own_ne h.keys h3), h.apart⟩
theorem ROb.quiet {w2 : World} (h : ROb W wr b s p e N Br Bj ks ls vk vl xs G) (hg : wr.grownBy w2 none) : ROb W w2 b s p e N Br Bj ks ls vk vl xs G :=
  ⟨⟨h.at_.rd.grown hg (by simp), h.at_.res.grown hg (by simp), h.at_.loc.grown hg (by simp), grown_own h.at_.grown hg (by simp), Nat.le_trans h.at_.big hg.size⟩,
    h.rows.kept hg (fun g h1 h2 => by simp), World.ownsRow.kept h.keys hg (own_none (w := wr) vk), h.apart⟩
/-- One key more. -/
theorem ROb.key {w3 w4 : World} {vk' : Value} {k : ByteArray} (h : ROb W wr b s p e N Br Bj ks ls vk vl xs G) (hg3 : wr.grownBy w3 none) (ho : w4.ownsRow N 9 1 vk' (ks.length + 1) (ks.map Value.string ++ [.string k])) (hg4 : w3.grownBy w4 vk.ownBlock) (hl : ∀ g, vk'.ownBlock = some g → vk.ownBlock = some g ∨ w3.heap.size ≤ g)
    (hW : W.heap.size ≤ Br) (hb : b < Br) (h1 : Br < Bj) (h2 : Bj < N) : ROb W (w4.setCell ⟨Bj, 3, none⟩ vk') b s p e N Br Bj (ks ++ [k]) ls vk' vl xs G := by
  have hv : ∀ g, vk.ownBlock = some g → N ≤ g := fun g hg => (World.ownsRow.lt h.keys g hg).1
  have hne : ∀ x, x < N → some x ≠ vk.ownBlock := fun x hx e => by have := hv x e.symm; omega
  have h0 := h.quiet hg3
  have s3 := hg3.size
  have s4 := hg4.size
  have sN := h.at_.big
  have hgs : w4.grownBy (w4.setCell ⟨Bj, 3, none⟩ vk') (some Bj) := grown_set (grown_refl _ _) (.inl rfl) _ _
  have rb := (h0.at_.loc.grown hg4 (hne Bj h2)).set 3 vk'
  have hG := h.rows.2.1.lt
  have hvl : ∀ g, vl.ownBlock = some g → N ≤ g ∧ g < wr.heap.size := World.ownsRow.lt h.rows.1
  refine ⟨⟨(h0.at_.rd.grown hg4 (hne b (by omega))).grown hgs (by simp; omega), (h0.at_.res.grown hg4 (hne Br (by omega))).grown hgs (by simp; omega), rb, grown_set (grown_own (grown_own h.at_.grown hg3 (by simp)) hg4 (fun x hx => .inr (by have := hv x hx; omega))) (.inr (by omega)) _ _, by simp; omega⟩, ?_, ?_, fun g hg hm => ?_⟩
  · refine Rows_.kept ?_ hgs (fun g h1 _ e => by have := Option.some.inj e; omega)
    obtain ⟨q1, q2, q3⟩ := h0.rows
    refine ⟨World.ownsRow.kept q1 hg4 ?_, q2.kept hg4 (fun g hg e => h.apart g e.symm (by simp [hg])), q3⟩
    cases hb2 : vl.ownBlock with
    | none => exact .inl rfl
    | some g => right; intro e; exact h.apart g e.symm (by simp [obs_mem.2 hb2])
  · have hk := World.ownsRow.kept ho hgs (own_ne ho h2)
    simpa using hk
  · rcases hl g hg with e | e
    · exact h.apart g e hm
    · rcases List.mem_append.1 hm with hm | hm
      · have := hvl g (obs_mem.1 hm); omega
      · have := hG g hm; omega
/-- One value more, that lies apart. -/
theorem ROb.val {w3 w4 : World} {vl' : Value} {v : J} {cs : List Value} {F : List Nat} (h : ROb W wr b s p e N Br Bj ks ls vk vl xs G) (hj : JAt wr N v cs F) (hF : ∀ g ∈ F, g ∉ obs vl ++ G ∧ vk.ownBlock ≠ some g)
    (hg3 : wr.grownBy w3 none) (ho : w4.ownsRow N 29 5 vl' (ls.length + 1) (xs ++ cs)) (hg4 : w3.grownBy w4 vl.ownBlock) (hl : ∀ k, vl'.ownBlock = some k → vl.ownBlock = some k ∨ w3.heap.size ≤ k)
    (hW : W.heap.size ≤ Br) (hb : b < Br) (h1 : Br < Bj) (h2 : Bj < N) :
    ROb W (w4.setCell ⟨Bj, 4, none⟩ vl') b s p e N Br Bj ks (ls ++ [v]) vk vl' (xs ++ cs) (G ++ F) := by
  have hv : ∀ k, vl.ownBlock = some k → N ≤ k := fun k hk => (World.ownsRow.lt h.rows.1 k hk).1
  have hne : ∀ x, x < N → some x ≠ vl.ownBlock := fun x hx e => by have := hv x e.symm; omega
  have s3 := hg3.size
  have s4 := hg4.size
  have sN := h.at_.big
  have hgs : w4.grownBy (w4.setCell ⟨Bj, 4, none⟩ vl') (some Bj) := grown_set (grown_refl _ _) (.inl rfl) _ _
  have h0 := h.quiet hg3
  have hFl := hj.lt
  have hGl := h.rows.2.1.lt
  have hk : ∀ g, vk.ownBlock = some g → N ≤ g ∧ g < wr.heap.size := World.ownsRow.lt h.keys
  obtain ⟨q1, q2, q3⟩ := h0.rows
  have q3' := q3
  rw [List.nodup_append] at q3'
  have k2 : JsAt w4 N ls xs G := q2.kept hg4 (fun g hg e => q3'.2.2 g (obs_mem.2 e.symm) g hg rfl)
  have kj : JAt w4 N v cs F := (hj.kept hg3 (by simp)).kept hg4 (fun g hg e => (hF g hg).1 (by simp [obs_mem.2 e.symm]))
  have hd : ∀ g ∈ G, g ∉ F := fun g hg hf => (hF g hf).1 (by simp [hg])
  have rows4 : Rows_ w4 N (ls ++ [v]) vl' (xs ++ cs) (G ++ F) := by
    refine ⟨by rw [List.length_append]; exact ho, k2.snoc kj hd, ?_⟩
    have hs := (k2.snoc kj hd).nodup
    rw [List.nodup_append]
    refine ⟨by unfold obs; cases vl'.ownBlock <;> simp, hs, fun a ha c hc e => ?_⟩
    subst e
    have ha' := obs_mem.1 ha
    rcases hl a ha' with e | e
    · rcases List.mem_append.1 hc with hc | hc
      · exact q3'.2.2 a (obs_mem.2 e) a hc rfl
      · exact (hF a hc).1 (by simp [obs_mem.2 e])
    · rcases List.mem_append.1 hc with hc | hc
      · have := hGl a hc; omega
      · have := hFl a hc; omega
  refine ⟨⟨(h0.at_.rd.grown hg4 (hne b (by omega))).grown hgs (by simp; omega), (h0.at_.res.grown hg4 (hne Br (by omega))).grown hgs (by simp; omega), (h0.at_.loc.grown hg4 (hne Bj h2)).set 4 vl', grown_set (grown_own (grown_own h.at_.grown hg3 (by simp)) hg4 (fun x hx => .inr (by have := hv x hx; omega))) (.inr (by omega)) _ _, by simp; omega⟩,
    rows4.kept hgs (fun g h1 _ e => by have := Option.some.inj e; omega), ?_, fun g hg hm => ?_⟩
  · refine World.ownsRow.kept (World.ownsRow.kept h0.keys hg4 ?_) hgs (own_ne h.keys h2)
    cases hb2 : vk.ownBlock with
    | none => exact .inl rfl
    | some g => right; intro e; exact h.apart g hb2 (by simp [obs_mem.2 e.symm])
  · have hgk := hk g hg
    rcases List.mem_append.1 hm with hm | hm
    · rcases hl g (obs_mem.1 hm) with e | e
      · exact h.apart g hg (by simp [obs_mem.2 e])
      · omega
    · rcases List.mem_append.1 hm with hm | hm
      · exact h.apart g hg (by simp [hm])
      · exact (hF g hm).2 hg
/-- The keys are read where they lie. -/
theorem ROb.ksAt {A : Option Addr} {n c : Nat} (h : ROb W wr b s p e N Br Bj ks ls (.slice A n c) vl xs G) (hb : b < N) : KsAt wr b A ks := fun h0 => by
  obtain ⟨A', c', e1, _, hc⟩ := ownsRow_cells h.keys
  injection e1 with e1 _ _
  subst e1
  obtain ⟨g, hg, hcc⟩ := hc (by simpa using h0)
  refine ⟨g, 0, hg, ?_, fun i k hk => hcc i _ (by rw [List.getElem?_map, hk]; rfl)⟩
  have := (World.ownsRow.lt h.keys g (by rw [hg]; rfl)).1
  omega
end
end
end Go.Proofs.YtlbilofnbhhmjaaDoor
