/- json's reader: members, at a list's bracket. -/
import Derived.Test.YtlbilofnbhhmjaaGreatDoorKey
import Derived.Test.YtlbilofnbhhmjaaGreatDoorSpec
import Derived.IntWalk
namespace Go.Proofs.YtlbilofnbhhmjaaGreatDoor
open Go.RowKit
set_option linter.unusedVariables false
set_option linter.unusedSimpArgs false
/-- What a method of the reader does that reads a value. -/
def DoesJ (r : R J) (b : Nat) (s : ByteArray) (w : World) (e : Ending) (w' : World) : Prop :=
  w.grownBy w' (some b) ∧ match r with
    | .ok v j => ∃ cs F, e = .returned (.agg cs.toArray) ∧ JAt w' w.heap.size v cs F ∧ Rd w' b s j
    | .no j er => e = .panicked (oops j er)
theorem DoesJ.ok {r : R J} {b : Nat} {s : ByteArray} {w w' : World} {e : Ending} (h : DoesJ r b s w e w') {v : J} {j : Nat} (hr : r = .ok v j) :
    ∃ cs F, e = .returned (.agg cs.toArray) ∧ JAt w' w.heap.size v cs F ∧ Rd w' b s j ∧ w.grownBy w' (some b) := by
  subst hr; obtain ⟨hg, cs, F, h1, h2, h3⟩ := h; exact ⟨cs, F, h1, h2, h3, hg⟩
theorem DoesJ.no {r : R J} {b : Nat} {s : ByteArray} {w w' : World} {e : Ending} (h : DoesJ r b s w e w') {er : Int} {j : Nat} (hr : r = .no j er) :
    e = .panicked (oops j er) ∧ w.grownBy w' (some b) := by subst hr; exact ⟨h.2, h.1⟩
/-- What is known of the reading of values one depth further in. -/
structure ValIs (s : ByteArray) (b : Nat) (dep : Int) (val : Nat → R J) : Prop where
  calls : ∀ (i : Nat) (w : World), Rd w b s i → i ≤ s.size → Lib.Utf8Tabs 1 2 w → Calls Tryz.prog 28 #[.pointer (some ⟨b, 0, none⟩), .int .i64 (dep + 1)] w (DoesJ (val i) b s w)
  fwd : ∀ i v j, i ≤ s.size → val i = .ok v j → i < j ∧ j ≤ s.size
  begins : ∀ i, beginsB (ch s i) = false → val i = .no i 130
/-- One round of a list's reading, way by way. -/
structure ListIs (s : ByteArray) (val : Nat → R J) (f q : Nat) (ls : List J) (RES : R J) : Prop where
  long : ls.length = 256 → beginsB (ch s q) = true → RES = .no q 3
  no_ : ¬ (ls.length = 256 ∧ beginsB (ch s q) = true) → ∀ j e, val q = .no j e → RES = .no j e
  end_ : ¬ (ls.length = 256 ∧ beginsB (ch s q) = true) → ∀ v j, val q = .ok v j → ch s (skip s j) = 93 → RES = .ok (.mk 4 false ⟨#[]⟩ [] (ls ++ [v])) (skip s j + 1)
  more : ¬ (ls.length = 256 ∧ beginsB (ch s q) = true) → ∀ v j, val q = .ok v j → ch s (skip s j) = 44 → itemsN s val false f (skip s (skip s j + 1)) [] (ls ++ [v]) = RES
  bad : ¬ (ls.length = 256 ∧ beginsB (ch s q) = true) → ∀ v j, val q = .ok v j → ch s (skip s j) ≠ 93 → ch s (skip s j) ≠ 44 → RES = .no (skip s j) 130
theorem listIs (s : ByteArray) (val : Nat → R J) (f q : Nat) (ls : List J) : ListIs s val f q ls (itemsN s val false (f + 1) q [] ls) := by
  refine ⟨fun h1 h2 => ?_, fun h j e h1 => ?_, fun h v j h1 h2 => ?_, fun h v j h1 h2 => ?_, fun h v j h1 h2 h3 => ?_⟩
  all_goals
    rw [itemsN.eq_def s val false (f + 1)]
    simp only [Bool.false_eq_true, if_false]
  · rw [if_pos ⟨h1, h2⟩]
  · rw [if_neg h, h1]
  · rw [if_neg h, h1]; simp only; rw [if_pos h2]
  · rw [if_neg h, h1]; simp only; rw [if_neg (by omega), if_pos h2]
  · rw [if_neg h, h1]; simp only; rw [if_neg h2, if_neg h3]
def five (kd : Int) (vk vl : Value) : List Value := [.int .i8 kd, .bool false, .string ⟨#[]⟩, vk, vl]
def zero5 : List Value := [.int .i8 0, .bool false, .string ⟨#[]⟩, .slice none 0 0, .slice none 0 0]
/-- The reader, the result's block, the list that is made (its keys are vk), and the values that it has so far. -/
structure LsAt (W wr : World) (b : Nat) (s : ByteArray) (p N Br Bj : Nat) (kd : Int) (vk : Value) (ls : List J) (vl : Value) : Prop where
  rd : Rd wr b s p
  res : Row wr Br 26 zero5
  loc : Row wr Bj 26 (five kd vk vl)
  grown : W.grownBy wr (some b)
  big : N ≤ wr.heap.size
theorem LsAt.keep {W wr w2 : World} {b p p' N Br Bj : Nat} {s : ByteArray} {kd : Int} {vk vl : Value} {ls : List J} (h : LsAt W wr b s p N Br Bj kd vk ls vl) (hg : wr.grownBy w2 (some b)) (hr : Rd w2 b s p') (h1 : Br ≠ b) (h2 : Bj ≠ b) : LsAt W w2 b s p' N Br Bj kd vk ls vl :=
  ⟨hr, h.res.grown hg (by simpa using h1), h.loc.grown hg (by simpa using h2), grown_trans h.grown hg, Nat.le_trans h.big hg.size⟩
/-- The rows of a list, apart. -/
def Rows_ (wr : World) (N : Nat) (ls : List J) (vl : Value) (xs : List Value) (G : List Nat) : Prop := wr.ownsRow N 26 5 vl ls.length xs ∧ JsAt wr N ls xs G ∧ (obs vl ++ G).Nodup
theorem Rows_.kept {w w' : World} {N : Nat} {ls : List J} {vl : Value} {xs : List Value} {G : List Nat} {row : Option Nat} (h : Rows_ w N ls vl xs G) (hg : w.grownBy w' row) (hne : ∀ g, N ≤ g → g < w.heap.size → some g ≠ row) : Rows_ w' N ls vl xs G := by
  obtain ⟨h1, h2, h3⟩ := h
  refine ⟨World.ownsRow.kept h1 hg ?_, h2.kept hg (fun g hgm => hne g (h2.lt g hgm).1 (h2.lt g hgm).2), h3⟩
  cases hb : vl.ownBlock with
  | none => exact .inl rfl
  | some g => exact .inr (hne g (World.ownsRow.lt h1 g hb).1 (World.ownsRow.lt h1 g hb).2)
theorem rows_nil (w : World) (N : Nat) : Rows_ w N [] (.slice none 0 0) [] [] := ⟨World.ownsRow_nil _ _ _ _, jsAt_nil _ _, List.nodup_nil⟩
/-- One value more. -/
theorem Rows_.snoc {w1 w2 w3 w4 : World} {N b : Nat} {ls : List J} {vl vl' : Value} {xs : List Value} {G : List Nat} {v : J} {cs : List Value} {F : List Nat} (h : Rows_ w1 N ls vl xs G) (hN : N ≤ w1.heap.size) (hbN : b < N) (hg2 : w1.grownBy w2 (some b)) (hj : JAt w2 w1.heap.size v cs F)
    (hg3 : w2.grownBy w3 none) (ho : w4.ownsRow N 26 5 vl' (ls.length + 1) (xs ++ cs)) (hg4 : w3.grownBy w4 vl.ownBlock) (hl : ∀ k, vl'.ownBlock = some k → vl.ownBlock = some k ∨ w3.heap.size ≤ k) : Rows_ w4 N (ls ++ [v]) vl' (xs ++ cs) (G ++ F) := by
  obtain ⟨h1, h2, h3⟩ := h
  have s2 := hg2.size
  have s3 := hg3.size
  have hG := h2.lt
  have hF := hj.lt
  have hv : ∀ k, vl.ownBlock = some k → N ≤ k ∧ k < w1.heap.size := World.ownsRow.lt h1
  have k2 : JsAt w4 N ls xs G := ((h2.kept hg2 (fun g hg e => by have := hG g hg; have := Option.some.inj e; omega)).kept hg3 (by simp)).kept hg4 (fun g hg e => by
    rw [List.nodup_append] at h3
    exact h3.2.2 g (obs_mem.2 e.symm) g hg rfl)
  have kj : JAt w4 N v cs F := ((hj.kept hg3 (by simp)).kept hg4 (fun g hg e => by have := hF g hg; have := hv g e.symm; omega)).mono hN
  have hd : ∀ g ∈ G, g ∉ F := fun g hg hf => by have := hG g hg; have := hF g hf; omega
  refine ⟨by rw [List.length_append]; exact ho, k2.snoc kj hd, ?_⟩
  have hs := (k2.snoc kj hd).nodup
  rw [List.nodup_append] at h3 ⊢
  refine ⟨by unfold obs; cases vl'.ownBlock <;> simp, hs, fun a ha c hc e => ?_⟩
  subst e
  have ha' := obs_mem.1 ha
  rcases hl a ha' with e | e
  · rcases List.mem_append.1 hc with hc | hc
    · exact h3.2.2 a (obs_mem.2 e) a hc rfl
    · have := hF a hc; have := hv a e; omega
  · rcases List.mem_append.1 hc with hc | hc
    · have := hG a hc; omega
    · have := hF a hc; omega
/-- A list that is whole, or an object. -/
theorem Rows_.shut {wr : World} {N lo : Nat} {kd : Int} {ls : List J} {vl : Value} {xs : List Value} {G : List Nat} {vk : Value} {ks : List ByteArray} (h : Rows_ wr N ls vl xs G) (hk : wr.ownsRow N 9 1 vk ks.length (ks.map Value.string)) (hd : ∀ g, vk.ownBlock = some g → g ∉ obs vl ++ G) (hlo : lo ≤ N) :
    JAt wr lo (.mk kd false ⟨#[]⟩ ks ls) (five kd vk vl) (obs vk ++ (obs vl ++ G)) := by
  obtain ⟨h1, h2, h3⟩ := h
  refine JAt.mono hlo ?_
  unfold JAt
  refine ⟨vk, vl, xs, G, rfl, hk, h1, h2, rfl, ?_⟩
  rw [List.nodup_append]
  refine ⟨by unfold obs; cases vk.ownBlock <;> simp, h3, fun a ha c hc e => ?_⟩
  subst e
  exact hd a (obs_mem.1 ha) hc
theorem five_of {cs : List Value} (h : cs.length = 5) : ∃ a b c d e, cs = [a, b, c, d, e] := by
  match cs, h with
  | [a, b, c, d, e], _ => exact ⟨a, b, c, d, e, rfl⟩
/-- One value more in the list. -/
theorem LsAt.step {W w1 w2 w3 w4 : World} {b q j N Br Bj : Nat} {s : ByteArray} {kd : Int} {vk vl vl' : Value} {ls : List J} {v : J} {xs cs : List Value} {G F : List Nat} (h : LsAt W w1 b s q N Br Bj kd vk ls vl) (hR : Rows_ w1 N ls vl xs G) (hg2 : w1.grownBy w2 (some b)) (hrd : Rd w2 b s j)
    (hj : JAt w2 w1.heap.size v cs F) (hg3 : w2.grownBy w3 none) (ho : w4.ownsRow N 26 5 vl' (ls.length + 1) (xs ++ cs)) (hg4 : w3.grownBy w4 vl.ownBlock) (hl : ∀ k, vl'.ownBlock = some k → vl.ownBlock = some k ∨ w3.heap.size ≤ k)
    (hW : W.heap.size ≤ Br) (hb : b < Br) (h1 : Br < Bj) (h2 : Bj < N) :
    LsAt W (w4.setCell ⟨Bj, 4, none⟩ vl') b s j N Br Bj kd vk (ls ++ [v]) vl' ∧ Rows_ (w4.setCell ⟨Bj, 4, none⟩ vl') N (ls ++ [v]) vl' (xs ++ cs) (G ++ F) := by
  have hv : ∀ k, vl.ownBlock = some k → N ≤ k := fun k hk => (World.ownsRow.lt hR.1 k hk).1
  have hne : ∀ x, x < N → some x ≠ vl.ownBlock := fun x hx e => by have := hv x e.symm; omega
  have hgs : w4.grownBy (w4.setCell ⟨Bj, 4, none⟩ vl') (some Bj) := grown_set (grown_refl _ _) (.inl rfl) _ _
  have k4 : w1.grownBy w4 (some b) ∨ True := .inr trivial
  have rb : Row w4 Bj 26 (five kd vk vl) := ((h.loc.grown hg2 (by simp; omega)).grown hg3 (by simp)).grown hg4 (hne Bj h2)
  have rr : Row w4 Br 26 zero5 := ((h.res.grown hg2 (by simp; omega)).grown hg3 (by simp)).grown hg4 (hne Br (by omega))
  have rd4 : Rd w4 b s j := (hrd.grown hg3 (by simp)).grown hg4 (hne b (by omega))
  have gw : W.grownBy w4 (some b) := grown_own (grown_own (grown_trans h.grown hg2) hg3 (by simp)) hg4 (fun x hx => .inr (by have := hv x hx; omega))
  have s2 := hg2.size
  have s3 := hg3.size
  have s4 := hg4.size
  have sN := h.big
  refine ⟨⟨rd4.grown hgs (by simp; omega), rr.grown hgs (by simp; omega), ?_, grown_set gw (.inr (by omega)) _ _, by simp; omega⟩, ?_⟩
  · have := rb.set 4 vl'
    exact this
  · exact (hR.snoc sN (by omega) hg2 hj hg3 ho hg4 hl).kept hgs (fun g hg _ e => by have := Option.some.inj e; omega)
/-- The value is laid into the result's block, the reader stands behind the bracket. -/
theorem LsAt.done {W w1 w2 : World} {b q N Br Bj : Nat} {s : ByteArray} {kd : Int} {vk vl : Value} {ls : List J} {xs : List Value} {G : List Nat} {ks : List ByteArray} (h : LsAt W w1 b s q N Br Bj kd vk ls vl) (hR : Rows_ w1 N ls vl xs G)
    (hk : w1.ownsRow N 9 1 vk ks.length (ks.map Value.string)) (hd : ∀ g, vk.ownBlock = some g → g ∉ obs vl ++ G) (hr : Row w2 Br 26 (five kd vk vl)) (hg : (w1.setCell ⟨b, 1, none⟩ (.int .i64 ((q : Int) + 1))).grownBy w2 (some Br))
    (hW : W.heap.size ≤ Br) (hb : b < Br) (hN : Br < N) : DoesJ (.ok (.mk kd false ⟨#[]⟩ ks ls) (q + 1)) b s W (.returned (.agg (five kd vk vl).toArray)) w2 := by
  have hgs : w1.grownBy (w1.setCell ⟨b, 1, none⟩ (.int .i64 ((q : Int) + 1))) (some b) := grown_set (grown_refl _ _) (.inl rfl) _ _
  have hs : (w1.setCell ⟨b, 1, none⟩ (.int .i64 ((q : Int) + 1))).heap.size = w1.heap.size := by simp
  have hR2 : Rows_ w2 N ls vl xs G := (hR.kept hgs (fun g h1 h2 e => by have := Option.some.inj e; omega)).kept hg (fun g h1 h2 e => by have := Option.some.inj e; omega)
  have hkb : ∀ x, x < N → vk.ownBlock = none ∨ vk.ownBlock ≠ some x := fun x hx => by
    cases hb : vk.ownBlock with
    | none => exact .inl rfl
    | some g => right; intro e; have := (World.ownsRow.lt hk g hb).1; have := Option.some.inj e; omega
  have hk2 : w2.ownsRow N 9 1 vk ks.length (ks.map Value.string) := World.ownsRow.kept (World.ownsRow.kept hk hgs (hkb b (by omega))) hg (hkb Br hN)
  refine ⟨grown_own (grown_trans h.grown hgs) hg (fun x hx => .inr (by have := Option.some.inj hx; omega)), five kd vk vl, _, rfl, hR2.shut hk2 hd (by omega), ?_⟩
  exact Rd.grown (Rd.set h.rd (q + 1)) hg (by simp; omega)
set_option maxHeartbeats 6400000 in
set_option maxRecDepth 100000 in
theorem list_any (b i : Nat) (dep : Int) (s : ByteArray) (val : Nat → R J) (w : World) (hV : ValIs s b dep val) (hr : Rd w b s i) (hs : s.size ≤ 1073741824) (hi : i < s.size) (hT : Lib.Utf8Tabs 1 2 w) (hb : 2 < b) (hd0 : 0 ≤ dep) (hd1 : dep ≤ 1000) :
    Calls Tryz.prog 43 #[.pointer (some ⟨b, 0, none⟩), .int .i64 dep, .int .u8 91] w (DoesJ (members s val false i) b s w) := by
  obtain ⟨RES, hR⟩ : ∃ r, members s val false i = r := ⟨_, rfl⟩
  rw [hR]
  have HR := Lib.hid hR
  have Hr := Lib.hid hr
  have HT := Lib.hid hT
  have HV := Lib.hid hV
  have hmm := @run_makeMap Tryz.prog
  have H1 := Lib.hid (show ∀ v ∈ five 4 (.slice none 0 0) (.slice none 0 0), v.oneCell' = true by decide)
  clear hR hr hT hV
  go_enter Tryz.func43, Tryz.ntmps43
  go_upto_region 6 with (first
    | (have _ := w2; refine wpList_store_Row rfl 26 _ _ rfl w1.heap.size (five 4 (.slice none 0 0) (.slice none 0 0)) rfl rfl 26 zero5 hr2 size29 rfl H1.out ?_; intro w3 hr3 hg3 hs3; clear hs3; simp only [Act.put, List.setIfInBounds_toArray, List.set_cons_zero, List.set_cons_succ])
    | (have _ := w1; refine wpList_alloc_abs rfl 26 rfl zero5 _ (zero29 _) rfl ?_; intro w2 hr2 hg2 hs2; clear hs2; simp only [Act.put, List.setIfInBounds_toArray, List.set_cons_zero, List.set_cons_succ])
    | (refine wpList_alloc_abs rfl 26 rfl zero5 _ (zero29 _) rfl ?_; intro w1 hr1 hg1 hs1; simp only [Act.put, List.setIfInBounds_toArray, List.set_cons_zero, List.set_cons_succ]))
  have hg4 : w.grownBy (w3.alloc (.map #[] 0)) none := grown_alloc (grown_own (grown_own hg1 hg2 (by simp)) hg3 (fun x hx => .inr (by have := Option.some.inj hx; omega))) _
  have hBr : Row (w3.alloc (.map #[] 0)) w.heap.size 26 zero5 := (((hr1.grown hg2 (by simp)).grown hg3 (by simp; omega))).alloc _
  have hBj : Row (w3.alloc (.map #[] 0)) w1.heap.size 26 (five 4 (.slice none 0 0) (.slice none 0 0)) := hr3.alloc _
  have hBm : Seen (w3.alloc (.map #[] 0)) w3.heap.size [] := seen_new w3
  have hlt : w1.heap.size < w3.heap.size := hr3.lt
  have hw3 : (w3.alloc (.map #[] 0)).heap.size = w3.heap.size + 1 := by simp
  obtain ⟨N0, hN0⟩ : ∃ n, w.heap.size = n := ⟨_, rfl⟩
  have HNW : Hid (w.heap.size ≤ N0) := Lib.hid (by omega)
  obtain ⟨Bj, hBjn⟩ : ∃ n, w1.heap.size = n := ⟨_, rfl⟩
  obtain ⟨Bm, hBmn⟩ : ∃ n, w3.heap.size = n := ⟨_, rfl⟩
  obtain ⟨W4, hW4⟩ : ∃ W, w3.alloc (.map #[] 0) = W := ⟨_, rfl⟩
  rw [hW4] at hg4 hBr hBj hBm hw3 ⊢
  rw [hN0] at hBr hs1 ⊢
  rw [hBjn] at hBj hlt hs1 ⊢
  rw [hBmn] at hBm hlt hw3 ⊢
  have HD : Hid (b < N0 ∧ N0 < Bj ∧ Bj < Bm ∧ Bm < W4.heap.size) := Lib.hid ⟨by rw [← hN0]; exact Hr.out.lt, by omega, by omega, by omega⟩
  have Hr4 : Hid (Rd W4 b s i) := Lib.hid (Hr.out.grown hg4 (by simp))
  have HT4 : Hid (Lib.Utf8Tabs 1 2 W4) := Lib.hid (tabs_grown HT.out hg4 (by simp) (by simp))
  have HG4 := Lib.hid hg4
  have HBr := Lib.hid hBr
  have HBj := Lib.hid hBj
  clear hg1 hg2 hg3 hr1 hr2 hr3 hs1 hg4 hBr hBj hBm hlt hw3 hN0 hBjn hBmn hW4 w3 w2 w1
  have c1 := Hr4.out.i
  have d1 := Hr4.out.free 1
  obtain ⟨N, hN⟩ : ∃ n, W4.heap.size = n := ⟨_, rfl⟩
  rw [hN] at HD
  have HN := Lib.hid hN
  clear hN
  go_wp2_with fail
  have HL0 : Hid (LsAt w (W4.setCell ⟨b, 1, none⟩ (.int .i64 ((i + 1 : Nat) : Int))) b s (i + 1) N N0 Bj 4 (.slice none 0 0) [] (.slice none 0 0)) := Lib.hid (by
    have hd := HD.out
    have hgs := grown_set (grown_refl W4 (some b)) (.inl rfl) 1 (.int .i64 ((i + 1 : Nat) : Int))
    exact ⟨Hr4.out.set (i + 1), HBr.out.grown hgs (by simp; omega), HBj.out.grown hgs (by simp; omega), grown_trans (grown_none HG4.out _) hgs, by rw [← HN.out]; exact hgs.size⟩)
  have HR0 : Hid (Rows_ (W4.setCell ⟨b, 1, none⟩ (.int .i64 ((i + 1 : Nat) : Int))) N [] (.slice none 0 0) [] []) := Lib.hid (rows_nil _ _)
  have HI0 : Hid ((ch s (skip s (i + 1)) = 93 → RES = .ok (.mk 4 false ⟨#[]⟩ [] []) (skip s (i + 1) + 1)) ∧ (ch s (skip s (i + 1)) ≠ 93 → itemsN s val false (s.size + 1) (skip s (i + 1)) [] [] = RES)) := Lib.hid (by
    refine ⟨fun h => ?_, fun h => ?_⟩
    · rw [← HR.out]; unfold members; simp only [Bool.false_eq_true, if_false]; rw [if_pos h]
    · rw [← HR.out]; unfold members; simp only [Bool.false_eq_true, if_false]; rw [if_neg h])
  generalize hW5 : W4.setCell ⟨b, 1, none⟩ (.int .i64 ((i + 1 : Nat) : Int)) = W5 at HL0 HR0
  rw [show W4.setCell ⟨b, 1, none⟩ (.int .i64 ((i : Int) + 1)) = W5 from hW5]
  have HT5 : Hid (Lib.Utf8Tabs 1 2 W5) := Lib.hid (by rw [← hW5]; exact tabs_grown HT4.out (grown_set (grown_refl W4 (some b)) (.inl rfl) _ _) (by simp; omega) (by simp; omega))
  clear hW5 c1 d1 HBr HBj Hr4 HT4 HG4
  go_loopg [] (s.size - (i + 1)) (fun d wr => ∃ (f p : Nat) (ls : List J) (vl : Value) (xs : List Value) (G : List Nat), p ≤ s.size ∧ d = s.size - p ∧ s.size + 1 ≤ f + p ∧ ls.length ≤ p ∧ Hid (LsAt w wr b s p N N0 Bj 4 (.slice none 0 0) ls vl) ∧ Hid (Rows_ wr N ls vl xs G) ∧
    Hid ((ls = [] → ch s (skip s p) = 93 → RES = .ok (.mk 4 false ⟨#[]⟩ [] []) (skip s p + 1)) ∧ ((ls ≠ [] ∨ ch s (skip s p) ≠ 93) → itemsN s val false f (skip s p) [] ls = RES)))
  case atStart => exact ⟨s.size + 1, i + 1, [], _, [], [], by omega, rfl, by omega, by simp, HL0, HR0, Lib.hid ⟨fun _ => HI0.out.1, fun h => HI0.out.2 (by rcases h with h | h; exact absurd rfl h; exact h)⟩⟩
  case round =>
    clear HL0 HR0 HI0 HR
    obtain ⟨f, p, ls, vl, xs, G, hp, rfl, hf, hlp, HL, HRw, HI⟩ := hrel
    obtain ⟨A, cp, rfl, hA, hcp⟩ := ownsRow_val HRw.out.1
    have Hvl : Hid (∀ u ∈ five 4 (.slice none 0 0) (.slice A ls.length cp), u.oneCell' = true) := Lib.hid (by intro u hu; simp [five] at hu; rcases hu with rfl | rfl | rfl | rfl | rfl <;> rfl)
    have HT0 : Hid (Lib.Utf8Tabs 1 2 wr) := Lib.hid (tabs_grown HT.out HL.out.grown (by simp; omega) (by simp; omega))
    have Hbn : Hid (N0 ≠ b ∧ Bj ≠ b ∧ ∀ g, N ≤ g → some g ≠ some b) := Lib.hid (by have := HD.out; exact ⟨by omega, by omega, fun g hg e => by have := Option.some.inj e; omega⟩)
    have hq1 := skip_ge s p
    have hq2 := skip_le hp
    have hsk := skip_any b p s wr HL.out.rd (by omega) hp
    obtain ⟨q, hq⟩ : ∃ q, skip s p = q := ⟨_, rfl⟩
    rw [hq] at hq1 hq2 HI hsk
    obtain ⟨c, hc⟩ : ∃ c, ch s q = c := ⟨_, rfl⟩
    rw [hc] at HI hsk
    have Hsk := Lib.hid hsk
    have Hc := Lib.hid hc
    clear hq hc hsk hcp hA
    by_cases hx : ls = [] ∧ c = 93
    · obtain ⟨rfl, rfl⟩ := hx
      have HE := Lib.hid (HI.out.1 rfl rfl)
      go_wp2_with (first
        | (have _ := w1; refine wpList_load_Row rfl 26 _ rfl Bj rfl (five 4 (.slice none 0 0) (.slice A 0 cp)) 26 (Row.set_other HL1.out.loc Hbn.out.2.1 _ _) _ Tryz.underlying26 rfl size29 ?_; simp only [Act.put, List.setIfInBounds_toArray, List.set_cons_zero, List.set_cons_succ])
        | (have _ := w1; refine wpList_store_Row rfl 26 _ _ rfl N0 (five 4 (.slice none 0 0) (.slice A 0 cp)) rfl rfl 26 zero5 (Row.set_other HL1.out.res Hbn.out.1 _ _) size29 rfl Hvl.out ?_; intro w2 hr2 hg2 hs2; clear hs2; simp only [Act.put, List.setIfInBounds_toArray, List.set_cons_zero, List.set_cons_succ])
        | (go_at_call 27; refine Hsk.out.mono ?_; rintro e w1 ⟨rfl, hrd1, hg1⟩
           have HL1 := Lib.hid (HL.out.keep hg1 hrd1 Hbn.out.1 Hbn.out.2.1)
           have HR1 := Lib.hid (HRw.out.kept hg1 (fun g h _ => Hbn.out.2.2 g h))
           have cL : w1.cell? ⟨Bj, 4, none⟩ = some (.slice A 0 cp) := HL1.out.loc.at_ rfl
           have c1 := HL1.out.rd.i
           have d1 := HL1.out.rd.free 1
           clear hrd1 hg1))
      refine bodyPost_ret (v := .agg (five 4 (.slice none 0 0) (.slice A 0 cp)).toArray) (results_cell_row (p := 6) (ty := 26) rfl _ _ N0 26 (five 4 (.slice none 0 0) (.slice A 0 cp)).toArray (0, 0) _ rfl hr2 Tryz.underlying26 rfl size29) rfl ?_
      rw [HE.out]
      exact HL1.out.done HR1.out (ks := []) (World.ownsRow_nil _ _ _ _) (fun g h => by cases h) hr2 hg2 HNW.out (by have := HD.out; omega) (by have := HD.out; omega)
    · have Hx : Hid (ls ≠ [] ∨ c ≠ 93) := Lib.hid (by by_cases h : ls = []; exact .inr (fun e => hx ⟨h, e⟩); exact .inl h)
      obtain ⟨f, rfl⟩ : ∃ g, f = g + 1 := ⟨f - 1, by omega⟩
      have HLI : Hid (ListIs s val f q ls RES) := Lib.hid (by rw [← HI.out.2 Hx.out]; exact listIs s val f q ls)
      have hl256 : ls.length = 256 ∨ ls.length ≠ 256 := by omega
      rcases hl256 with h256 | h256
      · have b256 : ((ls.length : Int) == 256) = true := by simp; omega
        have lpos : 0 < ls.length := by omega
        have H256 := Lib.hid h256
        clear h256
        cases hbg : beginsB c with
        | true =>
          have b93 : (c != 93) = true := by
            by_cases h : c = 93
            · rw [h] at hbg; cases hbg
            · simpa using h
          have HE := Lib.hid (HLI.out.long H256.out (by rw [Hc.out]; exact hbg))
          go_wp2_with (first
            | (have _ := w2; go_at_call 42; refine (begins_any c w2).mono ?_; rintro e w3 ⟨rfl, rfl⟩; rw [hbg])
            | (have _ := w1; go_at_call 41; refine (next_any b q s w1 HL1.out.rd (by omega) (by omega)).mono ?_; rintro e w2 ⟨rfl, hg2⟩; rw [Hc.out]
               have HL2 := Lib.hid (HL1.out.keep (grown_none hg2 _) (HL1.out.rd.grown hg2 (by simp)) Hbn.out.1 Hbn.out.2.1)
               have HT2 : Hid (Lib.Utf8Tabs 1 2 w2) := Lib.hid (tabs_grown HT1.out hg2 (by simp) (by simp))
               have cL2 : w2.cell? ⟨Bj, 4, none⟩ = some (.slice A ls.length cp) := HL2.out.loc.at_ rfl
               have c2 := HL2.out.rd.i
               clear hg2)
            | (have _ := w2; go_at_call 29; refine (fail_any _ 3 _).mono ?_; rintro e w3 ⟨rfl, rfl⟩)
            | (go_at_call 27; refine Hsk.out.mono ?_; rintro e w1 ⟨rfl, hrd1, hg1⟩
               have HL1 := Lib.hid (HL.out.keep hg1 hrd1 Hbn.out.1 Hbn.out.2.1)
               have HR1 := Lib.hid (HRw.out.kept hg1 (fun g h _ => Hbn.out.2.2 g h))
               have HT1 : Hid (Lib.Utf8Tabs 1 2 w1) := Lib.hid (tabs_grown HT0.out hg1 (by simp; omega) (by simp; omega))
               have cL : w1.cell? ⟨Bj, 4, none⟩ = some (.slice A ls.length cp) := HL1.out.loc.at_ rfl
               have c1 := HL1.out.rd.i
               clear hrd1 hg1))
          exact ⟨rfl, by rw [HE.out]; exact ⟨HL2.out.grown, rfl⟩⟩
        | false =>
          have HX := Lib.hid (HV.out.begins q (by rw [Hc.out]; exact hbg))
          have HE := Lib.hid (HLI.out.no_ (fun h => by rw [Hc.out, hbg] at h; exact absurd h.2 (by simp)) _ _ HX.out)
          by_cases h93 : c = 93
          · have b93 : (c != 93) = false := by simpa using h93
            clear h93
            go_wp2_with (first
              | (have _ := w2; go_at_call 42; refine (begins_any c w2).mono ?_; rintro e w3 ⟨rfl, rfl⟩; rw [hbg])
              | (have _ := w1; go_at_call 41; refine (next_any b q s w1 HL1.out.rd (by omega) (by omega)).mono ?_; rintro e w2 ⟨rfl, hg2⟩; rw [Hc.out]
                 have HL2 := Lib.hid (HL1.out.keep (grown_none hg2 _) (HL1.out.rd.grown hg2 (by simp)) Hbn.out.1 Hbn.out.2.1)
                 have HT2 : Hid (Lib.Utf8Tabs 1 2 w2) := Lib.hid (tabs_grown HT1.out hg2 (by simp) (by simp))
                 have cL2 : w2.cell? ⟨Bj, 4, none⟩ = some (.slice A ls.length cp) := HL2.out.loc.at_ rfl
                 have c2 := HL2.out.rd.i
                 clear hg2)
              | (go_at_call 27; refine Hsk.out.mono ?_; rintro e w1 ⟨rfl, hrd1, hg1⟩
                 have HL1 := Lib.hid (HL.out.keep hg1 hrd1 Hbn.out.1 Hbn.out.2.1)
                 have HR1 := Lib.hid (HRw.out.kept hg1 (fun g h _ => Hbn.out.2.2 g h))
                 have HT1 : Hid (Lib.Utf8Tabs 1 2 w1) := Lib.hid (tabs_grown HT0.out hg1 (by simp; omega) (by simp; omega))
                 have cL : w1.cell? ⟨Bj, 4, none⟩ = some (.slice A ls.length cp) := HL1.out.loc.at_ rfl
                 have c1 := HL1.out.rd.i
                 clear hrd1 hg1))
            have hwd : IntKind.i64.wrap (dep + 1) = dep + 1 := IntWalk.i64_in _ (by omega)
            refine wp_region_any (by kernel_rfl) ?_
            change wpAny _ _ _ _ _ _ _ (World.drew _)
            refine wpAny_take (i := 0) (v := ?vq1) rfl (by kernel_rfl) (by kernel_rfl) (by kernel_rfl) (fun _ _ _ h => h) (Or.inl ⟨by rfl, ?hq1⟩) ?rq1
            case hq1 => intro w; go_simp <;> with_reducible rfl
            refine wpAny_take (i := 2) (v := ?vq2) rfl (by kernel_rfl) (by kernel_rfl) (by kernel_rfl) (fun _ _ _ h => h) (Or.inl ⟨by rfl, ?hq2⟩) ?rq2
            case hq2 => intro w; go_simp <;> with_reducible rfl
            refine wpAny_take (i := 3) (v := ?vq3) rfl (by kernel_rfl) (by kernel_rfl) (by kernel_rfl) (fun _ _ _ h => h) (Or.inl ⟨by rfl, ?hq3⟩) ?rq3
            case hq3 => intro w; go_simp <;> with_reducible rfl
            refine wpAny_take (i := 4) (v := ?vq4) rfl (by kernel_rfl) (by kernel_rfl) (by kernel_rfl) (fun _ _ _ h => h) (Or.inl ⟨by rfl, ?hq4⟩) ?rq4
            case hq4 => intro w; go_simp <;> with_reducible rfl
            refine wpAny_ready (rs := [1, 5]) (by kernel_rfl) (by simp) ?_
            refine AllReady.cons rfl (fun K hK => ?_) ?_
            · go_simp
              refine hK _ _ ?_
              clear hK K
              refine wpAny_ready (rs := [5]) (by kernel_rfl) (by simp) ?_
              refine AllReady.cons rfl (fun K hK => ?_) AllReady.nil
              go_simp
              refine (HV.out.calls q _ (HL2.out.rd.drewN 1) hq2 (tabs_grown HT2.out (grown_drewN (grown_refl w2 none) 1) (by simp) (by simp))).mono ?_
              intro e wz hd
              obtain ⟨rfl, hgz⟩ := hd.no HX.out
              have Hgz : Hid (w2.grownBy wz (some b)) := Lib.hid ⟨hgz.os, hgz.tape, hgz.output, hgz.size, hgz.block⟩
              exact ⟨rfl, by rw [HE.out]; exact ⟨grown_trans HL2.out.grown Hgz.out, rfl⟩⟩
            · refine AllReady.cons rfl (fun K hK => ?_) AllReady.nil
              go_simp
              refine (HV.out.calls q _ (HL2.out.rd.drewN 1) hq2 (tabs_grown HT2.out (grown_drewN (grown_refl w2 none) 1) (by simp) (by simp))).mono ?_
              intro e wz hd
              obtain ⟨rfl, hgz⟩ := hd.no HX.out
              have Hgz : Hid (w2.grownBy wz (some b)) := Lib.hid ⟨hgz.os, hgz.tape, hgz.output, hgz.size, hgz.block⟩
              exact ⟨rfl, by rw [HE.out]; exact ⟨grown_trans HL2.out.grown Hgz.out, rfl⟩⟩
          · have b93 : (c != 93) = true := by simpa using h93
            clear h93
            go_wp2_with (first
              | (have _ := w2; go_at_call 42; refine (begins_any c w2).mono ?_; rintro e w3 ⟨rfl, rfl⟩; rw [hbg])
              | (have _ := w1; go_at_call 41; refine (next_any b q s w1 HL1.out.rd (by omega) (by omega)).mono ?_; rintro e w2 ⟨rfl, hg2⟩; rw [Hc.out]
                 have HL2 := Lib.hid (HL1.out.keep (grown_none hg2 _) (HL1.out.rd.grown hg2 (by simp)) Hbn.out.1 Hbn.out.2.1)
                 have HT2 : Hid (Lib.Utf8Tabs 1 2 w2) := Lib.hid (tabs_grown HT1.out hg2 (by simp) (by simp))
                 have cL2 : w2.cell? ⟨Bj, 4, none⟩ = some (.slice A ls.length cp) := HL2.out.loc.at_ rfl
                 have c2 := HL2.out.rd.i
                 clear hg2)
              | (go_at_call 27; refine Hsk.out.mono ?_; rintro e w1 ⟨rfl, hrd1, hg1⟩
                 have HL1 := Lib.hid (HL.out.keep hg1 hrd1 Hbn.out.1 Hbn.out.2.1)
                 have HR1 := Lib.hid (HRw.out.kept hg1 (fun g h _ => Hbn.out.2.2 g h))
                 have HT1 : Hid (Lib.Utf8Tabs 1 2 w1) := Lib.hid (tabs_grown HT0.out hg1 (by simp; omega) (by simp; omega))
                 have cL : w1.cell? ⟨Bj, 4, none⟩ = some (.slice A ls.length cp) := HL1.out.loc.at_ rfl
                 have c1 := HL1.out.rd.i
                 clear hrd1 hg1))
            have hwd : IntKind.i64.wrap (dep + 1) = dep + 1 := IntWalk.i64_in _ (by omega)
            refine wp_region_any (by kernel_rfl) ?_
            change wpAny _ _ _ _ _ _ _ (World.drew _)
            refine wpAny_take (i := 0) (v := ?vq5) rfl (by kernel_rfl) (by kernel_rfl) (by kernel_rfl) (fun _ _ _ h => h) (Or.inl ⟨by rfl, ?hq5⟩) ?rq5
            case hq5 => intro w; go_simp <;> with_reducible rfl
            refine wpAny_take (i := 2) (v := ?vq6) rfl (by kernel_rfl) (by kernel_rfl) (by kernel_rfl) (fun _ _ _ h => h) (Or.inl ⟨by rfl, ?hq6⟩) ?rq6
            case hq6 => intro w; go_simp <;> with_reducible rfl
            refine wpAny_take (i := 3) (v := ?vq7) rfl (by kernel_rfl) (by kernel_rfl) (by kernel_rfl) (fun _ _ _ h => h) (Or.inl ⟨by rfl, ?hq7⟩) ?rq7
            case hq7 => intro w; go_simp <;> with_reducible rfl
            refine wpAny_take (i := 4) (v := ?vq8) rfl (by kernel_rfl) (by kernel_rfl) (by kernel_rfl) (fun _ _ _ h => h) (Or.inl ⟨by rfl, ?hq8⟩) ?rq8
            case hq8 => intro w; go_simp <;> with_reducible rfl
            refine wpAny_ready (rs := [1, 5]) (by kernel_rfl) (by simp) ?_
            refine AllReady.cons rfl (fun K hK => ?_) ?_
            · go_simp
              refine hK _ _ ?_
              clear hK K
              refine wpAny_ready (rs := [5]) (by kernel_rfl) (by simp) ?_
              refine AllReady.cons rfl (fun K hK => ?_) AllReady.nil
              go_simp
              refine (HV.out.calls q _ (HL2.out.rd.drewN 1) hq2 (tabs_grown HT2.out (grown_drewN (grown_refl w2 none) 1) (by simp) (by simp))).mono ?_
              intro e wz hd
              obtain ⟨rfl, hgz⟩ := hd.no HX.out
              have Hgz : Hid (w2.grownBy wz (some b)) := Lib.hid ⟨hgz.os, hgz.tape, hgz.output, hgz.size, hgz.block⟩
              exact ⟨rfl, by rw [HE.out]; exact ⟨grown_trans HL2.out.grown Hgz.out, rfl⟩⟩
            · refine AllReady.cons rfl (fun K hK => ?_) AllReady.nil
              go_simp
              refine (HV.out.calls q _ (HL2.out.rd.drewN 1) hq2 (tabs_grown HT2.out (grown_drewN (grown_refl w2 none) 1) (by simp) (by simp))).mono ?_
              intro e wz hd
              obtain ⟨rfl, hgz⟩ := hd.no HX.out
              have Hgz : Hid (w2.grownBy wz (some b)) := Lib.hid ⟨hgz.os, hgz.tape, hgz.output, hgz.size, hgz.block⟩
              exact ⟨rfl, by rw [HE.out]; exact ⟨grown_trans HL2.out.grown Hgz.out, rfl⟩⟩
      · have b256 : ((ls.length : Int) == 256) = false := by simp; omega
        have H256 := Lib.hid h256
        clear h256
        by_cases h93 : c = 93
        · have b93 : (c != 93) = false := by simpa using h93
          have HX := Lib.hid (HV.out.begins q (by rw [Hc.out, h93]; rfl))
          have HE := Lib.hid (HLI.out.no_ (fun h => H256.out h.1) _ _ HX.out)
          have lpos : 0 < ls.length := by
            rcases Hx.out with h2 | h2
            · exact List.length_pos_iff.2 h2
            · exact absurd h93 h2
          clear h93
          go_wp2_with (first
            | (go_at_call 27; refine Hsk.out.mono ?_; rintro e w1 ⟨rfl, hrd1, hg1⟩
               have HL1 := Lib.hid (HL.out.keep hg1 hrd1 Hbn.out.1 Hbn.out.2.1)
               have HR1 := Lib.hid (HRw.out.kept hg1 (fun g h _ => Hbn.out.2.2 g h))
               have HT1 : Hid (Lib.Utf8Tabs 1 2 w1) := Lib.hid (tabs_grown HT0.out hg1 (by simp; omega) (by simp; omega))
               have cL : w1.cell? ⟨Bj, 4, none⟩ = some (.slice A ls.length cp) := HL1.out.loc.at_ rfl
               have c1 := HL1.out.rd.i
               clear hrd1 hg1))
          have hwd : IntKind.i64.wrap (dep + 1) = dep + 1 := IntWalk.i64_in _ (by omega)
          refine wp_region_any (by kernel_rfl) ?_
          change wpAny _ _ _ _ _ _ _ (World.drew _)
          refine wpAny_take (i := 0) (v := ?vq9) rfl (by kernel_rfl) (by kernel_rfl) (by kernel_rfl) (fun _ _ _ h => h) (Or.inl ⟨by rfl, ?hq9⟩) ?rq9
          case hq9 => intro w; go_simp <;> with_reducible rfl
          refine wpAny_take (i := 2) (v := ?vq10) rfl (by kernel_rfl) (by kernel_rfl) (by kernel_rfl) (fun _ _ _ h => h) (Or.inl ⟨by rfl, ?hq10⟩) ?rq10
          case hq10 => intro w; go_simp <;> with_reducible rfl
          refine wpAny_take (i := 3) (v := ?vq11) rfl (by kernel_rfl) (by kernel_rfl) (by kernel_rfl) (fun _ _ _ h => h) (Or.inl ⟨by rfl, ?hq11⟩) ?rq11
          case hq11 => intro w; go_simp <;> with_reducible rfl
          refine wpAny_take (i := 4) (v := ?vq12) rfl (by kernel_rfl) (by kernel_rfl) (by kernel_rfl) (fun _ _ _ h => h) (Or.inl ⟨by rfl, ?hq12⟩) ?rq12
          case hq12 => intro w; go_simp <;> with_reducible rfl
          refine wpAny_ready (rs := [1, 5]) (by kernel_rfl) (by simp) ?_
          refine AllReady.cons rfl (fun K hK => ?_) ?_
          · go_simp
            refine hK _ _ ?_
            clear hK K
            refine wpAny_ready (rs := [5]) (by kernel_rfl) (by simp) ?_
            refine AllReady.cons rfl (fun K hK => ?_) AllReady.nil
            go_simp
            refine (HV.out.calls q _ (HL1.out.rd.drewN 1) hq2 (tabs_grown HT1.out (grown_drewN (grown_refl w1 none) 1) (by simp) (by simp))).mono ?_
            intro e wz hd
            obtain ⟨rfl, hgz⟩ := hd.no HX.out
            have Hgz : Hid (w1.grownBy wz (some b)) := Lib.hid ⟨hgz.os, hgz.tape, hgz.output, hgz.size, hgz.block⟩
            exact ⟨rfl, by rw [HE.out]; exact ⟨grown_trans HL1.out.grown Hgz.out, rfl⟩⟩
          · refine AllReady.cons rfl (fun K hK => ?_) AllReady.nil
            go_simp
            refine (HV.out.calls q _ (HL1.out.rd.drewN 1) hq2 (tabs_grown HT1.out (grown_drewN (grown_refl w1 none) 1) (by simp) (by simp))).mono ?_
            intro e wz hd
            obtain ⟨rfl, hgz⟩ := hd.no HX.out
            have Hgz : Hid (w1.grownBy wz (some b)) := Lib.hid ⟨hgz.os, hgz.tape, hgz.output, hgz.size, hgz.block⟩
            exact ⟨rfl, by rw [HE.out]; exact ⟨grown_trans HL1.out.grown Hgz.out, rfl⟩⟩
        · have b93 : (c != 93) = true := by simpa using h93
          clear h93
          cases hval : val q with
          | no j er =>
            have HX := Lib.hid hval
            have HE := Lib.hid (HLI.out.no_ (fun h => H256.out h.1) _ _ hval)
            clear hval
            go_wp2_with (first
              | (go_at_call 27; refine Hsk.out.mono ?_; rintro e w1 ⟨rfl, hrd1, hg1⟩
                 have HL1 := Lib.hid (HL.out.keep hg1 hrd1 Hbn.out.1 Hbn.out.2.1)
                 have HR1 := Lib.hid (HRw.out.kept hg1 (fun g h _ => Hbn.out.2.2 g h))
                 have HT1 : Hid (Lib.Utf8Tabs 1 2 w1) := Lib.hid (tabs_grown HT0.out hg1 (by simp; omega) (by simp; omega))
                 have cL : w1.cell? ⟨Bj, 4, none⟩ = some (.slice A ls.length cp) := HL1.out.loc.at_ rfl
                 have c1 := HL1.out.rd.i
                 clear hrd1 hg1))
            have hwd : IntKind.i64.wrap (dep + 1) = dep + 1 := IntWalk.i64_in _ (by omega)
            refine wp_region_any (by kernel_rfl) ?_
            change wpAny _ _ _ _ _ _ _ (World.drew _)
            refine wpAny_take (i := 0) (v := ?vq13) rfl (by kernel_rfl) (by kernel_rfl) (by kernel_rfl) (fun _ _ _ h => h) (Or.inl ⟨by rfl, ?hq13⟩) ?rq13
            case hq13 => intro w; go_simp <;> with_reducible rfl
            refine wpAny_take (i := 2) (v := ?vq14) rfl (by kernel_rfl) (by kernel_rfl) (by kernel_rfl) (fun _ _ _ h => h) (Or.inl ⟨by rfl, ?hq14⟩) ?rq14
            case hq14 => intro w; go_simp <;> with_reducible rfl
            refine wpAny_take (i := 3) (v := ?vq15) rfl (by kernel_rfl) (by kernel_rfl) (by kernel_rfl) (fun _ _ _ h => h) (Or.inl ⟨by rfl, ?hq15⟩) ?rq15
            case hq15 => intro w; go_simp <;> with_reducible rfl
            refine wpAny_take (i := 4) (v := ?vq16) rfl (by kernel_rfl) (by kernel_rfl) (by kernel_rfl) (fun _ _ _ h => h) (Or.inl ⟨by rfl, ?hq16⟩) ?rq16
            case hq16 => intro w; go_simp <;> with_reducible rfl
            refine wpAny_ready (rs := [1, 5]) (by kernel_rfl) (by simp) ?_
            refine AllReady.cons rfl (fun K hK => ?_) ?_
            · go_simp
              refine hK _ _ ?_
              clear hK K
              refine wpAny_ready (rs := [5]) (by kernel_rfl) (by simp) ?_
              refine AllReady.cons rfl (fun K hK => ?_) AllReady.nil
              go_simp
              refine (HV.out.calls q _ (HL1.out.rd.drewN 1) hq2 (tabs_grown HT1.out (grown_drewN (grown_refl w1 none) 1) (by simp) (by simp))).mono ?_
              intro e wz hd
              obtain ⟨rfl, hgz⟩ := hd.no HX.out
              have Hgz : Hid (w1.grownBy wz (some b)) := Lib.hid ⟨hgz.os, hgz.tape, hgz.output, hgz.size, hgz.block⟩
              exact ⟨rfl, by rw [HE.out]; exact ⟨grown_trans HL1.out.grown Hgz.out, rfl⟩⟩
            · refine AllReady.cons rfl (fun K hK => ?_) AllReady.nil
              go_simp
              refine (HV.out.calls q _ (HL1.out.rd.drewN 1) hq2 (tabs_grown HT1.out (grown_drewN (grown_refl w1 none) 1) (by simp) (by simp))).mono ?_
              intro e wz hd
              obtain ⟨rfl, hgz⟩ := hd.no HX.out
              have Hgz : Hid (w1.grownBy wz (some b)) := Lib.hid ⟨hgz.os, hgz.tape, hgz.output, hgz.size, hgz.block⟩
              exact ⟨rfl, by rw [HE.out]; exact ⟨grown_trans HL1.out.grown Hgz.out, rfl⟩⟩
          | ok v j =>
            have HX := Lib.hid hval
            obtain ⟨hj1, hj2⟩ := HV.out.fwd q v j hq2 hval
            clear hval
            go_upto_region 12 with (first
              | (go_at_call 27; refine Hsk.out.mono ?_; rintro e w1 ⟨rfl, hrd1, hg1⟩
                 have HL1 := Lib.hid (HL.out.keep hg1 hrd1 Hbn.out.1 Hbn.out.2.1)
                 have HR1 := Lib.hid (HRw.out.kept hg1 (fun g h _ => Hbn.out.2.2 g h))
                 have HT1 : Hid (Lib.Utf8Tabs 1 2 w1) := Lib.hid (tabs_grown HT0.out hg1 (by simp; omega) (by simp; omega))
                 have cL : w1.cell? ⟨Bj, 4, none⟩ = some (.slice A ls.length cp) := HL1.out.loc.at_ rfl
                 have c1 := HL1.out.rd.i
                 clear hrd1 hg1))
            go_cut [] (fun wx => ∃ (vl' : Value) (xs' : List Value) (G' : List Nat), Hid (LsAt w wx b s j N N0 Bj 4 (.slice none 0 0) (ls ++ [v]) vl') ∧ Hid (Rows_ wx N (ls ++ [v]) vl' xs' G'))
            case first =>
              have hln : ls.length ≤ 1073741824 := by omega
              have hwd : IntKind.i64.wrap (dep + 1) = dep + 1 := IntWalk.i64_in _ (by omega)
              go_region_law
                (first
                  | (have _ := w2; refine step_append29 rfl (.tmp 57) (.tmp 62) rfl N (.slice A ls.length cp) ls.length xs rfl HR3.out.1 w2.heap.size [p1, p2, p3, p4, p5] rfl Hr3.out Hj.out.five.1 Hj.out.cells hln HN3.out ?_
                     intro v5 w4 ho4 hg4 hl4
                     obtain ⟨A5, c5, rfl, -, -⟩ := ownsRow_val ho4
                     have Hst := Lib.hid (HL1.out.step HR1.out Hg2.out Hrd2.out Hj.out Hg3.out ho4 hg4 hl4 HNW.out HD.out.1 HD.out.2.1 (Nat.lt_trans HD.out.2.2.1 HD.out.2.2.2))
                     have c4 : w4.cell? ⟨Bj, 4, none⟩ = some (.slice A ls.length cp) := Row.at_ (Row.grown HB3.out hg4 (fun e => by have := (World.ownsRow.lt HR3.out.1 Bj e.symm).1; have := HD.out; omega)) rfl
                     have d4 : w4.frozen? ⟨Bj, 4, none⟩ = false := Row.frozen (Row.grown HB3.out hg4 (fun e => by have := (World.ownsRow.lt HR3.out.1 Bj e.symm).1; have := HD.out; omega)) 4
                     clear ho4 hg4 hl4)
                  | (go_simp; go_at_call 28; refine (HV.out.calls q _ (HL1.out.rd.drewN 1) hq2 (tabs_grown HT1.out (grown_drewN (grown_refl w1 none) 1) (by simp) (by simp))).mono ?_
                     intro e w2 hd
                     obtain ⟨cs, F, rfl, hj, hrd, hg⟩ := hd.ok HX.out
                     obtain ⟨p1, p2, p3, p4, p5, rfl⟩ := five_of hj.five.1
                     have Hg2 : Hid (w1.grownBy w2 (some b)) := Lib.hid ⟨hg.os, hg.tape, hg.output, hg.size, hg.block⟩
                     have Hj : Hid (JAt w2 w1.heap.size v [p1, p2, p3, p4, p5] F) := Lib.hid hj
                     have Hrd2 := Lib.hid hrd
                     have HL2 := Lib.hid (HL1.out.keep Hg2.out hrd Hbn.out.1 Hbn.out.2.1)
                     have HR2 := Lib.hid (HR1.out.kept Hg2.out (fun g h _ => Hbn.out.2.2 g h))
                     have cL2 : w2.cell? ⟨Bj, 4, none⟩ = some (.slice A ls.length cp) := HL2.out.loc.at_ rfl
                     have hg3 := World.grownBy_alloc w2 (.cells #[p1, p2, p3, p4, p5] 26) none
                     have HR3 : Hid (Rows_ (w2.alloc (.cells #[p1, p2, p3, p4, p5] 26)) N ls (.slice A ls.length cp) xs G) := Lib.hid (HR2.out.kept hg3 (fun _ _ _ => by simp))
                     have HB3 : Hid (Row (w2.alloc (.cells #[p1, p2, p3, p4, p5] 26)) Bj 26 (five 4 (.slice none 0 0) (.slice A ls.length cp))) := Lib.hid (HL2.out.loc.grown hg3 (by simp))
                     have HN3 : Hid (N ≤ (w2.alloc (.cells #[p1, p2, p3, p4, p5] 26)).heap.size) := Lib.hid (Nat.le_trans HL2.out.big hg3.size)
                     have cL3 : (w2.alloc (.cells #[p1, p2, p3, p4, p5] 26)).cell? ⟨Bj, 4, none⟩ = some (.slice A ls.length cp) := HB3.out.at_ rfl
                     have Hg3 := Lib.hid hg3
                     have Hr3 : Hid (Row (w2.alloc (.cells #[p1, p2, p3, p4, p5] 26)) w2.heap.size 26 [p1, p2, p3, p4, p5]) := Lib.hid (Row.new w2 [p1, p2, p3, p4, p5] 26)
                     clear hd hj hrd hg hg3))
              all_goals go_wp2_with fail
              all_goals
                go_meet
                case rel => exact ⟨_, _, _, Lib.hid Hst.out.1, Lib.hid Hst.out.2⟩
            case rest =>
              obtain ⟨vl2, xs2, G2, HL3, HR3⟩ := hcut
              have Hn : Hid (¬ (ls.length = 256 ∧ beginsB (ch s q) = true)) := Lib.hid (fun h => H256.out h.1)
              obtain ⟨A2, cp2, rfl, -, -⟩ := ownsRow_val HR3.out.1
              have Hvl2 : Hid (∀ u ∈ five 4 (.slice none 0 0) (.slice A2 (ls ++ [v]).length cp2), u.oneCell' = true) := Lib.hid (by intro u hu; simp [five] at hu; rcases hu with rfl | rfl | rfl | rfl | rfl <;> rfl)
              obtain ⟨M, hM⟩ : ∃ M, (ls ++ [v]).length = M := ⟨_, rfl⟩
              rw [hM] at HL3 HR3 Hvl2
              have HM := Lib.hid hM
              clear hM
              have hk1 := skip_ge s j
              have hk2 := skip_le hj2
              have hsk := skip_any b j s wc HL3.out.rd (by omega) hj2
              have hend := HLI.out.end_ Hn.out v j HX.out
              have hmore := HLI.out.more Hn.out v j HX.out
              have hbad := HLI.out.bad Hn.out v j HX.out
              obtain ⟨k, hk⟩ : ∃ k, skip s j = k := ⟨_, rfl⟩
              rw [hk] at hk1 hk2 hsk hend hmore hbad
              obtain ⟨c2, hc2⟩ : ∃ c, ch s k = c := ⟨_, rfl⟩
              have hlt2 := ch_pos (s := s) (i := k)
              rw [hc2] at hsk hend hmore hbad hlt2
              have Hsk2 := Lib.hid hsk
              have Hend := Lib.hid hend
              have Hmore := Lib.hid hmore
              have Hbad := Lib.hid hbad
              have Hlt2 := Lib.hid hlt2
              clear hk hc2 hsk hend hmore hbad hlt2
              by_cases h93 : c2 = 93
              · subst h93
                have HE := Lib.hid (Hend.out rfl)
                go_wp2_with (first
                  | (have _ := w5; refine wpList_load_Row rfl 26 _ rfl Bj rfl (five 4 (.slice none 0 0) (.slice A2 M cp2)) 26 (Row.set_other HL4.out.loc Hbn.out.2.1 _ _) _ Tryz.underlying26 rfl size29 ?_; simp only [Act.put, List.setIfInBounds_toArray, List.set_cons_zero, List.set_cons_succ])
                  | (have _ := w5; refine wpList_store_Row rfl 26 _ _ rfl N0 (five 4 (.slice none 0 0) (.slice A2 M cp2)) rfl rfl 26 zero5 (Row.set_other HL4.out.res Hbn.out.1 _ _) size29 rfl Hvl2.out ?_; intro w6 hr6 hg6 hs6; clear hs6; simp only [Act.put, List.setIfInBounds_toArray, List.set_cons_zero, List.set_cons_succ])
                  | (go_at_call 27; refine Hsk2.out.mono ?_; rintro e w5 ⟨rfl, hrd1, hg1⟩
                     have HL4 := Lib.hid (HL3.out.keep hg1 hrd1 Hbn.out.1 Hbn.out.2.1)
                     have HR4 := Lib.hid (HR3.out.kept hg1 (fun g h _ => Hbn.out.2.2 g h))
                     have c5 := HL4.out.rd.i
                     have d5 := HL4.out.rd.free 1
                     clear hrd1 hg1))
                refine bodyPost_ret (v := .agg (five 4 (.slice none 0 0) (.slice A2 M cp2)).toArray) (results_cell_row (p := 6) (ty := 26) rfl _ _ N0 26 (five 4 (.slice none 0 0) (.slice A2 M cp2)).toArray (0, 0) _ rfl hr6 Tryz.underlying26 rfl size29) rfl ?_
                rw [HE.out]
                exact HL4.out.done HR4.out (ks := []) (World.ownsRow_nil _ _ _ _) (fun g h => by cases h) hr6 hg6 HNW.out (by have := HD.out; omega) (by have := HD.out; omega)
              · by_cases h44 : c2 = 44
                · subst h44
                  have HE := Lib.hid (Hmore.out rfl)
                  have hlt3 := Hlt2.out (by decide)
                  go_wp2_with (first
                    | (go_at_call 27; refine Hsk2.out.mono ?_; rintro e w5 ⟨rfl, hrd1, hg1⟩
                       have HL4 := Lib.hid (HL3.out.keep hg1 hrd1 Hbn.out.1 Hbn.out.2.1)
                       have HR4 := Lib.hid (HR3.out.kept hg1 (fun g h _ => Hbn.out.2.2 g h))
                       have c5 := HL4.out.rd.i
                       have d5 := HL4.out.rd.free 1
                       clear hrd1 hg1))
                  go_roundg (s.size - (k + 1))
                  case measure => omega
                  case rel =>
                    have hgs := grown_set (grown_refl w5 (some b)) (.inl rfl) 1 (.int .i64 ((k + 1 : Nat) : Int))
                    exact ⟨f, k + 1, ls ++ [v], _, xs2, G2, by omega, rfl, by omega, by rw [HM.out]; have := HM.out; simp at this; omega, Lib.hid (HL4.out.keep hgs (HL4.out.rd.set (k + 1)) Hbn.out.1 Hbn.out.2.1), Lib.hid (HR4.out.kept hgs (fun g h _ => Hbn.out.2.2 g h)), Lib.hid ⟨fun h => by simp at h, fun _ => HE.out⟩⟩
                · have HE := Lib.hid (Hbad.out h93 h44)
                  have b93 : (c2 == 93) = false := by simpa using h93
                  have b44 : (c2 == 44) = false := by simpa using h44
                  clear h93 h44
                  go_wp2_with (first
                    | (have _ := w5; go_at_call 29; refine (fail_any _ 130 _).mono ?_; rintro e w6 ⟨rfl, rfl⟩)
                    | (go_at_call 27; refine Hsk2.out.mono ?_; rintro e w5 ⟨rfl, hrd1, hg1⟩
                       have HL4 := Lib.hid (HL3.out.keep hg1 hrd1 Hbn.out.1 Hbn.out.2.1)
                       have c5 := HL4.out.rd.i
                       clear hrd1 hg1))
                  exact ⟨rfl, by rw [HE.out]; exact ⟨HL4.out.grown, rfl⟩⟩
end Go.Proofs.YtlbilofnbhhmjaaGreatDoor
