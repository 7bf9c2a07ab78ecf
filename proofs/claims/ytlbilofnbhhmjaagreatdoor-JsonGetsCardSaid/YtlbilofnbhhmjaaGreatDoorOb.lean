/- What a round of an object's reading keeps: the list's rows, the keys' row, the set of the keys. -/
import Derived.Test.YtlbilofnbhhmjaaGreatDoorList
namespace Go.Proofs.YtlbilofnbhhmjaaGreatDoor
open Go.RowKit
set_option linter.unusedVariables false
set_option linter.unusedSimpArgs false
/-- One round of an object's reading, way by way. -/
structure ObIs (s : ByteArray) (val : Nat → R J) (f q : Nat) (ks : List ByteArray) (ls : List J) (RES : R J) : Prop where
  keyNo : ∀ j e, jkey s ks q = .no j e → RES = .no j e
  valNo : ∀ k j, jkey s ks q = .ok k j → ∀ j' e, val j = .no j' e → RES = .no j' e
  end_ : ∀ k j, jkey s ks q = .ok k j → ∀ v j', val j = .ok v j' → ch s (skip s j') = 125 → RES = .ok (.mk 5 false ⟨#[]⟩ (ks ++ [k]) (ls ++ [v])) (skip s j' + 1)
  more : ∀ k j, jkey s ks q = .ok k j → ∀ v j', val j = .ok v j' → ch s (skip s j') = 44 → itemsN s val true f (skip s (skip s j' + 1)) (ks ++ [k]) (ls ++ [v]) = RES
  bad : ∀ k j, jkey s ks q = .ok k j → ∀ v j', val j = .ok v j' → ch s (skip s j') ≠ 125 → ch s (skip s j') ≠ 44 → RES = .no (skip s j') 130
theorem obIs (s : ByteArray) (val : Nat → R J) (f q : Nat) (ks : List ByteArray) (ls : List J) : ObIs s val f q ks ls (itemsN s val true (f + 1) q ks ls) := by
  refine ⟨fun j e h => ?_, fun k j h j' e h1 => ?_, fun k j h v j' h1 h2 => ?_, fun k j h v j' h1 h2 => ?_, fun k j h v j' h1 h2 h3 => ?_⟩
  all_goals
    rw [itemsN.eq_def s val true (f + 1)]
    simp only [if_true]
    rw [h]
    try simp only
    try rw [h1]
    try simp only
  · rw [if_pos h2]
  · rw [if_neg (by omega), if_pos h2]
  · rw [if_neg h2, if_neg h3]
theorem jkey_ok {s : ByteArray} {ks : List ByteArray} {q j : Nat} {k : ByteArray} (hq : q ≤ s.size) (h : jkey s ks q = .ok k j) : q < j ∧ j ≤ s.size ∧ ch s q = 34 ∧ ks.length ≠ 256 := by
  by_cases h34 : ch s q = 34
  · have hlt := ch_pos (s := s) (i := q) (by omega)
    by_cases h256 : ks.length = 256
    · unfold jkey at h; rw [if_neg (by rw [h34]; simp), if_pos h256] at h; cases h
    · have hI := keyIs (s := s) (ks := ks) h34 h256
      rw [h] at hI
      cases hx : text s q with
      | no a e => have := hI.no_ _ _ hx; cases this
      | ok l a =>
        obtain ⟨g1, g2, _⟩ := text_ok hlt hx
        cases hd : ks.any (fun k => decide (k = str l)) with
        | true => have := hI.twice _ _ hx hd; cases this
        | false =>
          by_cases h58 : ch s (skip s a) = 58
          · have := hI.done _ _ hx hd h58
            injection this with _ e
            have := skip_ge s a
            have h3 := ch_pos (s := s) (i := skip s a) (by omega)
            have := skip_ge s (skip s a + 1)
            have := skip_le (s := s) (i := skip s a + 1) (by omega)
            exact ⟨by omega, by omega, h34, h256⟩
          · have := hI.colon _ _ hx hd h58; cases this
  · unfold jkey at h; rw [if_pos h34] at h; cases h
/-- An object that is read: the list that it has, the keys, all rows apart. -/
structure ObAt (W wr : World) (b : Nat) (s : ByteArray) (p N Br Bj : Nat) (ks : List ByteArray) (ls : List J) (vk vl : Value) (xs : List Value) (G : List Nat) : Prop where
  at_ : LsAt W wr b s p N Br Bj 5 vk ls vl
  rows : Rows_ wr N ls vl xs G
  keys : wr.ownsRow N 9 1 vk ks.length (ks.map Value.string)
  apart : ∀ g, vk.ownBlock = some g → g ∉ obs vl ++ G
section
variable {W wr : World} {b p N Br Bj : Nat} {s : ByteArray} {ks : List ByteArray} {ls : List J} {vk vl : Value} {xs : List Value} {G : List Nat}
theorem own_ne {w : World} {v : Value} {e size n : Nat} {xs : List Value} {x : Nat} (h : w.ownsRow N e size v n xs) (hx : x < N) : v.ownBlock = none ∨ v.ownBlock ≠ some x := by
  cases hb : v.ownBlock with
  | none => exact .inl rfl
  | some g => right; intro e; have := (World.ownsRow.lt h g hb).1; have := Option.some.inj e; omega
theorem ObAt.kept {w2 : World} {x : Nat} {p' : Nat} (h : ObAt W wr b s p N Br Bj ks ls vk vl xs G) (hg : wr.grownBy w2 (some x)) (hr : Rd w2 b s p') (h1 : Br ≠ x) (h2 : Bj ≠ x) (h3 : x < N) (h4 : x = b ∨ W.heap.size ≤ x) : ObAt W w2 b s p' N Br Bj ks ls vk vl xs G :=
  ⟨⟨hr, h.at_.res.grown hg (by simpa using h1), h.at_.loc.grown hg (by simpa using h2), grown_own h.at_.grown hg (fun i hi => by have := Option.some.inj hi; subst this; rcases h4 with e | e; exact .inl (by rw [e]); exact .inr e), Nat.le_trans h.at_.big hg.size⟩,
    h.rows.kept hg (fun g h1 h2 e => by have := Option.some.inj e; omega), World.ownsRow.kept h.keys hg (own_ne h.keys h3), h.apart⟩
theorem own_none {w : World} (v : Value) : v.ownBlock = none ∨ v.ownBlock ≠ (none : Option Nat) := by cases v.ownBlock <;> simp
theorem ObAt.quiet {w2 : World} (h : ObAt W wr b s p N Br Bj ks ls vk vl xs G) (hg : wr.grownBy w2 none) : ObAt W w2 b s p N Br Bj ks ls vk vl xs G :=
  ⟨⟨h.at_.rd.grown hg (by simp), h.at_.res.grown hg (by simp), h.at_.loc.grown hg (by simp), grown_own h.at_.grown hg (by simp), Nat.le_trans h.at_.big hg.size⟩,
    h.rows.kept hg (fun g h1 h2 => by simp), World.ownsRow.kept h.keys hg (own_none (w := wr) vk), h.apart⟩
theorem ObAt.set {p' : Nat} (h : ObAt W wr b s p N Br Bj ks ls vk vl xs G) (hr : Br ≠ b) (hj : Bj ≠ b) (hb : b < N) : ObAt W (wr.setCell ⟨b, 1, none⟩ (.int .i64 (p' : Int))) b s p' N Br Bj ks ls vk vl xs G :=
  h.kept (grown_set (grown_refl wr (some b)) (.inl rfl) 1 _) (h.at_.rd.set p') hr hj hb (.inl rfl)
/-- Two rows turn, one behind the other. -/
theorem ObAt.kept2 {wx w2 : World} {x : Nat} {p' : Nat} (h : ObAt W wr b s p N Br Bj ks ls vk vl xs G) (hg : wr.grownBy wx (some b)) (hg2 : wx.grownBy w2 (some x)) (hr : Rd w2 b s p') (h1 : Br ≠ b) (h2 : Bj ≠ b) (h3 : b < N) (k1 : Br ≠ x) (k2 : Bj ≠ x) (k3 : x < N) (k4 : W.heap.size ≤ x) : ObAt W w2 b s p' N Br Bj ks ls vk vl xs G :=
  ⟨⟨hr, (h.at_.res.grown hg (by simpa using h1)).grown hg2 (by simpa using k1), (h.at_.loc.grown hg (by simpa using h2)).grown hg2 (by simpa using k2), grown_own (grown_trans h.at_.grown hg) hg2 (fun i hi => by have := Option.some.inj hi; subst this; exact .inr k4), Nat.le_trans h.at_.big (Nat.le_trans hg.size hg2.size)⟩,
    (h.rows.kept hg (fun g h1 h2 e => by have := Option.some.inj e; omega)).kept hg2 (fun g h1 h2 e => by have := Option.some.inj e; omega), World.ownsRow.kept (World.ownsRow.kept h.keys hg (own_ne h.keys h3)) hg2 (own_ne h.keys k3), h.apart⟩
theorem KeyPost.ok {r : R ByteArray} {b m : Nat} {s : ByteArray} {ks : List ByteArray} {w w' : World} {e : Ending} (h : KeyPost r b m s ks w e w') {k : ByteArray} {j : Nat} (hr : r = .ok k j) :
    ∃ w1, e = .returned (.string k) ∧ Rd w' b s j ∧ Seen w' m (ks ++ [k]) ∧ w.grownBy w1 (some b) ∧ w1.grownBy w' (some m) := by
  subst hr; obtain ⟨⟨w1, g1, g2⟩, h1, h2, h3⟩ := h; exact ⟨w1, h1, h2, h3, g1, g2⟩
theorem KeyPost.no {r : R ByteArray} {b m : Nat} {s : ByteArray} {ks : List ByteArray} {w w' : World} {e : Ending} (h : KeyPost r b m s ks w e w') {er : Int} {j : Nat} (hr : r = .no j er) :
    ∃ w1, e = .panicked (oops j er) ∧ w.grownBy w1 (some b) ∧ w1.grownBy w' (some m) := by
  subst hr; obtain ⟨⟨w1, g1, g2⟩, h1⟩ := h; exact ⟨w1, h1, g1, g2⟩
/-- One key more. -/
theorem ObAt.key {w3 w4 : World} {vk' : Value} {k : ByteArray} (h : ObAt W wr b s p N Br Bj ks ls vk vl xs G) (hg3 : wr.grownBy w3 none) (ho : w4.ownsRow N 9 1 vk' (ks.length + 1) (ks.map Value.string ++ [.string k])) (hg4 : w3.grownBy w4 vk.ownBlock) (hl : ∀ g, vk'.ownBlock = some g → vk.ownBlock = some g ∨ w3.heap.size ≤ g)
    (hW : W.heap.size ≤ Br) (hb : b < Br) (h1 : Br < Bj) (h2 : Bj < N) : ObAt W (w4.setCell ⟨Bj, 3, none⟩ vk') b s p N Br Bj (ks ++ [k]) ls vk' vl xs G := by
  have hv : ∀ g, vk.ownBlock = some g → N ≤ g := fun g hg => (World.ownsRow.lt h.keys g hg).1
  have hne : ∀ x, x < N → some x ≠ vk.ownBlock := fun x hx e => by have := hv x e.symm; omega
  have h0 := h.quiet hg3
  have s3 := hg3.size
  have s4 := hg4.size
  have sN := h.at_.big
  have hgs : w4.grownBy (w4.setCell ⟨Bj, 3, none⟩ vk') (some Bj) := grown_set (grown_refl _ _) (.inl rfl) _ _
  have rb := (h0.at_.loc.grown hg4 (hne Bj h2)).set 3 vk'
  have ga : ∀ g, N ≤ g → g < w3.heap.size → (g ∈ obs vl ++ G) → some g ≠ vk.ownBlock := fun g _ _ hm e => h.apart g e.symm hm
  have hG := h.rows.2.1.lt
  have hvl : ∀ g, vl.ownBlock = some g → N ≤ g ∧ g < wr.heap.size := World.ownsRow.lt h.rows.1
  refine ⟨⟨(h0.at_.rd.grown hg4 (hne b (by omega))).grown hgs (by simp; omega), (h0.at_.res.grown hg4 (hne Br (by omega))).grown hgs (by simp; omega), rb, grown_set (grown_own (grown_own h.at_.grown hg3 (by simp)) hg4 (fun x hx => .inr (by have := hv x hx; omega))) (.inr (by omega)) _ _, by simp; omega⟩, ?_, ?_, fun g hg hm => ?_⟩
  · refine Rows_.kept ?_ hgs (fun g h1 _ e => by have := Option.some.inj e; omega)
    obtain ⟨q1, q2, q3⟩ := h0.rows
    refine ⟨World.ownsRow.kept q1 hg4 ?_, q2.kept hg4 (fun g hg e => h.apart g e.symm (by simp [hg])), q3⟩
    cases hb2 : vl.ownBlock with
    | none => exact .inl rfl
    | some g => right; intro e; exact h.apart g e.symm (by simp [obs_mem.2 hb2])
  · have hk := World.ownsRow.kept ho hgs (own_ne ho h2)
    simpa using hk
  · rcases hl g hg with e | e
    · exact h.apart g e hm
    · rcases List.mem_append.1 hm with hm | hm
      · have := hvl g (obs_mem.1 hm); omega
      · have := hG g hm; omega
/-- One value more. -/
theorem ObAt.val {w2 w3 w4 : World} {j : Nat} {vl' : Value} {v : J} {cs : List Value} {F : List Nat} (h : ObAt W wr b s p N Br Bj ks ls vk vl xs G) (hg2 : wr.grownBy w2 (some b)) (hrd : Rd w2 b s j)
    (hj : JAt w2 wr.heap.size v cs F) (hg3 : w2.grownBy w3 none) (ho : w4.ownsRow N 26 5 vl' (ls.length + 1) (xs ++ cs)) (hg4 : w3.grownBy w4 vl.ownBlock) (hl : ∀ k, vl'.ownBlock = some k → vl.ownBlock = some k ∨ w3.heap.size ≤ k)
    (hW : W.heap.size ≤ Br) (hb : b < Br) (h1 : Br < Bj) (h2 : Bj < N) :
    ObAt W (w4.setCell ⟨Bj, 4, none⟩ vl') b s j N Br Bj ks (ls ++ [v]) vk vl' (xs ++ cs) (G ++ F) := by
  obtain ⟨hA, hB⟩ := h.at_.step h.rows hg2 hrd hj hg3 ho hg4 hl hW hb h1 h2
  have s2 := hg2.size
  have s3 := hg3.size
  have hgs : w4.grownBy (w4.setCell ⟨Bj, 4, none⟩ vl') (some Bj) := grown_set (grown_refl _ _) (.inl rfl) _ _
  have hk : ∀ g, vk.ownBlock = some g → N ≤ g ∧ g < wr.heap.size := World.ownsRow.lt h.keys
  refine ⟨hA, hB, ?_, fun g hg hm => ?_⟩
  · refine World.ownsRow.kept (World.ownsRow.kept (World.ownsRow.kept (World.ownsRow.kept h.keys hg2 (own_ne h.keys (by omega))) hg3 (own_none (w := wr) vk)) hg4 ?_) hgs (own_ne h.keys h2)
    cases hb2 : vk.ownBlock with
    | none => exact .inl rfl
    | some g => right; intro e; exact h.apart g hb2 (by simp [obs_mem.2 e.symm])
  · have hgk := hk g hg
    have hF := hj.lt
    rcases List.mem_append.1 hm with hm | hm
    · rcases hl g (obs_mem.1 hm) with e | e
      · exact h.apart g hg (by simp [obs_mem.2 e])
      · omega
    · rcases List.mem_append.1 hm with hm | hm
      · exact h.apart g hg (by simp [hm])
      · have := hF g hm; omega
end
end Go.Proofs.YtlbilofnbhhmjaaGreatDoor
