/- What json's texts say, in plain Lean: bytes, blanks, numbers, escapes, texts, values. No program in it. How values lie in memory: the five cells of each, its keys and its list in rows of the call's own, all rows apart; what is kept as the world grows; appending to such rows. One more text, or one more value, at the end of a row of the call's own: the slice of one that is built, and the append; as operations of a list and of a region that draws its order. How values that are read lie in memory: the five cells of each, its keys and its list wherever they are; what is made is read. Sizes of a value and of all that lies in it. Only some blocks turn. Appending several elements at once to slices of the call's own. -/
import Derived.Lib.RuneBytes
import GoSem.Core.Utf8
import Derived.Laws.BytesArg
import Derived.WalkKit
import Derived.Test.YtlbilofnbhhmjaaGreatDoorLaws
import Derived.Great.BuildSlice
import Derived.Deep.RegionLaw
namespace Go.Proofs.YtlbilofnbhhmjaaGreatDoor
section
set_option linter.unusedVariables false
set_option linter.unusedSimpArgs false
/-- The byte at a place; 0 behind the end. -/
def ch (s : ByteArray) (i : Nat) : Int := if h : i < s.size then (s[i].toNat : Int) else 0
theorem ch_in {s : ByteArray} {i : Nat} (h : i < s.size) : ch s i = (s[i].toNat : Int) := by unfold ch; rw [dif_pos h]
theorem ch_out {s : ByteArray} {i : Nat} (h : s.size ≤ i) : ch s i = 0 := by unfold ch; rw [dif_neg (by omega)]
theorem ch_range (s : ByteArray) (i : Nat) : 0 ≤ ch s i ∧ ch s i ≤ 255 := by
  unfold ch
  split
  · have := UInt8.toNat_lt s[i]; omega
  · omega
theorem ch_pos {s : ByteArray} {i : Nat} (h : ch s i ≠ 0) : i < s.size := by
  rcases Nat.lt_or_ge i s.size with h1 | h1
  · exact h1
  · exact absurd (ch_out h1) h
/-- What a reading gives: something, and the place behind it; or the place where it gives up, and why. -/
inductive R (α : Type) where
  | ok (a : α) (to : Nat)
  | no (to : Nat) (e : Int)
def blankB (c : Int) : Bool := c == 32 || c == 9 || c == 10 || c == 13
def skipN (s : ByteArray) : Nat → Nat → Nat
  | 0, i => i
  | f + 1, i => if blankB (ch s i) then skipN s f (i + 1) else i
/-- The place behind the blanks. -/
def skip (s : ByteArray) (i : Nat) : Nat := skipN s (s.size - i) i
theorem skipN_step {s : ByteArray} {f i : Nat} (hf : s.size - i ≤ f) : skipN s f i = if blankB (ch s i) then skipN s (s.size - (i + 1)) (i + 1) else i := by
  have key : ∀ f g i, s.size - i ≤ f → s.size - i ≤ g → skipN s f i = skipN s g i := by
    intro f
    induction f with
    | zero =>
      intro g i hf hg
      cases g with
      | zero => rfl
      | succ g =>
        have : ch s i = 0 := ch_out (by omega)
        simp [skipN, this, blankB]
    | succ f ih =>
      intro g i hf hg
      cases g with
      | zero =>
        have : ch s i = 0 := ch_out (by omega)
        simp [skipN, this, blankB]
      | succ g =>
        unfold skipN
        rw [ih g (i + 1) (by omega) (by omega)]
  rw [key f (s.size - i + 1) i hf (by omega)]
  show (if blankB (ch s i) = true then skipN s (s.size - i) (i + 1) else i) = _
  rw [key (s.size - i) (s.size - (i + 1)) (i + 1) (by omega) (by omega)]
theorem skip_blank {s : ByteArray} {i : Nat} (h : blankB (ch s i) = true) : skip s i = skip s (i + 1) := by
  unfold skip; rw [skipN_step (Nat.le_refl _), if_pos h]
theorem skip_stop {s : ByteArray} {i : Nat} (h : blankB (ch s i) = false) : skip s i = i := by
  unfold skip; rw [skipN_step (Nat.le_refl _), if_neg (by rw [h]; simp)]
theorem skip_spec (s : ByteArray) : ∀ (n i : Nat), s.size - i ≤ n → i ≤ skip s i ∧ (i ≤ s.size → skip s i ≤ s.size) ∧ blankB (ch s (skip s i)) = false
  | 0, i, h => by
    have h0 : ch s i = 0 := ch_out (by omega)
    have hb : blankB (ch s i) = false := by rw [h0]; rfl
    rw [skip_stop hb]
    exact ⟨Nat.le_refl _, id, hb⟩
  | n + 1, i, h => by
    by_cases hb : blankB (ch s i) = true
    · have hi : i < s.size := ch_pos (fun e => by rw [e] at hb; cases hb)
      obtain ⟨a, b, c⟩ := skip_spec s n (i + 1) (by omega)
      rw [skip_blank hb]
      exact ⟨by omega, fun _ => b (by omega), c⟩
    · have hb' : blankB (ch s i) = false := by simpa using hb
      rw [skip_stop hb']
      exact ⟨Nat.le_refl _, id, hb'⟩
theorem skip_ge (s : ByteArray) (i : Nat) : i ≤ skip s i := (skip_spec s _ i (Nat.le_refl _)).1
theorem skip_le {s : ByteArray} {i : Nat} (h : i ≤ s.size) : skip s i ≤ s.size := (skip_spec s _ i (Nat.le_refl _)).2.1 h
theorem skip_at (s : ByteArray) (i : Nat) : blankB (ch s (skip s i)) = false := (skip_spec s _ i (Nat.le_refl _)).2.2
def digitB (c : Int) : Bool := decide (48 ≤ c) && decide (c ≤ 57)
def beginsB (c : Int) : Bool := c == 123 || c == 91 || c == 34 || c == 45 || c == 116 || c == 102 || c == 110 || digitB c
/-! ### Numbers -/
def digitsN (s : ByteArray) : Nat → Nat → Nat
  | 0, i => i
  | f + 1, i => if digitB (ch s i) then digitsN s f (i + 1) else i
/-- The place behind the digits. -/
def digits (s : ByteArray) (i : Nat) : Nat := digitsN s (s.size - i) i
theorem digitsN_step {s : ByteArray} {f i : Nat} (hf : s.size - i ≤ f) : digitsN s f i = if digitB (ch s i) then digitsN s (s.size - (i + 1)) (i + 1) else i := by
  have key : ∀ f g i, s.size - i ≤ f → s.size - i ≤ g → digitsN s f i = digitsN s g i := by
    intro f
    induction f with
    | zero =>
      intro g i hf hg
      cases g with
      | zero => rfl
      | succ g =>
        have : ch s i = 0 := ch_out (by omega)
        simp [digitsN, this, digitB]
    | succ f ih =>
      intro g i hf hg
      cases g with
      | zero =>
        have : ch s i = 0 := ch_out (by omega)
        simp [digitsN, this, digitB]
      | succ g =>
        unfold digitsN
        rw [ih g (i + 1) (by omega) (by omega)]
  rw [key f (s.size - i + 1) i hf (by omega)]
  show (if digitB (ch s i) = true then digitsN s (s.size - i) (i + 1) else i) = _
  rw [key (s.size - i) (s.size - (i + 1)) (i + 1) (by omega) (by omega)]
theorem digits_go {s : ByteArray} {i : Nat} (h : digitB (ch s i) = true) : digits s i = digits s (i + 1) := by
  unfold digits; rw [digitsN_step (Nat.le_refl _), if_pos h]
theorem digits_stop {s : ByteArray} {i : Nat} (h : digitB (ch s i) = false) : digits s i = i := by
  unfold digits; rw [digitsN_step (Nat.le_refl _), if_neg (by rw [h]; simp)]
theorem digits_spec (s : ByteArray) : ∀ (n i : Nat), s.size - i ≤ n → i ≤ digits s i ∧ (i ≤ s.size → digits s i ≤ s.size)
  | 0, i, h => by
    have h0 : ch s i = 0 := ch_out (by omega)
    have hb : digitB (ch s i) = false := by rw [h0]; rfl
    rw [digits_stop hb]
    exact ⟨Nat.le_refl _, id⟩
  | n + 1, i, h => by
    by_cases hb : digitB (ch s i) = true
    · have hi : i < s.size := ch_pos (fun e => by rw [e] at hb; cases hb)
      obtain ⟨a, b⟩ := digits_spec s n (i + 1) (by omega)
      rw [digits_go hb]
      exact ⟨by omega, fun _ => b (by omega)⟩
    · have hb' : digitB (ch s i) = false := by simpa using hb
      rw [digits_stop hb']
      exact ⟨Nat.le_refl _, id⟩
theorem digits_ge (s : ByteArray) (i : Nat) : i ≤ digits s i := (digits_spec s _ i (Nat.le_refl _)).1
theorem digits_le {s : ByteArray} {i : Nat} (h : i ≤ s.size) : digits s i ≤ s.size := (digits_spec s _ i (Nat.le_refl _)).2 h
/-- Behind at least one digit. -/
def run1 (s : ByteArray) (i : Nat) : R Unit := if digits s i = i then .no i 130 else .ok () (digits s i)
def numExp (s : ByteArray) (i : Nat) : R Unit :=
  if ch s i = 101 ∨ ch s i = 69 then run1 s (if ch s (i + 1) = 43 ∨ ch s (i + 1) = 45 then i + 2 else i + 1) else .ok () i
def numFrac (s : ByteArray) (i : Nat) : R Unit :=
  if ch s i = 46 then match run1 s (i + 1) with
    | .ok _ j => numExp s j
    | .no j e => .no j e
  else numExp s i
def numInt (s : ByteArray) (i : Nat) : R Unit :=
  if ch s i = 48 then numFrac s (i + 1) else match run1 s i with
    | .ok _ j => numFrac s j
    | .no j e => .no j e
/-- The number that begins at a place. -/
def num (s : ByteArray) (i : Nat) : R Unit := numInt s (if ch s i = 45 then i + 1 else i)
/-! ### Words -/
def wordAt (s w : ByteArray) : Nat → Nat → R Unit
  | 0, i => .ok () i
  | f + 1, i => if ch s i = ch w (w.size - (f + 1)) then wordAt s w f (i + 1) else .no i 130
def word (s w : ByteArray) (i : Nat) : R Unit := wordAt s w w.size i
/-! ### Escapes -/
def hexv (c : Int) : Option Int :=
  if 48 ≤ c ∧ c ≤ 57 then some (c - 48) else if 97 ≤ c ∧ c ≤ 102 then some (c - 87) else if 65 ≤ c ∧ c ≤ 70 then some (c - 55) else none
def fourN (s : ByteArray) : Nat → Int → Nat → R Int
  | 0, v, i => .ok v i
  | f + 1, v, i => match hexv (ch s i) with
    | some d => fourN s f (16 * v + d) (i + 1)
    | none => .no i 130
def four (s : ByteArray) (i : Nat) : R Int := fourN s 4 0 i
/-- An escape of digits, or a pair of them, whose backslash stands at a place. -/
def signOf (s : ByteArray) (i : Nat) : R Int :=
  match four s (i + 2) with
  | .no j e => .no j e
  | .ok v j =>
    if v < 55296 ∨ 57343 < v then .ok v j
    else if 56319 < v ∨ ch s j ≠ 92 ∨ ch s (j + 1) ≠ 117 then .no i 131
    else match four s (j + 2) with
      | .no k e => .no k e
      | .ok w k => if w < 56320 ∨ 57343 < w then .no i 131 else .ok (65536 + (v - 55296) * 1024 + (w - 56320)) k
def escape (s : ByteArray) (i : Nat) : R Int :=
  if ch s (i + 1) = 34 ∨ ch s (i + 1) = 92 ∨ ch s (i + 1) = 47 then .ok (ch s (i + 1)) (i + 2)
  else if ch s (i + 1) = 98 then .ok 8 (i + 2)
  else if ch s (i + 1) = 102 then .ok 12 (i + 2)
  else if ch s (i + 1) = 110 then .ok 10 (i + 2)
  else if ch s (i + 1) = 114 then .ok 13 (i + 2)
  else if ch s (i + 1) = 116 then .ok 9 (i + 2)
  else if ch s (i + 1) = 117 then signOf s i
  else .no (i + 1) 130
/-! ### Texts -/
/-- The rune that begins at a place, and its bytes; 0 bytes: none. -/
def runeAt (s : ByteArray) (i : Nat) : Int × Nat := let d := Utf8.decode s i; if d.1 = 65533 ∧ d.2 < 2 then (65533, 0) else (d.1, d.2)
def textN (s : ByteArray) : Nat → Nat → List Int → R (List Int)
  | 0, i, _ => .no i 0
  | f + 1, i, acc =>
    if s.size ≤ i ∨ ch s i < 32 then .no i 130
    else if ch s i = 34 then .ok acc (i + 1)
    else if ch s i = 92 then match escape s i with
      | .ok v j => textN s f j (acc ++ Lib.encodeRuneZ v)
      | .no j e => .no j e
    else if (runeAt s i).2 = 0 then .no i 131
    else textN s f (i + (runeAt s i).2) (acc ++ Lib.encodeRuneZ (runeAt s i).1)
/-- The text whose quote stands at a place. -/
def text (s : ByteArray) (i : Nat) : R (List Int) := textN s (s.size + 1) (i + 1) []
/-- The string of some bytes. -/
abbrev str (l : List Int) : ByteArray := strOfNums l
/-! ### Values -/
inductive J where
  | mk (kind : Int) (bool : Bool) (text : ByteArray) (keys : List ByteArray) (list : List J)
/-- The key of a member, the colon, the blanks. -/
def jkey (s : ByteArray) (keys : List ByteArray) (i : Nat) : R ByteArray :=
  if ch s i ≠ 34 then .no i 130
  else if keys.length = 256 then .no i 3
  else match text s i with
    | .no j e => .no j e
    | .ok l j =>
      if keys.any (fun k => decide (k = str l)) = true then .no i 132
      else if ch s (skip s j) ≠ 58 then .no (skip s j) 130
      else .ok (str l) (skip s (skip s j + 1))
def itemsN (s : ByteArray) (val : Nat → R J) (obj : Bool) : Nat → Nat → List ByteArray → List J → R J
  | 0, i, _, _ => .no i 0
  | f + 1, i, ks, ls =>
    if obj then match jkey s ks i with
      | .no j e => .no j e
      | .ok k j => match val j with
        | .no j e => .no j e
        | .ok v j =>
          if ch s (skip s j) = 125 then .ok (.mk 5 false ⟨#[]⟩ (ks ++ [k]) (ls ++ [v])) (skip s j + 1)
          else if ch s (skip s j) = 44 then itemsN s val obj f (skip s (skip s j + 1)) (ks ++ [k]) (ls ++ [v])
          else .no (skip s j) 130
    else if ls.length = 256 ∧ beginsB (ch s i) = true then .no i 3
    else match val i with
      | .no j e => .no j e
      | .ok v j =>
        if ch s (skip s j) = 93 then .ok (.mk 4 false ⟨#[]⟩ ks (ls ++ [v])) (skip s j + 1)
        else if ch s (skip s j) = 44 then itemsN s val obj f (skip s (skip s j + 1)) ks (ls ++ [v])
        else .no (skip s j) 130
/-- A list, or an object, whose bracket stands at a place. -/
def members (s : ByteArray) (val : Nat → R J) (obj : Bool) (i : Nat) : R J :=
  if ch s (skip s (i + 1)) = (if obj then 125 else 93) then .ok (.mk (if obj then 5 else 4) false ⟨#[]⟩ [] []) (skip s (i + 1) + 1)
  else itemsN s val obj (s.size + 1) (skip s (i + 1)) [] []
/-- The value that begins at a place; so many depths are left. -/
def value (s : ByteArray) : Nat → Nat → R J
  | 0, i => if beginsB (ch s i) then .no i 133 else .no i 130
  | d + 1, i =>
    if beginsB (ch s i) = false then .no i 130
    else if ch s i = 123 then members s (value s d) true i
    else if ch s i = 91 then members s (value s d) false i
    else if ch s i = 34 then match text s i with
      | .ok l j => .ok (.mk 3 false (str l) [] []) j
      | .no j e => .no j e
    else if ch s i = 116 then match word s ⟨#[116, 114, 117, 101]⟩ i with
      | .ok _ j => .ok (.mk 1 true ⟨#[]⟩ [] []) j
      | .no j e => .no j e
    else if ch s i = 102 then match word s ⟨#[102, 97, 108, 115, 101]⟩ i with
      | .ok _ j => .ok (.mk 1 false ⟨#[]⟩ [] []) j
      | .no j e => .no j e
    else if ch s i = 110 then match word s ⟨#[110, 117, 108, 108]⟩ i with
      | .ok _ j => .ok (.mk 0 false ⟨#[]⟩ [] []) j
      | .no j e => .no j e
    else match num s i with
      | .ok _ j => .ok (.mk 2 false (s.extract i j) [] []) j
      | .no j e => .no j e
/-- What stands for no value. -/
def J.zero : J := .mk 0 false ⟨#[]⟩ [] []
/-- A whole text: the value, the place, the error. -/
def parse (s : ByteArray) : J × Nat × Int :=
  if 8192 < s.size then (J.zero, 0, 3)
  else match value s 16 (skip s 0) with
    | .no j e => (J.zero, j, e)
    | .ok v j => if skip s j < s.size then (J.zero, skip s j, 130) else (v, 0, 0)
end
section
open Go.RowKit
set_option linter.unusedVariables false
set_option linter.unusedSimpArgs false
def obs (v : Value) : List Nat := v.ownBlock.toList
mutual
/-- These five cells are this value; the rows that it has, all of the call's own and apart, lie in these blocks. -/
def JAt (w : World) (lo : Nat) : J → List Value → List Nat → Prop
  | .mk kd b t ks ls, cs, F => ∃ vk vl xs G, cs = [.int .i8 kd, .bool b, .string t, vk, vl] ∧ w.ownsRow lo 9 1 vk ks.length (ks.map Value.string) ∧ w.ownsRow lo 26 5 vl ls.length xs ∧ JsAt w lo ls xs G ∧ F = obs vk ++ (obs vl ++ G) ∧ F.Nodup
def JsAt (w : World) (lo : Nat) : List J → List Value → List Nat → Prop
  | [], xs, F => xs = [] ∧ F = []
  | j :: js, xs, F => ∃ cs ds G H, xs = cs ++ ds ∧ JAt w lo j cs G ∧ JsAt w lo js ds H ∧ F = G ++ H ∧ F.Nodup
end
theorem obs_mem {v : Value} {g : Nat} : g ∈ obs v ↔ v.ownBlock = some g := by unfold obs; simp [Option.mem_toList]
mutual
theorem JAt.kept {w w' : World} {lo : Nat} {row : Option Nat} (hg : w.grownBy w' row) : ∀ {j : J} {cs : List Value} {F : List Nat}, JAt w lo j cs F → (∀ g ∈ F, some g ≠ row) → JAt w' lo j cs F
  | .mk kd b t ks ls, cs, F, h, hF => by
    unfold JAt at h ⊢
    obtain ⟨vk, vl, xs, G, h1, h2, h3, h4, h5, h6⟩ := h
    subst h5
    have hr : ∀ v : Value, (∀ g ∈ obs v, some g ≠ row) → v.ownBlock = none ∨ v.ownBlock ≠ row := fun v hv => by
      cases hb : v.ownBlock with
      | none => exact .inl rfl
      | some g => exact .inr (hv g (obs_mem.2 hb))
    exact ⟨vk, vl, xs, G, h1, World.ownsRow.kept h2 hg (hr vk fun g hg => hF g (by simp [hg])), World.ownsRow.kept h3 hg (hr vl fun g hg => hF g (by simp [hg])), JsAt.kept hg h4 (fun g hg => hF g (by simp [hg])), rfl, h6⟩
theorem JsAt.kept {w w' : World} {lo : Nat} {row : Option Nat} (hg : w.grownBy w' row) : ∀ {js : List J} {xs : List Value} {F : List Nat}, JsAt w lo js xs F → (∀ g ∈ F, some g ≠ row) → JsAt w' lo js xs F
  | [], xs, F, h, hF => by unfold JsAt at h ⊢; exact h
  | j :: js, xs, F, h, hF => by
    unfold JsAt at h ⊢
    obtain ⟨cs, ds, G, H, h1, h2, h3, h4, h5⟩ := h
    subst h4
    exact ⟨cs, ds, G, H, h1, JAt.kept hg h2 (fun g hg => hF g (by simp [hg])), JsAt.kept hg h3 (fun g hg => hF g (by simp [hg])), rfl, h5⟩
end
theorem ownsRow_mono {w : World} {lo lo' e size n : Nat} {v : Value} {xs : List Value} (h : w.ownsRow lo e size v n xs) (hl : lo' ≤ lo) : w.ownsRow lo' e size v n xs := by
  refine ⟨h.1, ?_⟩
  rcases h.2 with h | ⟨g, cap, cur, h1, h2, h3⟩
  · exact .inl h
  · exact .inr ⟨g, cap, cur, h1, Nat.le_trans hl h2, h3⟩
mutual
theorem JAt.mono {w : World} {lo lo' : Nat} (hl : lo' ≤ lo) : ∀ {j : J} {cs : List Value} {F : List Nat}, JAt w lo j cs F → JAt w lo' j cs F
  | .mk kd b t ks ls, cs, F, h => by
    unfold JAt at h ⊢
    obtain ⟨vk, vl, xs, G, h1, h2, h3, h4, h5, h6⟩ := h
    exact ⟨vk, vl, xs, G, h1, ownsRow_mono h2 hl, ownsRow_mono h3 hl, JsAt.mono hl h4, h5, h6⟩
theorem JsAt.mono {w : World} {lo lo' : Nat} (hl : lo' ≤ lo) : ∀ {js : List J} {xs : List Value} {F : List Nat}, JsAt w lo js xs F → JsAt w lo' js xs F
  | [], xs, F, h => by unfold JsAt at h ⊢; exact h
  | j :: js, xs, F, h => by
    unfold JsAt at h ⊢
    obtain ⟨cs, ds, G, H, h1, h2, h3, h4, h5⟩ := h
    exact ⟨cs, ds, G, H, h1, JAt.mono hl h2, JsAt.mono hl h3, h4, h5⟩
end
mutual
theorem JAt.lt {w : World} {lo : Nat} : ∀ {j : J} {cs : List Value} {F : List Nat}, JAt w lo j cs F → ∀ g ∈ F, lo ≤ g ∧ g < w.heap.size
  | .mk kd b t ks ls, cs, F, h => by
    unfold JAt at h
    obtain ⟨vk, vl, xs, G, h1, h2, h3, h4, h5, h6⟩ := h
    subst h5
    intro g hg
    rcases List.mem_append.1 hg with hg | hg
    · exact World.ownsRow.lt h2 g (obs_mem.1 hg)
    · rcases List.mem_append.1 hg with hg | hg
      · exact World.ownsRow.lt h3 g (obs_mem.1 hg)
      · exact JsAt.lt h4 g hg
theorem JsAt.lt {w : World} {lo : Nat} : ∀ {js : List J} {xs : List Value} {F : List Nat}, JsAt w lo js xs F → ∀ g ∈ F, lo ≤ g ∧ g < w.heap.size
  | [], xs, F, h => by unfold JsAt at h; obtain ⟨_, rfl⟩ := h; intro g hg; cases hg
  | j :: js, xs, F, h => by
    unfold JsAt at h
    obtain ⟨cs, ds, G, H, h1, h2, h3, h4, h5⟩ := h
    subst h4
    intro g hg
    rcases List.mem_append.1 hg with hg | hg
    · exact JAt.lt h2 g hg
    · exact JsAt.lt h3 g hg
end
theorem JAt.five {w : World} {lo : Nat} {j : J} {cs : List Value} {F : List Nat} (h : JAt w lo j cs F) : cs.length = 5 ∧ F.Nodup := by
  cases j; unfold JAt at h; obtain ⟨vk, vl, xs, G, h1, _, _, _, _, h6⟩ := h; subst h1; exact ⟨rfl, h6⟩
theorem JsAt.nodup {w : World} {lo : Nat} : ∀ {js : List J} {xs : List Value} {F : List Nat}, JsAt w lo js xs F → F.Nodup
  | [], xs, F, h => by unfold JsAt at h; obtain ⟨_, rfl⟩ := h; exact List.nodup_nil
  | j :: js, xs, F, h => by unfold JsAt at h; obtain ⟨cs, ds, G, H, h1, h2, h3, h4, h5⟩ := h; exact h5
theorem ownsRow_val {w : World} {lo e size n : Nat} {v : Value} {xs : List Value} (h : w.ownsRow lo e size v n xs) : ∃ A c, v = .slice A n c ∧ (A = none → n = 0 ∧ c = 0) ∧ n ≤ c := by
  rcases h.2 with ⟨rfl, rfl⟩ | ⟨g, cap, cur, rfl, hb, hg, hn, _⟩
  · exact ⟨none, 0, rfl, fun _ => ⟨rfl, rfl⟩, Nat.le_refl _⟩
  · exact ⟨_, cap, rfl, (by intro h; cases h), hn⟩
theorem JAt.cells {w : World} {lo : Nat} {j : J} {cs : List Value} {F : List Nat} (h : JAt w lo j cs F) : ∀ v ∈ cs, v.oneCell' = true := by
  cases j; unfold JAt at h; obtain ⟨vk, vl, xs, G, rfl, h2, h3, _, _, h6⟩ := h
  obtain ⟨A, c, rfl, _⟩ := ownsRow_val h2
  obtain ⟨B, d, rfl, _⟩ := ownsRow_val h3
  intro v hv
  simp at hv
  rcases hv with rfl | rfl | rfl | rfl | rfl <;> rfl
theorem JsAt.length {w : World} {lo : Nat} : ∀ {js : List J} {xs : List Value} {F : List Nat}, JsAt w lo js xs F → xs.length = js.length * 5
  | [], xs, F, h => by unfold JsAt at h; obtain ⟨rfl, _⟩ := h; rfl
  | j :: js, xs, F, h => by
    unfold JsAt at h
    obtain ⟨cs, ds, G, H, rfl, h2, h3, _⟩ := h
    rw [List.length_append, h2.five.1, JsAt.length h3, List.length_cons]; omega
theorem JsAt.snoc {w : World} {lo : Nat} : ∀ {js : List J} {xs : List Value} {F : List Nat} {j : J} {cs : List Value} {G : List Nat}, JsAt w lo js xs F → JAt w lo j cs G → (∀ g ∈ F, g ∉ G) → JsAt w lo (js ++ [j]) (xs ++ cs) (F ++ G)
  | [], xs, F, j, cs, G, h, k, hd => by
    unfold JsAt at h; obtain ⟨rfl, rfl⟩ := h
    show JsAt w lo [j] cs G
    unfold JsAt
    exact ⟨cs, [], G, [], by simp, k, by unfold JsAt; exact ⟨rfl, rfl⟩, by simp, k.five.2⟩
  | i :: js, xs, F, j, cs, G, h, k, hd => by
    unfold JsAt at h
    obtain ⟨ds, es, H, I, rfl, h2, h3, rfl, h5⟩ := h
    show JsAt w lo (i :: (js ++ [j])) _ _
    unfold JsAt
    have hr := JsAt.snoc h3 k (fun g hg => hd g (by simp [hg]))
    refine ⟨ds, es ++ cs, H, I ++ G, by simp, h2, hr, by simp, ?_⟩
    rw [List.append_assoc] at *
    have h6 := hr.nodup
    rw [List.nodup_append] at h5 ⊢
    refine ⟨h5.1, h6, fun a ha b hb e => ?_⟩
    subst e
    rcases List.mem_append.1 hb with hb | hb
    · exact h5.2.2 a ha a hb rfl
    · exact hd a (by simp [ha]) hb
theorem jsAt_nil (w : World) (lo : Nat) : JsAt w lo [] [] [] := by unfold JsAt; exact ⟨rfl, rfl⟩
end
section
open Go.RowKit
set_option linter.unusedVariables false
set_option linter.unusedSimpArgs false
theorem info29 : Tryz.prog.info? 26 = some (Tryz.prog.info? 26).get! := by kernel_rfl
theorem info9 : Tryz.prog.info? 9 = some (Tryz.prog.info? 9).get! := by kernel_rfl
theorem size29 : (Tryz.prog.info? 26).map (·.size) = some 5 := by kernel_rfl
theorem zero29 (w : World) : (zeroValue 26).run Tryz.prog w = .ok (.agg #[.int .i8 0, .bool false, .string ⟨#[]⟩, .slice none 0 0, .slice none 0 0]) w := by kernel_rfl
theorem zi29 : (Tryz.prog.info? 26).get!.zero = some (.agg #[.int .i8 0, .bool false, .string ⟨#[]⟩, .slice none 0 0, .slice none 0 0]) := by kernel_rfl
theorem zi9 : (Tryz.prog.info? 9).get!.zero = some (.string ⟨#[]⟩) := by kernel_rfl
theorem si29 : (Tryz.prog.info? 26).get!.size = 5 := by kernel_rfl
theorem si9 : (Tryz.prog.info? 9).get!.size = 1 := by kernel_rfl
theorem bi29 : (Tryz.prog.info? 26).get!.bytes = 72 := by kernel_rfl
theorem bi9 : (Tryz.prog.info? 9).get!.bytes = 16 := by kernel_rfl
theorem run_build29 (w : World) (a b c d e : Value) : (Instr.buildSlice 24 1 #[(0, .agg #[a, b, c, d, e])]).run Tryz.prog w = .ok (.slice (some ⟨w.heap.size, 0, none⟩) 1 1) (w.alloc (.cells #[a, b, c, d, e] 26)) := by
  refine run_buildSlice w 24 26 1 _ #[a, b, c, d, e] _ _ Tryz.underlying24 info29 zi29 (by rw [si29]; decide) (by rw [si29]; decide) ?_
  rw [si29, show Array.range (1 * 5) = #[0, 1, 2, 3, 4] from rfl]
  simp [Instr.fill, Value.cells]
theorem run_build9 (w : World) (s : ByteArray) : (Instr.buildSlice 23 1 #[(0, .string s)]).run Tryz.prog w = .ok (.slice (some ⟨w.heap.size, 0, none⟩) 1 1) (w.alloc (.cells #[.string s] 9)) := by
  refine run_buildSlice w 23 9 1 _ #[.string s] _ _ Tryz.underlying23 info9 zi9 (by rw [si9]; decide) (by rw [si9]; decide) ?_
  rw [si9, show Array.range (1 * 1) = #[0] from rfl]
  simp [Instr.fill, Value.cells]
section
variable {ops : Array Oper} {o : Oper} {a : Act} {w : World} {K : Act → World → Prop} {Q : Exit → Act → World → Prop}
theorem step_build29 (hw : Region.wanted o (yielded ops a.tmps) = true) (x : Operand) (ho : o.op = .buildSlice 24 1 #[(0, x)]) (cs : List Value) (hx : a.eval x = .agg cs.toArray) (hcs : cs.length = 5)
    (h : ∀ w', Row w' w.heap.size 26 cs → w.grownBy w' none → K (a.put o.dst (.slice (some ⟨w.heap.size, 0, none⟩) 1 1)) w') :
    if Region.wanted o (yielded ops a.tmps) = true then Oper.wp Tryz.prog o a w K Q else K (a.put o.dst undef) w := by
  rw [if_pos hw]
  match cs, hcs with
  | [p, q, r, s, t], _ =>
    have hrun := run_build29 w p q r s t
    unfold Oper.wp execOp
    simp only [ho, List.map_toArray, List.map_cons, List.map_nil, hx, Sem.run_bind, hrun, Result.andThen_ok]
    exact h _ (Row.new w [p, q, r, s, t] 26) (grown_new _ _).1
theorem step_build9 (hw : Region.wanted o (yielded ops a.tmps) = true) (x : Operand) (ho : o.op = .buildSlice 23 1 #[(0, x)]) (s : ByteArray) (hx : a.eval x = .string s)
    (h : ∀ w', Row w' w.heap.size 9 [.string s] → w.grownBy w' none → K (a.put o.dst (.slice (some ⟨w.heap.size, 0, none⟩) 1 1)) w') :
    if Region.wanted o (yielded ops a.tmps) = true then Oper.wp Tryz.prog o a w K Q else K (a.put o.dst undef) w := by
  rw [if_pos hw]
  have hrun := run_build9 w s
  unfold Oper.wp execOp
  simp only [ho, List.map_toArray, List.map_cons, List.map_nil, hx, Sem.run_bind, hrun, Result.andThen_ok]
  exact h _ (Row.new w [.string s] 9) (grown_new _ _).1
theorem row_news {b T : Nat} {cs : List Value} (h : Row w b T cs) : ∀ (j : Nat) u, cs[j]? = some u → w.cell? ((⟨b, 0, none⟩ : Addr).add j) = some u := fun j u hu => by
  rw [Addr.add_lit, Nat.zero_add]; exact h.at_ hu
theorem step_append29 (hw : Region.wanted o (yielded ops a.tmps) = true) (s x : Operand) (ho : o.op = .call { callee := .builtin .append, args := #[s, x], argTypes := #[24, 24] })
    (base : Nat) (v : Value) (n : Nat) (xs : List Value) (hs : a.eval s = v) (hown : w.ownsRow base 26 5 v n xs) (g : Nat) (cs : List Value) (hx : a.eval x = .slice (some ⟨g, 0, none⟩) 1 1) (hrow : Row w g 26 cs) (hcs : cs.length = 5) (h1 : ∀ u ∈ cs, u.oneCell' = true)
    (hn : n ≤ 1073741824) (hbase : base ≤ w.heap.size)
    (h : ∀ v' w', w'.ownsRow base 26 5 v' (n + 1) (xs ++ cs) → w.grownBy w' v.ownBlock → (∀ k, v'.ownBlock = some k → v.ownBlock = some k ∨ w.heap.size ≤ k) → K (a.put o.dst v') w') :
    if Region.wanted o (yielded ops a.tmps) = true then Oper.wp Tryz.prog o a w K Q else K (a.put o.dst undef) w := by
  rw [if_pos hw]
  obtain ⟨v', w', hr, h2, h3, h4⟩ := run_append_block (P := Tryz.prog) w base 24 o.type 26 _ _ 5 72 Tryz.underlying24 info29 zi29 si29 bi29 rfl (by decide) v n xs hown ⟨g, 0, none⟩ 1 1 cs (by omega) (row_news hrow) h1 (by unfold maxLen; omega) (by omega) hbase
  unfold Oper.wp execOp
  simp only [ho, resolve, invoke, builtin, Sem.run_bind, Sem.run_pure, Result.andThen_ok, List.map_toArray, List.map_cons, List.map_nil, hs, hx, hr]
  exact h _ _ h2 h3 h4
theorem step_append9 (hw : Region.wanted o (yielded ops a.tmps) = true) (s x : Operand) (ho : o.op = .call { callee := .builtin .append, args := #[s, x], argTypes := #[23, 23] })
    (base : Nat) (v : Value) (n : Nat) (xs : List Value) (hs : a.eval s = v) (hown : w.ownsRow base 9 1 v n xs) (g : Nat) (u : ByteArray) (hx : a.eval x = .slice (some ⟨g, 0, none⟩) 1 1) (hrow : Row w g 9 [.string u])
    (hn : n ≤ 1073741824) (hbase : base ≤ w.heap.size)
    (h : ∀ v' w', w'.ownsRow base 9 1 v' (n + 1) (xs ++ [.string u]) → w.grownBy w' v.ownBlock → (∀ k, v'.ownBlock = some k → v.ownBlock = some k ∨ w.heap.size ≤ k) → K (a.put o.dst v') w') :
    if Region.wanted o (yielded ops a.tmps) = true then Oper.wp Tryz.prog o a w K Q else K (a.put o.dst undef) w := by
  rw [if_pos hw]
  obtain ⟨v', w', hr, h2, h3, h4⟩ := run_append_block (P := Tryz.prog) w base 23 o.type 9 _ _ 1 16 Tryz.underlying23 info9 zi9 si9 bi9 rfl (by decide) v n xs hown ⟨g, 0, none⟩ 1 1 [.string u] rfl (row_news hrow) (by intro y hy; simp at hy; subst hy; rfl) (by unfold maxLen; omega) (by omega) hbase
  unfold Oper.wp execOp
  simp only [ho, resolve, invoke, builtin, Sem.run_bind, Sem.run_pure, Result.andThen_ok, List.map_toArray, List.map_cons, List.map_nil, hs, hx, hr]
  exact h _ _ h2 h3 h4
end
end
section
open Go.RowKit
set_option linter.unusedVariables false
set_option linter.unusedSimpArgs false
/-- Texts that lie where a slice begins (nothing is said of an empty one). -/
def StrAt (w : World) (A : Option Addr) (ks : List ByteArray) : Prop := 0 < ks.length → ∃ b o, A = some ⟨b, o, none⟩ ∧ ∀ i k, ks[i]? = some k → w.cell? ⟨b, o + i, none⟩ = some (.string k)
mutual
/-- These five cells are this value. -/
def JR (w : World) : J → List Value → Prop
  | .mk kd b t ks ls, cs => ∃ A c B d, cs = [.int .i8 kd, .bool b, .string t, .slice A ks.length c, .slice B ls.length d] ∧ ks.length ≤ c ∧ ls.length ≤ d ∧ StrAt w A ks ∧ JsR w B 0 ls
/-- From an offset on these values lie where a slice begins. -/
def JsR (w : World) (B : Option Addr) : Nat → List J → Prop
  | _, [] => True
  | o, j :: js => (∃ b f cs, B = some ⟨b, f, none⟩ ∧ JR w j cs ∧ ∀ (k : Nat) v, cs[k]? = some v → w.cell? ⟨b, f + (o + k), none⟩ = some v) ∧ JsR w B (o + 5) js
end
theorem below_cell {w w' : World} (hb : Below w.heap.size w w') {a : Addr} {v : Value} (h : w.cell? a = some v) : w'.cell? a = some v := by
  rw [hb.cell (p := a) (block_lt_of_cell h)]; exact h
theorem StrAt.below {w w' : World} (hb : Below w.heap.size w w') {A : Option Addr} {ks : List ByteArray} (h : StrAt w A ks) : StrAt w' A ks := fun h0 => by
  obtain ⟨b, o, e, hc⟩ := h h0
  exact ⟨b, o, e, fun i k hk => below_cell hb (hc i k hk)⟩
mutual
theorem JR.below {w w' : World} (hb : Below w.heap.size w w') : ∀ {j : J} {cs : List Value}, JR w j cs → JR w' j cs
  | .mk kd b t ks ls, cs, h => by
    unfold JR at h ⊢
    obtain ⟨A, c, B, d, h1, h2, h3, h4, h5⟩ := h
    exact ⟨A, c, B, d, h1, h2, h3, h4.below hb, JsR.below hb h5⟩
theorem JsR.below {w w' : World} (hb : Below w.heap.size w w') {B : Option Addr} : ∀ {o : Nat} {js : List J}, JsR w B o js → JsR w' B o js
  | _, [], _ => by unfold JsR; trivial
  | o, j :: js, h => by
    unfold JsR at h ⊢
    obtain ⟨⟨b, f, cs, h1, h2, h3⟩, h4⟩ := h
    exact ⟨⟨b, f, cs, h1, JR.below hb h2, fun k v hv => below_cell hb (h3 k v hv)⟩, JsR.below hb h4⟩
end
theorem JR.five {w : World} {j : J} {cs : List Value} (h : JR w j cs) : cs.length = 5 := by
  cases j; unfold JR at h; obtain ⟨A, c, B, d, h1, _⟩ := h; subst h1; rfl
theorem JR.cells {w : World} {j : J} {cs : List Value} (h : JR w j cs) : ∀ v ∈ cs, v.oneCell' = true := by
  cases j; unfold JR at h; obtain ⟨A, c, B, d, rfl, _⟩ := h
  intro v hv
  simp at hv
  rcases hv with rfl | rfl | rfl | rfl | rfl <;> rfl
theorem JsR.get {w : World} {B : Option Addr} : ∀ {o i : Nat} {js : List J} {j : J}, JsR w B o js → js[i]? = some j → ∃ b f cs, B = some ⟨b, f, none⟩ ∧ JR w j cs ∧ ∀ (k : Nat) v, cs[k]? = some v → w.cell? ⟨b, f + (o + i * 5 + k), none⟩ = some v
  | o, i, [], j, h, hi => by simp at hi
  | o, 0, a :: js, j, h, hi => by
    obtain rfl : a = j := by simpa using hi
    unfold JsR at h
    obtain ⟨⟨b, f, cs, h1, h2, h3⟩, _⟩ := h
    exact ⟨b, f, cs, h1, h2, fun k v hv => by rw [Nat.zero_mul, Nat.add_zero]; exact h3 k v hv⟩
  | o, i + 1, a :: js, j, h, hi => by
    unfold JsR at h
    obtain ⟨b, f, cs, h1, h2, h3⟩ := JsR.get (o := o + 5) (i := i) h.2 (by simpa using hi)
    exact ⟨b, f, cs, h1, h2, fun k v hv => by rw [show o + (i + 1) * 5 + k = o + 5 + i * 5 + k by omega]; exact h3 k v hv⟩
/-! ### What was made -/
theorem ownsRow_cells {w : World} {lo e size n : Nat} {v : Value} {xs : List Value} (h : w.ownsRow lo e size v n xs) : ∃ A c, v = .slice A n c ∧ n ≤ c ∧ (0 < xs.length → ∃ g, A = some ⟨g, 0, none⟩ ∧ ∀ j u, xs[j]? = some u → w.cell? ⟨g, 0 + j, none⟩ = some u) := by
  obtain ⟨A, c, rfl, hA, hc⟩ := ownsRow_val h
  refine ⟨A, c, rfl, hc, fun h0 => ?_⟩
  rcases h.2 with ⟨e1, e2⟩ | ⟨g, cap, cur, e1, _⟩
  · have : xs = [] := List.eq_nil_of_length_eq_zero (by have := h.1; subst e2; simpa using this)
    subst this; simp at h0
  · injection e1 with e1 e2 e3
    subst e1
    refine ⟨g, rfl, fun j u hu => ?_⟩
    have := h.cells (g := g) rfl j u hu
    rw [Addr.add_lit] at this
    exact this
theorem strAt_own {w : World} {lo n : Nat} {v : Value} {ks : List ByteArray} (h : w.ownsRow lo 9 1 v n (ks.map Value.string)) : ∃ A c, v = .slice A n c ∧ n ≤ c ∧ StrAt w A ks := by
  obtain ⟨A, c, rfl, hc, hcell⟩ := ownsRow_cells h
  refine ⟨A, c, rfl, hc, fun h0 => ?_⟩
  obtain ⟨g, hg, hcc⟩ := hcell (by simpa using h0)
  exact ⟨g, 0, hg, fun i k hk => hcc i _ (by rw [List.getElem?_map, hk]; rfl)⟩
mutual
theorem JAt.rd {w : World} {lo : Nat} : ∀ {j : J} {cs : List Value} {F : List Nat}, JAt w lo j cs F → JR w j cs
  | .mk kd b t ks ls, cs, F, h => by
    unfold JAt at h
    obtain ⟨vk, vl, xs, G, h1, h2, h3, h4, h5, h6⟩ := h
    unfold JR
    obtain ⟨A, c, rfl, hc, hA⟩ := strAt_own h2
    obtain ⟨B, d, rfl, hd, hcell⟩ := ownsRow_cells h3
    refine ⟨A, c, B, d, h1, hc, hd, hA, ?_⟩
    cases ls with
    | nil => unfold JsR; trivial
    | cons a l =>
      obtain ⟨g, hg, hcc⟩ := hcell (by have := h3.1; simp at this; omega)
      exact JsAt.rd h4 hg (o := 0) (fun k u hu => by rw [Nat.zero_add]; exact hcc k u hu)
theorem JsAt.rd {w : World} {lo : Nat} {B : Option Addr} {g : Nat} : ∀ {js : List J} {xs : List Value} {F : List Nat}, JsAt w lo js xs F → B = some ⟨g, 0, none⟩ → ∀ {o : Nat}, (∀ (k : Nat) u, xs[k]? = some u → w.cell? ⟨g, 0 + (o + k), none⟩ = some u) → JsR w B o js
  | [], xs, F, h, hB, o, hc => by unfold JsR; trivial
  | j :: js, xs, F, h, hB, o, hc => by
    unfold JsAt at h
    obtain ⟨cs, ds, G, H, rfl, h2, h3, h4, h5⟩ := h
    have h5' := h2.five.1
    unfold JsR
    refine ⟨⟨g, 0, cs, hB, JAt.rd h2, fun k v hv => hc k v ?_⟩, JsAt.rd h3 hB (o := o + 5) (fun k u hu => ?_)⟩
    · rw [List.getElem?_append_left (List.getElem?_eq_some_iff.1 hv).1]; exact hv
    · have := hc (5 + k) u (by rw [List.getElem?_append_right (by omega), h5', Nat.add_sub_cancel_left]; exact hu)
      rw [show o + 5 + k = o + (5 + k) by omega]
      exact this
end
end
section
set_option linter.unusedVariables false
set_option linter.unusedSimpArgs false
def J.kd : J → Int | .mk k _ _ _ _ => k
def J.bl : J → Bool | .mk _ b _ _ _ => b
def J.tx : J → ByteArray | .mk _ _ t _ _ => t
def J.ks : J → List ByteArray | .mk _ _ _ k _ => k
def J.ls : J → List J | .mk _ _ _ _ l => l
/-- No text is too long to be told, no list either. -/
def JSz (M : Nat) : J → Prop := fun j => j.tx.size ≤ M ∧ j.ks.length ≤ M ∧ j.ls.length ≤ M ∧ (∀ k ∈ j.ks, k.size ≤ M)
mutual
def JAll (P : J → Prop) : J → Prop
  | .mk kd b t ks ls => P (.mk kd b t ks ls) ∧ JsAll P ls
def JsAll (P : J → Prop) : List J → Prop
  | [] => True
  | j :: js => JAll P j ∧ JsAll P js
end
theorem JsAll.get {P : J → Prop} : ∀ {js : List J} {i : Nat} {j : J}, JsAll P js → js[i]? = some j → JAll P j
  | [], i, j, _, h => by simp at h
  | a :: js, 0, j, h, hi => by
    unfold JsAll at h
    obtain rfl : a = j := by simpa using hi
    exact h.1
  | a :: js, i + 1, j, h, hi => by
    unfold JsAll at h
    exact JsAll.get h.2 (by simpa using hi)
end
section
open Go.RowKit
set_option linter.unusedVariables false
set_option linter.unusedSimpArgs false
/-- All that was there stands, but for these blocks. -/
structure Only (F : List Nat) (w w' : World) : Prop where
  os : w'.os = w.os
  tape : w'.tape = w.tape
  output : w'.output = w.output
  size : w.heap.size ≤ w'.heap.size
  block : ∀ i, i < w.heap.size → i ∉ F → w'.heap[i]? = w.heap[i]?
theorem Only.refl (F : List Nat) (w : World) : Only F w w := ⟨rfl, rfl, rfl, Nat.le_refl _, fun _ _ _ => rfl⟩
theorem Only.trans {F G : List Nat} {w w1 w2 : World} (h : Only F w w1) (k : Only G w1 w2) (hG : ∀ g ∈ G, g ∈ F ∨ w.heap.size ≤ g) : Only F w w2 :=
  ⟨k.os.trans h.os, k.tape.trans h.tape, k.output.trans h.output, Nat.le_trans h.size k.size, fun i hi hF => by
    rw [k.block i (Nat.lt_of_lt_of_le hi h.size) (fun hm => by rcases hG i hm with e | e; exact hF e; omega), h.block i hi hF]⟩
theorem only_grown {F : List Nat} {w w' : World} {row : Option Nat} (h : w.grownBy w' row) (hr : ∀ g, row = some g → g ∈ F) : Only F w w' :=
  ⟨h.os, h.tape, h.output, h.size, fun i hi hF => h.block i hi (fun e => hF (hr i e.symm))⟩
theorem Only.then {F : List Nat} {w w1 w2 : World} {row : Option Nat} (h : Only F w w1) (k : w1.grownBy w2 row) (hr : ∀ g, row = some g → g ∈ F ∨ w.heap.size ≤ g) : Only F w w2 :=
  ⟨k.os.trans h.os, k.tape.trans h.tape, k.output.trans h.output, Nat.le_trans h.size k.size, fun i hi hF => by
    rw [k.block i (Nat.lt_of_lt_of_le hi h.size) (fun e => by rcases hr i e.symm with e | e; exact hF e; omega), h.block i hi hF]⟩
theorem Only.row {F : List Nat} {w w' : World} {b T : Nat} {cs : List Value} (h : Only F w w') (hr : Row w b T cs) (hb : b ∉ F) : Row w' b T cs := by
  unfold Row; rw [h.block b hr.lt hb]; exact hr
theorem ownsRow_only {F : List Nat} {w w' : World} {lo e size n : Nat} {v : Value} {xs : List Value} (h : w.ownsRow lo e size v n xs) (hO : Only F w w') (hv : ∀ g, v.ownBlock = some g → g ∉ F) : w'.ownsRow lo e size v n xs := by
  refine ⟨h.1, ?_⟩
  rcases h.2 with ⟨e1, e2⟩ | ⟨g, cap, cur, e1, h1, h2, h3⟩
  · exact .inl ⟨e1, e2⟩
  · refine .inr ⟨g, cap, cur, e1, h1, ?_, h3⟩
    rw [hO.block g (Array.getElem?_eq_some_iff.1 h2).1 (hv g (by rw [e1]; rfl))]; exact h2
mutual
theorem JAt.only {F : List Nat} {w w' : World} {lo : Nat} (hO : Only F w w') : ∀ {j : J} {cs : List Value} {G : List Nat}, JAt w lo j cs G → (∀ g ∈ G, g ∉ F) → JAt w' lo j cs G
  | .mk kd b t ks ls, cs, G, h, hG => by
    unfold JAt at h ⊢
    obtain ⟨vk, vl, xs, H, h1, h2, h3, h4, h5, h6⟩ := h
    refine ⟨vk, vl, xs, H, h1, ownsRow_only h2 hO (fun g hg => hG g ?_), ownsRow_only h3 hO (fun g hg => hG g ?_), JsAt.only hO h4 (fun g hg => hG g ?_), h5, h6⟩
    · rw [h5]; simp [obs_mem.2 hg]
    · rw [h5]; simp [obs_mem.2 hg]
    · rw [h5]; simp [hg]
theorem JsAt.only {F : List Nat} {w w' : World} {lo : Nat} (hO : Only F w w') : ∀ {js : List J} {xs : List Value} {G : List Nat}, JsAt w lo js xs G → (∀ g ∈ G, g ∉ F) → JsAt w' lo js xs G
  | [], xs, G, h, hG => by unfold JsAt at h ⊢; exact h
  | j :: js, xs, G, h, hG => by
    unfold JsAt at h ⊢
    obtain ⟨cs, ds, G1, H, h1, h2, h3, h4, h5⟩ := h
    exact ⟨cs, ds, G1, H, h1, JAt.only hO h2 (fun g hg => hG g (by rw [h4]; simp [hg])), JsAt.only hO h3 (fun g hg => hG g (by rw [h4]; simp [hg])), h4, h5⟩
end
end
section
open Go.RowKit
set_option linter.unusedVariables false
set_option linter.unusedSimpArgs false
section
variable {ops : Array Oper} {rest : List Oper} {o : Oper} {a : Act} {w : World} {Q : Exit → Act → World → Prop}
theorem wpList_append29n (hgd : o.guard = none) (s x : Operand) (ho : o.op = .call { callee := .builtin .append, args := #[s, x], argTypes := #[24, 24] })
    (base : Nat) (v : Value) (n : Nat) (xs : List Value) (hs : a.eval s = v) (hown : w.ownsRow base 26 5 v n xs) (g k : Nat) (cs : List Value) (hx : a.eval x = .slice (some ⟨g, 0, none⟩) k k) (hrow : Row w g 26 cs) (hcs : cs.length = k * 5) (h1 : ∀ u ∈ cs, u.oneCell' = true)
    (hk : k ≤ 1000) (hn : n ≤ 1073741824) (hbase : base ≤ w.heap.size)
    (h : ∀ v' w', w'.ownsRow base 26 5 v' (n + k) (xs ++ cs) → w.grownBy w' v.ownBlock → wpList Tryz.prog ops Q rest (a.put o.dst v') w') : wpList Tryz.prog ops Q (o :: rest) a w :=
  wpList_plain hgd fun K hK => by
    obtain ⟨v', w', hr, h2, h3, h4⟩ := run_append_block (P := Tryz.prog) w base 24 o.type 26 _ _ 5 72 Tryz.underlying24 info29 zi29 si29 bi29 rfl (by decide) v n xs hown ⟨g, 0, none⟩ k k cs hcs (row_news hrow) h1 (by unfold maxLen; omega) (by omega) hbase
    unfold Oper.wp execOp
    simp only [ho, resolve, invoke, builtin, Sem.run_bind, Sem.run_pure, Result.andThen_ok, List.map_toArray, List.map_cons, List.map_nil, hs, hx, hr]
    exact hK _ _ (h _ _ h2 h3)
theorem wpList_append9n (hgd : o.guard = none) (s x : Operand) (ho : o.op = .call { callee := .builtin .append, args := #[s, x], argTypes := #[23, 23] })
    (base : Nat) (v : Value) (n : Nat) (xs : List Value) (hs : a.eval s = v) (hown : w.ownsRow base 9 1 v n xs) (g k : Nat) (cs : List Value) (hx : a.eval x = .slice (some ⟨g, 0, none⟩) k k) (hrow : Row w g 9 cs) (hcs : cs.length = k * 1) (h1 : ∀ u ∈ cs, u.oneCell' = true)
    (hk : k ≤ 1000) (hn : n ≤ 1073741824) (hbase : base ≤ w.heap.size)
    (h : ∀ v' w', w'.ownsRow base 9 1 v' (n + k) (xs ++ cs) → w.grownBy w' v.ownBlock → wpList Tryz.prog ops Q rest (a.put o.dst v') w') : wpList Tryz.prog ops Q (o :: rest) a w :=
  wpList_plain hgd fun K hK => by
    obtain ⟨v', w', hr, h2, h3, h4⟩ := run_append_block (P := Tryz.prog) w base 23 o.type 9 _ _ 1 16 Tryz.underlying23 info9 zi9 si9 bi9 rfl (by decide) v n xs hown ⟨g, 0, none⟩ k k cs hcs (row_news hrow) h1 (by unfold maxLen; omega) (by omega) hbase
    unfold Oper.wp execOp
    simp only [ho, resolve, invoke, builtin, Sem.run_bind, Sem.run_pure, Result.andThen_ok, List.map_toArray, List.map_cons, List.map_nil, hs, hx, hr]
    exact hK _ _ (h _ _ h2 h3)
end
end
end Go.Proofs.YtlbilofnbhhmjaaGreatDoor
