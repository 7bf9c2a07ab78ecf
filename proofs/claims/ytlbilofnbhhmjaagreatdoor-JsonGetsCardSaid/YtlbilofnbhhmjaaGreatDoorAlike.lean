/- A text in a slice of texts. -/
import Derived.Test.YtlbilofnbhhmjaaGreatDoorSpec
namespace Go.Proofs.YtlbilofnbhhmjaaGreatDoor
open Go.RowKit
set_option linter.unusedVariables false
set_option linter.unusedSimpArgs false
theorem strAt_get {w : World} {A : Option Addr} {ks : List ByteArray} {i : Nat} {k : ByteArray} (h : StrAt w A ks) (hk : ks[i]? = some k) : ∃ b o, A = some ⟨b, o, none⟩ ∧ w.cell? ⟨b, o + i, none⟩ = some (.string k) := by
  obtain ⟨b, o, e, hc⟩ := h (by have := (List.getElem?_eq_some_iff.1 hk).1; omega)
  exact ⟨b, o, e, hc i k hk⟩
end Go.Proofs.YtlbilofnbhhmjaaGreatDoor
