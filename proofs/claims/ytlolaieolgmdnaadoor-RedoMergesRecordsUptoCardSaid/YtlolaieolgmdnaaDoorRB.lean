/-
  The specification's memory: Words, Right, From, SameImage, SameSeen.
-/
import Derived.Test.YtlolaieolgmdnaaDoorRA

import Derived.Test.YtlolaieolgmdnaaDoorEq

namespace Go.Proofs.YtlolaieolgmdnaaDoor

open Go.RowKit
set_option linter.unusedVariables false
set_option linter.unusedSimpArgs false
set_option maxRecDepth 10000

section

variable {c : Cx} {Γ : List HProp} {w : World} {r : Nat} {M : MemS} {lv ev : Value} {ps : List Value}

theorem okAll_get (l : W8) : okAll l = true ↔ ∀ j < 8, okW (l.get j) = true := by
  rw [← okAll_any]
  constructor
  · intro h j hj
    simp only [w8L, Bool.not_eq_true', List.any_eq_false, Bool.not_eq_true, List.mem_cons, List.not_mem_nil, or_false] at h
    have : ∀ x, x = l.a0 ∨ x = l.a1 ∨ x = l.a2 ∨ x = l.a3 ∨ x = l.a4 ∨ x = l.a5 ∨ x = l.a6 ∨ x = l.a7 → okW x = true := fun x hx => by simpa using h x hx
    rcases j with _ | _ | _ | _ | _ | _ | _ | _ | j <;> first | (exact absurd hj (by omega)) | (exact this _ (by simp [W8.get]))
  · intro h
    have h0 := h 0 (by omega); have h1 := h 1 (by omega); have h2 := h 2 (by omega); have h3 := h 3 (by omega)
    have h4 := h 4 (by omega); have h5 := h 5 (by omega); have h6 := h 6 (by omega); have h7 := h 7 (by omega)
    simp only [W8.get] at h0 h1 h2 h3 h4 h5 h6 h7
    simp [w8L, h0, h1, h2, h3, h4, h5, h6, h7]

end

end Go.Proofs.YtlolaieolgmdnaaDoor
