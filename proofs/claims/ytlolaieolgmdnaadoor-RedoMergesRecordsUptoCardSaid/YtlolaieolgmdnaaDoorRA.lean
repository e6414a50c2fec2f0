/-
  The specification's memory (layer 4), as a thing owned or lent; State, Shows, Load.
-/
import Derived.Test.YtlolaieolgmdnaaDoorMD

import Derived.Test.YtlolaieolgmdnaaDoorSh2

namespace Go.Proofs.YtlolaieolgmdnaaDoor

open Go.RowKit
set_option linter.unusedVariables false
set_option linter.unusedSimpArgs false
set_option maxRecDepth 10000

section

variable {c : Cx} {Γ : List HProp} {w : World} {r : Nat} {M : MemS} {lv ev : Value} {ps : List Value}

theorem fix_chk (l : W8) (k : Int) : (fix l k).2.2 = 0 ↔ (chk l k).1 ≠ 2 := by
  unfold fix
  split
  · rcases chk_state l k with h | h | h <;> rw [h] <;> simp
  · rename_i hv
    unfold chk; rw [if_neg hv]; simp

theorem showL_ok (l : W8) (k : Int) (S : List St) : (showL l k S).2 = 0 ↔ (chk l k).1 ≠ 2 := by
  rw [← fix_chk]
  unfold showL
  split
  · rename_i h; simp [h]
  · rename_i h; simp [h]

end

end Go.Proofs.YtlolaieolgmdnaaDoor
