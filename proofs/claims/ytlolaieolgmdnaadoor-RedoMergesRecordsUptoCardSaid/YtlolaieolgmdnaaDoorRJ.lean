/-
  The specification's memory, changed: settle, put, Store, Flush, Fence; Seen.
-/
import Derived.Test.YtlolaieolgmdnaaDoorMH

import Derived.Test.YtlolaieolgmdnaaDoorRB

namespace Go.Proofs.YtlolaieolgmdnaaDoor

open Go.RowKit
set_option linter.unusedVariables false
set_option linter.unusedSimpArgs false
set_option maxRecDepth 10000

/-- A line with something pending is not rotten. -/
def LineS.sound (y : LineS) : Prop := y.p ≠ [] → (fix y.x y.c).2.2 = 0

section

variable {c : Cx} {Γ Δ : List HProp} {w : World} {r : Nat} {M : MemS} {bl cap : Nat} {sp : List Value} {Z : List (LineS × Value)} {n : Nat} {span : Int} {ev : Value} {E : List Ev} {L : List LineS}

end

end Go.Proofs.YtlolaieolgmdnaaDoor
