/-
  What every row of this seat needs: the table of the library that is listed.
-/
import Derived.Test.YtlolaieolgmdnaaDoorRows
import Derived.Test.YtlolaieolgmdnaaDoorGb
import Derived.ProofKit
import Derived.LaidMore
import Derived.OpenShut
import Derived.Stop.Joined
import Derived.Lib.LaidTab
import Derived.ChangeOld
import Derived.Below
namespace Go.Proofs.YtlolaieolgmdnaaDoor
open Go.ChangeShapes Go.WideShapes Go.ChangeAt Go.RowKit

theorem own : ownKnob Tryd.prog.godebug = none := by kernel_rfl
theorem laidOut : laidOutB Tryd.prog = true := by kernel_rfl
theorem gTab0 : Tryd.prog.globalNamed "math/bits.deBruijn32tab" = some 0 := by kernel_rfl
theorem gTab1 : Tryd.prog.globalNamed "math/bits.deBruijn64tab" = some 1 := by kernel_rfl
theorem tTab1 : (Tryd.prog.globals[(1 : Nat)]?).map (·.type) = some 139 := by kernel_rfl

abbrev laid2 : List (String × DataW Unit) := [("math/bits.deBruijn32tab", Rows.laid_math_bits_deBruijn32tab), ("math/bits.deBruijn64tab", Rows.laid_math_bits_deBruijn64tab)]

theorem door_met (os : Os) (args : Array Value) : laidMetH Tryd.prog laid2 ((World.doorLaid Tryd.prog 400 os).forCall (fun _ _ => 0) ⟨#[], args, []⟩).memory :=
  laidMetH_of_parts3 (fuel := 8) (laidMet_of_run' 8 (by kernel_rfl) (by kernel_rfl)) (by kernel_rfl) (by kernel_rfl)

theorem tab_data : (Rows.laid_math_bits_deBruijn64tab : DataW Unit) = Lib.tabData .u8 (Lib.deBruijn64tab.map fun (n : Nat) => (n : Int)) := by kernel_rfl

/-- What the condition gives the walks: the table lies in its variable. -/
theorem of_laid {W : World} (h : laidMetH Tryd.prog laid2 W) : TabIn W := by
  rw [MakeChecks.laidMetH_plain _ _ _ (by kernel_rfl)] at h
  obtain ⟨ps, ⟨g0, t0, cs0, f0, p0, q0, hg0, ht0, hv0, hd0, ⟨g1, t1, cs1, f1, p1, q1, hg1, ht1, hv1, hd1, _, _⟩, _⟩, _, _⟩ := h
  obtain rfl := Option.some.inj (gTab1.symm.trans hg1)
  obtain rfl := Option.some.inj (tTab1.symm.trans ht1)
  rw [tab_data] at hd1
  have hcs := Lib.cells_of_tab Tryd.underlying139 Tryd.underlying5 (by kernel_rfl) (by kernel_rfl) hd1
  intro j hj
  have hc := World.var?_cell hg1 hv1 j
  rw [hc]
  have e : cs1[j]? = cs1.toList[j]? := by simp
  rw [e, hcs]
  simp [List.getElem?_eq_getElem hj, List.getD_eq_getElem?_getD]

end Go.Proofs.YtlolaieolgmdnaaDoor
