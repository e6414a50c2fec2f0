/-
  What every row of this seat needs: the table of the library that is listed; arguments that are arrays of eight numbers.
-/
import Derived.Test.YtmhllnnchhcamaaDoorRows
import Derived.Test.YtmhllnnchhcamaaDoorBits
import Derived.Test.YtmhllnnchhcamaaDoorPlainB
import Derived.ProofKit
import Derived.LaidMore
import Derived.OpenShut
import Derived.Stop.Joined
import Derived.Lib.LaidTab
import Derived.ChangeOld
import Derived.Below
namespace Go.Proofs.YtmhllnnchhcamaaDoor
open Go.ChangeShapes Go.WideShapes Go.ChangeAt Go.RowKit

theorem own : ownKnob Tryd.prog.godebug = none := by kernel_rfl
theorem laidOut : laidOutB Tryd.prog = true := by kernel_rfl
theorem gTab0 : Tryd.prog.globalNamed "math/bits.deBruijn32tab" = some 0 := by kernel_rfl
theorem gTab1 : Tryd.prog.globalNamed "math/bits.deBruijn64tab" = some 1 := by kernel_rfl
theorem tTab1 : (Tryd.prog.globals[(1 : Nat)]?).map (·.type) = some 66 := by kernel_rfl

abbrev laid2 : List (String × DataW Unit) := [("math/bits.deBruijn32tab", Rows.laid_math_bits_deBruijn32tab), ("math/bits.deBruijn64tab", Rows.laid_math_bits_deBruijn64tab)]

theorem door_met (os : Os) (args : Array Value) : laidMetH Tryd.prog laid2 ((World.doorLaid Tryd.prog 400 os).forCall (fun _ _ => 0) ⟨#[], args, []⟩).memory :=
  laidMetH_of_parts3 (fuel := 8) (laidMet_of_run' 8 (by kernel_rfl) (by kernel_rfl)) (by kernel_rfl) (by kernel_rfl)

theorem tab_data : (Rows.laid_math_bits_deBruijn64tab : DataW Unit) = Lib.tabData .u8 (Lib.deBruijn64tab.map fun (n : Nat) => (n : Int)) := by kernel_rfl

/-- What the condition gives the walks: the table lies in its variable. -/
theorem of_laid {W : World} (h : laidMetH Tryd.prog laid2 W) : TabIn W := by
  rw [MakeChecks.laidMetH_plain _ _ _ (by kernel_rfl)] at h
  obtain ⟨ps, ⟨g0, t0, cs0, f0, p0, q0, hg0, ht0, hv0, hd0, ⟨g1, t1, cs1, f1, p1, q1, hg1, ht1, hv1, hd1, _, _⟩, _⟩, _, _⟩ := h
  obtain rfl := Option.some.inj (gTab1.symm.trans hg1)
  obtain rfl := Option.some.inj (tTab1.symm.trans ht1)
  rw [tab_data] at hd1
  have hcs := Lib.cells_of_tab Tryd.underlying66 Tryd.underlying5 (by kernel_rfl) (by kernel_rfl) hd1
  intro j hj
  have hc := World.var?_cell hg1 hv1 j
  rw [hc]
  have e : cs1[j]? = cs1.toList[j]? := by simp
  rw [e, hcs]
  simp [List.getElem?_eq_getElem hj, List.getD_eq_getElem?_getD]

theorem one_at {α : Type} {l : List α} {i : Nat} {c : α} (h : l[i]? = some c) : (l.drop i).take 1 = [c] := by
  obtain ⟨hi, rfl⟩ := List.getElem?_eq_some_iff.1 h
  rw [List.drop_eq_getElem_cons hi]; rfl

theorem array8 {α : Type} {cs : Array α} (h : cs.size = 8) : ∃ a0 a1 a2 a3 a4 a5 a6 a7, cs = #[a0, a1, a2, a3, a4, a5, a6, a7] := by
  obtain ⟨l⟩ := cs
  match l, h with
  | [a0, a1, a2, a3, a4, a5, a6, a7], _ => exact ⟨a0, a1, a2, a3, a4, a5, a6, a7, rfl⟩

/-- An argument that is an array of eight numbers. -/
theorem open_arr8 {H : Type} {enc : TypeId × Value → H} {w : World} {base : Nat} {sp : Nat → Bool} {held : Bool} {r : Reach} {b0 : Nat} {v : Value} {d : DataW H} {p : List MemPlace}
    (hv : Value.okWide Tryd.prog w r b0 22 v) (h : DataW.Trod enc Tryd.prog w base sp held 22 v d p) : ∃ l : W8, v = (.agg #[.int .i64 l.a0, .int .i64 l.a1, .int .i64 l.a2, .int .i64 l.a3, .int .i64 l.a4, .int .i64 l.a5, .int .i64 l.a6, .int .i64 l.a7]) := by
  unfold Value.okWide at hv
  rw [Tryd.underlying22] at hv
  obtain ⟨cs, rfl, hs, _⟩ := hv
  obtain ⟨c0, c1, c2, c3, c4, c5, c6, c7, rfl⟩ := array8 (hs.trans (by kernel_rfl : Tryd.prog.cellsOf 22 = 8))
  obtain ⟨fuel, hf⟩ := h
  obtain ⟨xs, m, _, _, _, hl, hel⟩ := DataW.trod_array Tryd.underlying22 hf
  have one : Tryd.prog.cellsOf 3 = 1 := by kernel_rfl
  have hi : ∀ (i : Nat) (c : Value), i < 8 → (Value.agg #[c0, c1, c2, c3, c4, c5, c6, c7]).cells.toList[i]? = some c → ∃ k, c = .int .i64 k := by
    intro i c hi hc
    have h1 := hel i hi
    rw [one, Nat.mul_one] at h1
    obtain ⟨x, hx⟩ : ∃ x, xs[i]? = some x := ⟨xs[i], List.getElem?_eq_getElem (by omega)⟩
    rw [hx] at h1
    obtain ⟨k, e1, _⟩ := DataW.trod_int Tryd.underlying3 h1
    have e3 : ((Value.agg #[c0, c1, c2, c3, c4, c5, c6, c7]).cells.toList.drop i).take 1 = [c] := by
      exact one_at hc
    rw [e3] at e1
    exact ⟨k, by simpa using e1⟩
  obtain ⟨k0, rfl⟩ := hi 0 c0 (by decide) rfl
  obtain ⟨k1, rfl⟩ := hi 1 c1 (by decide) rfl
  obtain ⟨k2, rfl⟩ := hi 2 c2 (by decide) rfl
  obtain ⟨k3, rfl⟩ := hi 3 c3 (by decide) rfl
  obtain ⟨k4, rfl⟩ := hi 4 c4 (by decide) rfl
  obtain ⟨k5, rfl⟩ := hi 5 c5 (by decide) rfl
  obtain ⟨k6, rfl⟩ := hi 6 c6 (by decide) rfl
  obtain ⟨k7, rfl⟩ := hi 7 c7 (by decide) rfl
  exact ⟨⟨k0, k1, k2, k3, k4, k5, k6, k7⟩, rfl⟩

end Go.Proofs.YtmhllnnchhcamaaDoor
