/-
  The walks of Position (both) and of the reference's Bit.
-/
import Derived.Test.YtlolaieolgmdnaaGreatDoorCodeE
namespace Go.Proofs.YtlolaieolgmdnaaGreatDoor
open Go.RowKit

theorem posB_no {a b : Int} (h : exB a b = false) : posB a b = 0 := by unfold posB; rw [h]; rfl
theorem posB_data {a b : Int} (h : exB a b = true) (ha : a ≠ 8) : posB a b = (posn (40 * a + b).toNat : Nat) := by unfold posB; rw [h, if_pos rfl, if_neg ha]
theorem posB_code {b : Int} (h : exB 8 b = true) : posB 8 b = if b = 9 then 0 else 2 ^ b.toNat := by unfold posB; rw [h, if_pos rfl, if_pos rfl]
theorem exB_iff {a b : Int} : exB a b = true ↔ (0 ≤ a ∧ a < 8 ∧ 0 ≤ b ∧ b < 40 ∨ a = 8 ∧ 0 ≤ b ∧ b < 10) := by unfold exB; simp

theorem code_pos : ∀ j : Fin 10, bits .and .i64 ((2 ^ j.val : Nat) : Int) 511 = if ((j.val : Nat) : Int) = 9 then 0 else ((2 ^ j.val : Nat) : Int) := by decide +kernel

/-- Which bit Bit names. -/
def bitW (n : Int) : Int := if 320 ≤ n % 330 then 8 else n % 330 / 40
def bitB (n : Int) : Int := if 320 ≤ n % 330 then n % 330 - 320 else n % 330 % 40

end Go.Proofs.YtlolaieolgmdnaaGreatDoor
