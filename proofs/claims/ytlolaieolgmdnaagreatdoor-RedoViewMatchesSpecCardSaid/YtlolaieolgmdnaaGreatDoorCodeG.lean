/-
  Lines in blocks of memory; the walk of the reference's Made.
-/
import Derived.Test.YtlolaieolgmdnaaGreatDoorCodeF
namespace Go.Proofs.YtlolaieolgmdnaaGreatDoor
open Go.RowKit

/-- A line's cells. -/
def cellsOf (l : W8) : Array Value := #[.int .i64 l.a0, .int .i64 l.a1, .int .i64 l.a2, .int .i64 l.a3, .int .i64 l.a4, .int .i64 l.a5, .int .i64 l.a6, .int .i64 l.a7]
/-- A block holds a line. -/
def BoxL (W : World) (b : Nat) (l : W8) : Prop := W.heap[b]? = some (.cells (cellsOf l) 80)

theorem BoxL.lt {W : World} {b : Nat} {l : W8} (h : BoxL W b l) : b < W.heap.size := by
  unfold BoxL at h
  by_cases hl : b < W.heap.size
  · exact hl
  · rw [Array.getElem?_eq_none (by omega)] at h; cases h
theorem BoxL.below {W W' : World} {b : Nat} {l : W8} (h : BoxL W b l) (hb : Below W.heap.size W W') : BoxL W' b l := (hb.block b h.lt).trans h
theorem BoxL.cells {W : World} {b : Nat} {l : W8} (h : BoxL W b l) (j : Nat) : W.cell? ⟨b, j, none⟩ = (cellsOf l)[j]? := by
  unfold BoxL at h
  unfold World.cell?
  simp only [h]
  rfl
theorem BoxL.free {W : World} {b : Nat} {l : W8} (h : BoxL W b l) (j : Nat) : W.frozen? ⟨b, j, none⟩ = false := by
  unfold BoxL at h
  unfold World.frozen?
  simp [h]
theorem BoxL.cell {W : World} {b : Nat} {l : W8} (h : BoxL W b l) (k : Nat) (hk : k < 8) : W.cell? ⟨b, k, none⟩ = some (.int .i64 (l.get k)) := by
  rw [h.cells]
  rcases lt8 hk with rfl | rfl | rfl | rfl | rfl | rfl | rfl | rfl <;> rfl
theorem BoxL.all {W : World} {b : Nat} {l : W8} (h : BoxL W b l) : W.cell? ⟨b, 0, none⟩ = some (.int .i64 l.a0) ∧ W.cell? ⟨b, 1, none⟩ = some (.int .i64 l.a1) ∧ W.cell? ⟨b, 2, none⟩ = some (.int .i64 l.a2) ∧ W.cell? ⟨b, 3, none⟩ = some (.int .i64 l.a3) ∧
    W.cell? ⟨b, 4, none⟩ = some (.int .i64 l.a4) ∧ W.cell? ⟨b, 5, none⟩ = some (.int .i64 l.a5) ∧ W.cell? ⟨b, 6, none⟩ = some (.int .i64 l.a6) ∧ W.cell? ⟨b, 7, none⟩ = some (.int .i64 l.a7) :=
  ⟨h.cells 0, h.cells 1, h.cells 2, h.cells 3, h.cells 4, h.cells 5, h.cells 6, h.cells 7⟩
theorem BoxL.set {W : World} {b : Nat} {l : W8} (h : BoxL W b l) (k : Nat) (hk : k < 8) (v : Int) : BoxL (W.setCell ⟨b, k, none⟩ (.int .i64 v)) b (l.set k v) := by
  unfold BoxL at h ⊢
  unfold World.setCell
  simp only [Array.getElem?_modify, h]
  rcases lt8 hk with rfl | rfl | rfl | rfl | rfl | rfl | rfl | rfl <;> rfl
theorem BoxL.setOther {W : World} {b c : Nat} {l : W8} (h : BoxL W b l) (hc : c ≠ b) (o : Nat) (v : Value) : BoxL (W.setCell ⟨c, o, none⟩ v) b l := by
  unfold BoxL at h ⊢
  rw [Below.heap_setCell _ _ _ _ (by simpa using fun e => hc e.symm)]; exact h
theorem BoxL.alloc {W : World} {b : Nat} {l : W8} (h : BoxL W b l) (o : Obj) : BoxL (W.alloc o) b l := by
  unfold BoxL at h ⊢
  rw [Below.heap_alloc _ _ _ (BoxL.lt h)]; exact h
theorem BoxL.drew {W : World} {b : Nat} {l : W8} (h : BoxL W b l) : BoxL W.drew b l := h
theorem BoxL.new (W : World) (a0 a1 a2 a3 a4 a5 a6 a7 : Int) : BoxL (W.alloc (.cells #[.int .i64 a0, .int .i64 a1, .int .i64 a2, .int .i64 a3, .int .i64 a4, .int .i64 a5, .int .i64 a6, .int .i64 a7] 80)) W.heap.size (⟨a0, a1, a2, a3, a4, a5, a6, a7⟩ : W8) := Box8.new W a0 a1 a2 a3 a4 a5 a6 a7

theorem BoxL.store8 {W : World} {b : Nat} {z : W8} (h : BoxL W b z) (l : W8) : BoxL ((((((((W.setCell ⟨b, 0, none⟩ (.int .i64 l.a0)).setCell ⟨b, 1, none⟩ (.int .i64 l.a1)).setCell ⟨b, 2, none⟩ (.int .i64 l.a2)).setCell ⟨b, 3, none⟩ (.int .i64 l.a3)).setCell ⟨b, 4, none⟩ (.int .i64 l.a4)).setCell ⟨b, 5, none⟩ (.int .i64 l.a5)).setCell ⟨b, 6, none⟩ (.int .i64 l.a6)).setCell ⟨b, 7, none⟩ (.int .i64 l.a7)) b l := by
  have h8 := (((((((h.set 0 (by decide) l.a0).set 1 (by decide) l.a1).set 2 (by decide) l.a2).set 3 (by decide) l.a3).set 4 (by decide) l.a4).set 5 (by decide) l.a5).set 6 (by decide) l.a6).set 7 (by decide) l.a7
  have e : ((((((((z.set 0 l.a0).set 1 l.a1).set 2 l.a2).set 3 l.a3).set 4 l.a4).set 5 l.a5).set 6 l.a6).set 7 l.a7) = l := by simp [W8.set]
  rw [e] at h8
  exact h8

theorem below_store8 {B : Nat} {a W : World} {b : Nat} (h : Below B a W) (hb : B ≤ b) (v0 v1 v2 v3 v4 v5 v6 v7 : Value) : Below B a ((((((((W.setCell ⟨b, 0, none⟩ v0).setCell ⟨b, 1, none⟩ v1).setCell ⟨b, 2, none⟩ v2).setCell ⟨b, 3, none⟩ v3).setCell ⟨b, 4, none⟩ v4).setCell ⟨b, 5, none⟩ v5).setCell ⟨b, 6, none⟩ v6).setCell ⟨b, 7, none⟩ v7) :=
  (((((((h.setCell hb _).setCell hb _).setCell hb _).setCell hb _).setCell hb _).setCell hb _).setCell hb _).setCell hb _

def mask (x : Int) : Int := bits .and .i64 x 1099511627775
def made (l : W8) : W8 := ⟨mask l.a0, mask l.a1, mask l.a2, mask l.a3, mask l.a4, mask l.a5, mask l.a6, mask l.a7⟩
theorem made_get (l : W8) (k : Nat) (hk : k < 8) : (made l).get k = mask (l.get k) := by
  rcases lt8 hk with rfl | rfl | rfl | rfl | rfl | rfl | rfl | rfl <;> rfl

end Go.Proofs.YtlolaieolgmdnaaGreatDoor
