/-
  Check at every line and code; the walk of checked.
-/
import Derived.Test.YtlolaieolgmdnaaGreatDoorCodeK
namespace Go.Proofs.YtlolaieolgmdnaaGreatDoor
open Go.RowKit

theorem validB_nat {l : W8} {c : Int} (h : validB l c = true) : ∃ n : Nat, c = n ∧ n < 1024 := by
  have := (validB_iff.1 h).2
  exact ⟨c.toNat, by omega, by omega⟩

theorem fnd_eq (l : W8) (n : Nat) (hv : validB l n = true) (ho : oddC l n = true) (h0 : synC l n ≠ 0) (hpw : synC l n &&& (synC l n - 1) ≠ 0) : chk l n = fnd (synC l n) := by
  unfold chk fnd
  rw [if_pos hv, ho, if_pos rfl, if_neg h0, if_neg hpw]
  cases findP (synC l n) <;> rfl

/-- Check, at every line and code. -/
theorem Check_any (l : W8) (c : Int) (w : World) (hT : TabIn w) :
    Calls Tryz.prog 77 #[(.agg #[.int .i64 l.a0, .int .i64 l.a1, .int .i64 l.a2, .int .i64 l.a3, .int .i64 l.a4, .int .i64 l.a5, .int .i64 l.a6, .int .i64 l.a7]), .int .i64 c] w (RetB (.tuple #[.int .i64 (chk l c).1, .int .i64 (chk l c).2.1, .int .i64 (chk l c).2.2]) w) := by
  cases hv : validB l c with
  | false =>
    have e : chk l c = (2, 0, 0) := by unfold chk; rw [hv]; rfl
    rw [e]; exact check_no l c w hv
  | true =>
    obtain ⟨n, rfl, hn⟩ := validB_nat hv
    cases ho : oddC l n with
    | false =>
      by_cases h0 : synC l n = 0
      · have e : chk l n = (0, 0, 0) := by unfold chk; rw [if_pos hv, ho, if_neg (by simp), if_pos h0]
        rw [e]; exact check_even0 l n w hv hT ho h0
      · have e : chk l n = (2, 0, 0) := by unfold chk; rw [if_pos hv, ho, if_neg (by simp), if_neg h0]
        rw [e]; exact check_evenN l n w hv hT ho h0
    | true =>
      by_cases h0 : synC l n = 0
      · have e : chk l n = (1, 8, 9) := by unfold chk; rw [if_pos hv, ho, if_pos rfl, if_pos h0]
        rw [e]; exact check_odd0 l n w hv hT ho h0
      · by_cases hpw : synC l n &&& (synC l n - 1) = 0
        · have e : chk l n = (1, 8, ((Lib.ctz 64 (synC l n) : Nat) : Int)) := by unfold chk; rw [if_pos hv, ho, if_pos rfl, if_neg h0, if_pos hpw]
          rw [e]; exact check_oddp l n w hv hT ho h0 hpw
        · rw [fnd_eq l n hv ho h0 hpw]; exact check_find l n w hv hT ho h0 hpw

/-- A block of three numbers. -/
def Box3 (W : World) (b : Nat) (x y z : Int) : Prop := W.heap[b]? = some (.cells #[.int .i64 x, .int .i64 y, .int .i64 z] 159)
theorem Box3.lt {W : World} {b : Nat} {x y z : Int} (h : Box3 W b x y z) : b < W.heap.size := (Array.getElem?_eq_some_iff.1 h).1
theorem Box3.below {W W' : World} {b : Nat} {x y z : Int} (h : Box3 W b x y z) (hb : Below W.heap.size W W') : Box3 W' b x y z := (hb.block b h.lt).trans h
theorem Box3.cells {W : World} {b : Nat} {x y z : Int} (h : Box3 W b x y z) : W.cell? ⟨b, 0, none⟩ = some (.int .i64 x) ∧ W.cell? ⟨b, 1, none⟩ = some (.int .i64 y) ∧ W.cell? ⟨b, 2, none⟩ = some (.int .i64 z) := by
  unfold Box3 at h
  simp [World.cell?, h]
theorem Box3.free {W : World} {b : Nat} {x y z : Int} (h : Box3 W b x y z) (j : Nat) : W.frozen? ⟨b, j, none⟩ = false := by
  unfold Box3 at h
  simp [World.frozen?, h]
theorem Box3.new (W : World) (x y z : Int) : Box3 (W.alloc (.cells #[.int .i64 x, .int .i64 y, .int .i64 z] 159)) W.heap.size x y z := World.alloc_heap_new W _
theorem Box3.alloc {W : World} {b : Nat} {x y z : Int} (h : Box3 W b x y z) (o : Obj) : Box3 (W.alloc o) b x y z := by
  unfold Box3 at h ⊢
  rw [Below.heap_alloc _ _ _ (Box3.lt h)]; exact h
theorem Box3.sets {W : World} {b : Nat} {x y z : Int} (h : Box3 W b x y z) (x' y' z' : Int) : Box3 (((W.setCell ⟨b, 0, none⟩ (.int .i64 x')).setCell ⟨b, 1, none⟩ (.int .i64 y')).setCell ⟨b, 2, none⟩ (.int .i64 z')) b x' y' z' := by
  unfold Box3 at h ⊢
  unfold World.setCell
  simp only [Array.getElem?_modify, h]
  rfl

end Go.Proofs.YtlolaieolgmdnaaGreatDoor
