/-
  The walks of the small functions of layer 3 and of its reference: which bits there are, positions, valid lines.
-/
import Derived.Test.YtlolaieolgmdnaaGreatDoorBits
import Derived.Test.YtlolaieolgmdnaaGreatDoorShelf
import Derived.Test.YtlolaieolgmdnaaGreatDoorPlainB
namespace Go.Proofs.YtlolaieolgmdnaaGreatDoor
open Go.RowKit
set_option maxRecDepth 100000

theorem ret_int {k : IntKind} {a b : Int} (h : a = b) : Ending.returned (.int k a) = .returned (.int k b) := by rw [h]
theorem ret_bool {a b : Bool} (h : a = b) : Ending.returned (.bool a) = .returned (.bool b) := by rw [h]

/-- What lies in an old block still lies there. -/
theorem bcell {W w1 : World} (hb : Below W.heap.size W w1) : (∀ b o, b < W.heap.size → w1.cell? ⟨b, o, none⟩ = W.cell? ⟨b, o, none⟩) ∧ (∀ b o, b < W.heap.size → w1.frozen? ⟨b, o, none⟩ = W.frozen? ⟨b, o, none⟩) :=
  ⟨fun b o h => hb.cell (p := ⟨b, o, none⟩) h, fun b o h => hb.frozen (p := ⟨b, o, none⟩) h⟩

theorem exB_true (a b : Int) (h : 0 ≤ a ∧ a < 8 ∧ 0 ≤ b ∧ b < 40 ∨ a = 8 ∧ 0 ≤ b ∧ b < 10) : exB a b = true := by unfold exB; simpa using h
theorem exB_false (a b : Int) (h : ¬(0 ≤ a ∧ a < 8 ∧ 0 ≤ b ∧ b < 40 ∨ a = 8 ∧ 0 ≤ b ∧ b < 10)) : exB a b = false := by unfold exB; simpa using h

theorem exB_any (a b : Int) (x : Bool) (h : x = true ↔ (0 ≤ a ∧ a < 8 ∧ 0 ≤ b ∧ b < 40 ∨ a = 8 ∧ 0 ≤ b ∧ b < 10)) : x = exB a b := by
  unfold exB
  rw [Bool.eq_iff_iff, h]; simp

set_option maxHeartbeats 400000 in
theorem exists_any (a b : Int) (w : World) :
    Calls Tryz.prog 134 #[.int .i64 a, .int .i64 b] w (RetS (.bool (exB a b)) w) := by
  go_enter Tryz.func134, Tryz.ntmps134
  go_wp2
  all_goals
    go_ret
    exact ⟨ret_bool (exB_any _ _ _ (by simp; omega)), rfl⟩

set_option maxHeartbeats 400000 in
theorem rexists_any (a b : Int) (w : World) :
    Calls Tryz.prog 135 #[.int .i64 a, .int .i64 b] w (RetS (.bool (exB a b)) w) := by
  go_enter Tryz.func135, Tryz.ntmps135
  go_wp2
  all_goals
    go_ret
    exact ⟨ret_bool (exB_any _ _ _ (by (try simp only [beq_iff_eq, beq_eq_false_iff_ne, ne_eq] at *); simp; omega)), rfl⟩

/-- The index of an array of eight. -/
theorem index8 (a0 a1 a2 a3 a4 a5 a6 a7 : Int) (k : Nat) (w : World) (h : k < 8) : (Instr.index 80 (.agg #[.int .i64 a0, .int .i64 a1, .int .i64 a2, .int .i64 a3, .int .i64 a4, .int .i64 a5, .int .i64 a6, .int .i64 a7]) (.int .i64 (k : Int))).run Tryz.prog w = .ok (.int .i64 ((⟨a0, a1, a2, a3, a4, a5, a6, a7⟩ : W8).get k)) w := by
  rcases lt8 h with rfl | rfl | rfl | rfl | rfl | rfl | rfl | rfl <;> kernel_rfl

theorem posn_is (i : Nat) (n : Nat) (hn : n = i + 1 + Lib.bitLen (i + 1)) : posn i = if Lib.bitLen n > Lib.bitLen (i + 1) then n + 1 else n := by subst hn; rfl

set_option maxHeartbeats 400000 in
theorem position_any (a b : Int) (w : World) (h0 : 0 ≤ a) (h1 : a < 8) (h2 : 0 ≤ b) (h3 : b < 40) :
    Calls Tryz.prog 114 #[.int .i64 a, .int .i64 b] w (RetS (.int .i64 ((posn (40 * a + b).toNat : Nat) : Int)) w) := by
  obtain ⟨i, hi⟩ : ∃ i : Nat, a * 40 + b + 1 = ((i + 1 : Nat) : Int) := ⟨(40 * a + b).toNat, by omega⟩
  have e : (40 * a + b).toNat = i := by omega
  have hi320 : i < 320 := by omega
  have hb := posn_bound ⟨i, hi320⟩
  have hL : Lib.bitLen (i + 1) ≤ 9 := (by decide +kernel : ∀ i : Fin 320, Lib.bitLen (i.val + 1) ≤ 9) ⟨i, hi320⟩
  obtain ⟨n, hn⟩ : ∃ n, n = i + 1 + Lib.bitLen (i + 1) := ⟨_, rfl⟩
  have hp := posn_is i n hn
  rw [e]
  have hc1 := Tryz.bits_Len ((i + 1 : Nat) : Int) w (by omega) (by omega)
  have hc2 := Tryz.bits_Len (n : Int) w (by omega) (by omega)
  rw [Int.toNat_natCast] at hc1 hc2
  have hni : ((i + 1 : Nat) : Int) + (Lib.bitLen (i + 1) : Int) = (n : Int) := by omega
  have hnb : (n : Int) < 1000 := by omega
  have hib : ((i + 1 : Nat) : Int) < 1000 := by omega
  have hib0 : (0 : Int) ≤ ((i + 1 : Nat) : Int) := by omega
  generalize Lib.bitLen (i + 1) = L1 at *
  generalize Lib.bitLen n = L2 at *
  generalize hm : ((i + 1 : Nat) : Int) = m at *
  have Hhm := Lib.hid hm
  have Hp := Lib.hid hp
  have Hn := Lib.hid hn
  have He := Lib.hid e
  clear hm hp hn e hb
  by_cases hlt : L1 < L2
  · go_enter Tryz.func114, Tryz.ntmps114
    go_wp2_with (first | (refine hc1.mono ?_; rintro e w' ⟨rfl, rfl⟩) | (refine hc2.mono ?_; rintro e w' ⟨rfl, rfl⟩))
    go_ret
    exact ⟨ret_int (by rw [Hp.out, if_pos hlt]; omega), rfl⟩
  · go_enter Tryz.func114, Tryz.ntmps114
    go_wp2_with (first | (refine hc1.mono ?_; rintro e w' ⟨rfl, rfl⟩) | (refine hc2.mono ?_; rintro e w' ⟨rfl, rfl⟩))
    go_ret
    exact ⟨ret_int (by rw [Hp.out, if_neg hlt]), rfl⟩

end Go.Proofs.YtlolaieolgmdnaaGreatDoor
