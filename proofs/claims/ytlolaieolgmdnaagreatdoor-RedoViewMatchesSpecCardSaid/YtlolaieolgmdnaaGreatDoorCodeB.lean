/-
  The walks: the place of a bit (the reference), valid lines (both).
-/
import Derived.Test.YtlolaieolgmdnaaGreatDoorCodeA
namespace Go.Proofs.YtlolaieolgmdnaaGreatDoor
open Go.RowKit
set_option maxRecDepth 100000

theorem place_end : ∀ i : Fin 320, ∀ j : Fin 11, 2 ≤ j.val → (∀ k : Fin j.val, 2 ≤ k.val → 2 ^ k.val ≤ i.val + 1 + k.val) → i.val + 1 + j.val < 2 ^ j.val → i.val + 1 + j.val = posn i.val := by decide +kernel

set_option maxHeartbeats 400000 in
theorem place_any (i : Nat) (w : World) (h1 : i < 320) :
    Calls Tryz.prog 133 #[.int .i64 i] w (RetS (.int .i64 (posn i : Nat)) w) := by
  go_enter Tryz.func133, Tryz.ntmps133
  go_wp2
  go_loop [3] (fun s => ∃ k : Nat, 2 ≤ k ∧ k ≤ 10 ∧ s = .int .i64 k ∧ ∀ j, 2 ≤ j → j < k → 2 ^ j ≤ i + 1 + j) (fun s => 10 - (intOf s).toNat)
  case atStart => exact ⟨2, by omega, by omega, rfl, fun j _ _ => by omega⟩
  case round =>
    obtain ⟨k, hk2, hk, rfl, hall⟩ := hrel
    have Hall := Lib.hid hall
    clear hall
    obtain ⟨p, hpk⟩ : ∃ p : Nat, p = 2 ^ k := ⟨_, rfl⟩
    have hp : p ≤ 1024 := by rw [hpk]; exact Nat.pow_le_pow_right (by decide : 0 < 2) hk
    have hw : wrap64 (2 ^ k) = (p : Int) := by
      have e : (2 : Int) ^ k = (p : Int) := by rw [hpk]; simp
      rw [e, IntWalk.wrap64_in _ (by omega)]
    have h10 : k = 10 → ¬ (p ≤ i + 1 + k) := by rintro rfl; rw [hpk]; omega
    have Hpos := Lib.hid (posn_bound ⟨i, h1⟩)
    have hend := place_end ⟨i, h1⟩ ⟨k, by omega⟩ hk2 (fun j hj => Hall.out j.val hj j.isLt)
    simp only [← hpk] at hend
    have Hend := Lib.hid hend
    clear hend
    have Hpk := Lib.hid hpk
    clear hpk
    by_cases hlt : p ≤ i + 1 + k
    · go_wp2
      go_round
      case rel => exact ⟨k + 1, by omega, by omega, by go_num, fun j hj hj' => by
        rcases (by omega : j < k ∨ j = k) with h | rfl
        · exact Hall.out j hj h
        · rw [← Hpk.out]; omega⟩
      case measure => simp [intOf]; omega
    · go_wp2
      go_ret
      exact ⟨ret_int (by have := Hend.out (by omega); omega), rfl⟩

/-- The cells of a boxed array. -/
theorem box8_cell (a0 a1 a2 a3 a4 a5 a6 a7 : Int) (W : World) (k : Nat) (h : k < 8) : (W.alloc (.cells #[.int .i64 a0, .int .i64 a1, .int .i64 a2, .int .i64 a3, .int .i64 a4, .int .i64 a5, .int .i64 a6, .int .i64 a7] 80)).cell? ⟨W.heap.size, k, none⟩ = some (.int .i64 ((⟨a0, a1, a2, a3, a4, a5, a6, a7⟩ : W8).get k)) := by
  rcases lt8 h with rfl | rfl | rfl | rfl | rfl | rfl | rfl | rfl <;> simp [W8.get]

set_option maxHeartbeats 400000 in
theorem valid_any (a0 a1 a2 a3 a4 a5 a6 a7 c : Int) (w : World) :
    Calls Tryz.prog 99 #[(.agg #[.int .i64 a0, .int .i64 a1, .int .i64 a2, .int .i64 a3, .int .i64 a4, .int .i64 a5, .int .i64 a6, .int .i64 a7]), .int .i64 c] w (RetB (.bool (validB (⟨a0, a1, a2, a3, a4, a5, a6, a7⟩ : W8) c)) w) := by
  have hix := index8 a0 a1 a2 a3 a4 a5 a6 a7
  generalize hl : (⟨a0, a1, a2, a3, a4, a5, a6, a7⟩ : W8) = l at *
  clear hl
  go_enter Tryz.func99, Tryz.ntmps99
  go_wp2
  go_loop [8] (fun i => ∃ k : Nat, k ≤ 8 ∧ i = .int .i64 k ∧ ∀ j, j < k → 0 ≤ l.get j ∧ l.get j ≤ 1099511627775) (fun i => 8 - (intOf i).toNat)
  case atStart => exact ⟨0, by omega, rfl, fun j h => by omega⟩
  case round =>
    obtain ⟨k, hk, rfl, hall⟩ := hrel
    have Hall := Lib.hid hall
    clear hall
    by_cases hlt : k < 8
    · have hx := fun w => hix k w hlt
      clear hix
      generalize hv : l.get k = v at *
      have Hv := Lib.hid hv
      clear hv
      by_cases hb : 0 ≤ v ∧ v ≤ 1099511627775
      · obtain ⟨hb0, hb1⟩ := hb
        go_wp2
        go_round
        case rel => exact ⟨k + 1, by omega, by go_num, fun j hj => by
          rcases (by omega : j < k ∨ j = k) with h | rfl
          · exact Hall.out j h
          · rw [Hv.out]; omega⟩
        case measure => simp [intOf]; omega
      · go_wp2
        all_goals
          first
            | (go_ret
               exact ⟨ret_bool (validB_no hlt (by rw [Hv.out]; omega) c).symm, (Below.refl _ _).alloc (Nat.le_refl _) _⟩)
            | (exfalso; omega)
    · obtain rfl : k = 8 := by omega
      go_wp2
      all_goals
        go_ret
        first
          | exact ⟨ret_bool (validB_code (by omega)).symm, (Below.refl _ _).alloc (Nat.le_refl _) _⟩
          | exact ⟨ret_bool (by
              by_cases hc : c ≤ 1023
              · rw [validB_yes Hall.out (by omega) hc]; simp; omega
              · rw [validB_code (by omega)]; simp; omega), (Below.refl _ _).alloc (Nat.le_refl _) _⟩

set_option maxHeartbeats 400000 in
theorem rvalid_any (a0 a1 a2 a3 a4 a5 a6 a7 c : Int) (w : World) :
    Calls Tryz.prog 112 #[(.agg #[.int .i64 a0, .int .i64 a1, .int .i64 a2, .int .i64 a3, .int .i64 a4, .int .i64 a5, .int .i64 a6, .int .i64 a7]), .int .i64 c] w (RetB (.bool (validB (⟨a0, a1, a2, a3, a4, a5, a6, a7⟩ : W8) c)) w) := by
  have hix := box8_cell a0 a1 a2 a3 a4 a5 a6 a7 w
  generalize hl : (⟨a0, a1, a2, a3, a4, a5, a6, a7⟩ : W8) = l at *
  clear hl
  go_enter Tryz.func112, Tryz.ntmps112
  go_wp2
  go_loop [5] (fun i => ∃ k : Nat, k ≤ 8 ∧ i = .int .i64 k ∧ ∀ j, j < k → 0 ≤ l.get j ∧ l.get j ≤ 1099511627775) (fun i => 8 - (intOf i).toNat)
  case atStart => exact ⟨0, by omega, rfl, fun j h => by omega⟩
  case round =>
    obtain ⟨k, hk, rfl, hall⟩ := hrel
    have Hall := Lib.hid hall
    clear hall
    by_cases hlt : k < 8
    · have hx := hix k hlt
      clear hix
      generalize hv : l.get k = v at *
      have Hv := Lib.hid hv
      clear hv
      by_cases hb : 0 ≤ v ∧ v ≤ 1099511627775
      · obtain ⟨hb0, hb1⟩ := hb
        go_wp2
        go_round
        case rel => exact ⟨k + 1, by omega, by go_num, fun j hj => by
          rcases (by omega : j < k ∨ j = k) with h | rfl
          · exact Hall.out j h
          · rw [Hv.out]; omega⟩
        case measure => simp [intOf]; omega
      · go_wp2
        all_goals
          first
            | (go_ret
               exact ⟨ret_bool (validB_no hlt (by rw [Hv.out]; omega) c).symm, (Below.refl _ _).alloc (Nat.le_refl _) _⟩)
            | (exfalso; omega)
    · obtain rfl : k = 8 := by omega
      go_wp2
      all_goals
        go_ret
        first
          | exact ⟨ret_bool (validB_code (by omega)).symm, (Below.refl _ _).alloc (Nat.le_refl _) _⟩
          | exact ⟨ret_bool (by
              by_cases hc : c ≤ 1023
              · rw [validB_yes Hall.out (by omega) hc]; simp; omega
              · rw [validB_code (by omega)]; simp; omega), (Below.refl _ _).alloc (Nat.le_refl _) _⟩

end Go.Proofs.YtlolaieolgmdnaaGreatDoor
