/-
  The walks of Position (both) and of the reference's Bit.
-/
import Derived.Test.YtmhllnnchhcamaaDoorCodeE
namespace Go.Proofs.YtmhllnnchhcamaaDoor
open Go.RowKit

theorem posB_no {a b : Int} (h : exB a b = false) : posB a b = 0 := by unfold posB; rw [h]; rfl
theorem posB_data {a b : Int} (h : exB a b = true) (ha : a ≠ 8) : posB a b = (posn (40 * a + b).toNat : Nat) := by unfold posB; rw [h, if_pos rfl, if_neg ha]
theorem posB_code {b : Int} (h : exB 8 b = true) : posB 8 b = if b = 9 then 0 else 2 ^ b.toNat := by unfold posB; rw [h, if_pos rfl, if_pos rfl]
theorem exB_iff {a b : Int} : exB a b = true ↔ (0 ≤ a ∧ a < 8 ∧ 0 ≤ b ∧ b < 40 ∨ a = 8 ∧ 0 ≤ b ∧ b < 10) := by unfold exB; simp

theorem code_pos : ∀ j : Fin 10, bits .and .i64 ((2 ^ j.val : Nat) : Int) 511 = if ((j.val : Nat) : Int) = 9 then 0 else ((2 ^ j.val : Nat) : Int) := by decide +kernel

set_option maxHeartbeats 400000 in
theorem Position_any (a b : Int) (w : World) :
    Calls Tryd.prog 12 #[.int .i64 a, .int .i64 b] w (RetS (.int .i64 (posB a b)) w) := by
  have hex := fun W => exists_any a b W
  have Hiff := Lib.hid (@exB_iff a b)
  generalize hx : exB a b = x at *
  have Hx := Lib.hid hx
  clear hx
  cases x with
  | false =>
    go_enter Tryd.func12, Tryd.ntmps12
    go_wp2_with fail
    refine (hex _).mono ?_
    rintro e w' ⟨rfl, rfl⟩
    go_wp2
    go_ret
    exact ⟨ret_int (posB_no Hx.out).symm, rfl⟩
  | true =>
    have hr := Hiff.out.1 rfl
    by_cases ha : a = 8
    · subst ha
      obtain ⟨j, hj⟩ : ∃ j : Nat, b = j := ⟨b.toNat, by omega⟩
      subst hj
      have hj10 : j < 10 := by omega
      have hc := code_pos ⟨j, hj10⟩
      simp only at hc
      obtain ⟨p, hp⟩ : ∃ p, p = 2 ^ j := ⟨_, rfl⟩
      have hw : wrap64 (2 ^ j) = (p : Int) := by
        have e : (2 : Int) ^ j = (p : Int) := by rw [hp]; simp
        have h2 : 2 ^ j ≤ 2 ^ 9 := Nat.pow_le_pow_right (by decide) (by omega)
        rw [e, IntWalk.wrap64_in _ (by omega)]
      have HP : Hid (posB 8 j = if (j : Int) = 9 then 0 else (p : Int)) := by
        refine Lib.hid ?_
        rw [posB_code Hx.out, hp, Int.toNat_natCast]; simp
      rw [← hp] at hc
      have Hc := Lib.hid hc
      clear hc hp hr
      go_enter Tryd.func12, Tryd.ntmps12
      go_wp2_with fail
      refine (hex _).mono ?_
      rintro e w' ⟨rfl, rfl⟩
      go_wp2
      go_ret
      exact ⟨ret_int (by rw [HP.out, Hc.out]), rfl⟩
    · have hp := fun W => position_any a b W (by omega) (by omega) (by omega) (by omega)
      have ha8 : (a == 8) = false := by rw [beq_eq_false_iff_ne]; exact ha
      have HP := Lib.hid (posB_data Hx.out ha)
      clear hr ha
      go_enter Tryd.func12, Tryd.ntmps12
      go_wp2_with fail
      refine (hex _).mono ?_
      rintro e w' ⟨rfl, rfl⟩
      go_wp2_with fail
      refine (hp _).mono ?_
      rintro e w' ⟨rfl, rfl⟩
      go_wp2
      go_ret
      exact ⟨ret_int HP.out.symm, rfl⟩

set_option maxHeartbeats 400000 in
theorem rPosition_any (a b : Int) (w : World) :
    Calls Tryd.prog 13 #[.int .i64 a, .int .i64 b] w (RetS (.int .i64 (posB a b)) w) := by
  have hex := fun W => rexists_any a b W
  have Hiff := Lib.hid (@exB_iff a b)
  generalize hx : exB a b = x at *
  have Hx := Lib.hid hx
  clear hx
  cases x with
  | false =>
    go_enter Tryd.func13, Tryd.ntmps13
    go_wp2_with fail
    refine (hex _).mono ?_
    rintro e w' ⟨rfl, rfl⟩
    go_wp2
    go_ret
    exact ⟨ret_int (posB_no Hx.out).symm, rfl⟩
  | true =>
    have hr := Hiff.out.1 rfl
    by_cases ha : a = 8
    · subst ha
      obtain ⟨j, hj⟩ : ∃ j : Nat, b = j := ⟨b.toNat, by omega⟩
      subst hj
      have hj10 : j < 10 := by omega
      obtain ⟨p, hp⟩ : ∃ p, p = 2 ^ j := ⟨_, rfl⟩
      have hw : wrap64 (2 ^ j) = (p : Int) := by
        have e : (2 : Int) ^ j = (p : Int) := by rw [hp]; simp
        have h2 : 2 ^ j ≤ 2 ^ 9 := Nat.pow_le_pow_right (by decide) (by omega)
        rw [e, IntWalk.wrap64_in _ (by omega)]
      have HP : Hid (posB 8 j = if (j : Int) = 9 then 0 else (p : Int)) := by
        refine Lib.hid ?_
        rw [posB_code Hx.out, hp, Int.toNat_natCast]; simp
      clear hp hr
      by_cases h9 : j = 9
      · have h9b : ((j : Int) == 9) = true := by rw [beq_iff_eq]; omega
        have H9 := Lib.hid h9
        clear h9
        go_enter Tryd.func13, Tryd.ntmps13
        go_wp2_with fail
        refine (hex _).mono ?_
        rintro e w' ⟨rfl, rfl⟩
        go_wp2
        go_ret
        exact ⟨ret_int (by rw [HP.out, if_pos (by have := H9.out; omega)]), rfl⟩
      · have h9b : ((j : Int) == 9) = false := by rw [beq_eq_false_iff_ne]; omega
        go_enter Tryd.func13, Tryd.ntmps13
        go_wp2_with fail
        refine (hex _).mono ?_
        rintro e w' ⟨rfl, rfl⟩
        go_wp2
        go_ret
        exact ⟨ret_int (by rw [HP.out, if_neg (by omega), hw]), rfl⟩
    · have hp := fun W => place_any (40 * a + b).toNat W (by omega)
      have hcast : (((40 * a + b).toNat : Nat) : Int) = 40 * a + b := by omega
      rw [hcast] at hp
      have ha8 : (a == 8) = false := by rw [beq_eq_false_iff_ne]; exact ha
      have HP := Lib.hid (posB_data Hx.out ha)
      have ha0 : 0 ≤ a ∧ a ≤ 8 ∧ 0 ≤ b ∧ b ≤ 40 := by omega
      obtain ⟨h1, h2, h3, h4⟩ := ha0
      clear hr ha hcast
      go_enter Tryd.func13, Tryd.ntmps13
      go_wp2_with fail
      refine (hex _).mono ?_
      rintro e w' ⟨rfl, rfl⟩
      go_wp2_with fail
      refine (hp _).mono ?_
      rintro e w' ⟨rfl, rfl⟩
      go_wp2
      go_ret
      exact ⟨ret_int HP.out.symm, rfl⟩

/-- Which bit Bit names. -/
def bitW (n : Int) : Int := if 320 ≤ n % 330 then 8 else n % 330 / 40
def bitB (n : Int) : Int := if 320 ≤ n % 330 then n % 330 - 320 else n % 330 % 40

set_option maxHeartbeats 400000 in
theorem Bit_any (n : Int) (w : World) (h0 : 0 ≤ n) (h1 : n ≤ 65535) :
    Calls Tryd.prog 26 #[.int .u16 n] w (RetS (.tuple #[.int .i64 (bitW n), .int .i64 (bitB n)]) w) := by
  have HW : Hid (bitW n = _) := Lib.hid (show bitW n = if 320 ≤ n % 330 then 8 else n % 330 / 40 from rfl)
  have HB : Hid (bitB n = _) := Lib.hid (show bitB n = if 320 ≤ n % 330 then n % 330 - 320 else n % 330 % 40 from rfl)
  by_cases h : 320 ≤ n % 330
  · go_enter Tryd.func26, Tryd.ntmps26
    go_wp2
    go_ret2
    exact ⟨by rw [HW.out, HB.out, if_pos (by omega), if_pos (by omega)]; rfl, rfl⟩
  · go_enter Tryd.func26, Tryd.ntmps26
    go_wp2
    go_ret2
    exact ⟨by rw [HW.out, HB.out, if_neg (by omega), if_neg (by omega)]; rfl, rfl⟩

end Go.Proofs.YtmhllnnchhcamaaDoor
