/-
  The walks: one bit of a line (the reference); the exclusive or of the positions of the ones, and how many there are.
-/
import Derived.Test.YtlolaieolgmdnaaGreatDoorCodeB
import Derived.Test.YtlolaieolgmdnaaGreatDoorPlainC
namespace Go.Proofs.YtlolaieolgmdnaaGreatDoor
open Go.RowKit
set_option maxRecDepth 100000

theorem bit_is (x : Int) (h0 : 0 ≤ x) (h1 : x ≤ 9223372036854775807) (j : Nat) : (bits .and .i64 (x / 2 ^ j) 1 == 1) = x.toNat.testBit j := by
  obtain ⟨n, rfl⟩ := Int.eq_ofNat_of_zero_le h0
  have hn : n / 2 ^ j ≤ n := Nat.div_le_self _ _
  rw [show (n : Int) / 2 ^ j = ((n / 2 ^ j : Nat) : Int) from by simp, show (1 : Int) = ((1 : Nat) : Int) from rfl, and_i64 _ _ (by omega) (by decide), Int.toNat_natCast, Nat.testBit, Nat.shiftRight_eq_div_pow]
  rw [Nat.and_comm]
  have hm : 1 &&& n / 2 ^ j = n / 2 ^ j % 2 := Nat.one_and_eq_mod_two _
  rw [hm]
  rw [Bool.eq_iff_iff, beq_iff_eq, bne_iff_ne]
  omega

set_option maxHeartbeats 400000 in
theorem one_word (a0 a1 a2 a3 a4 a5 a6 a7 c : Int) (k j : Nat) (hk : k < 8) (hj : j < 40) (w : World) (hv : validB (⟨a0, a1, a2, a3, a4, a5, a6, a7⟩ : W8) c = true) :
    Calls Tryz.prog 142 #[(.agg #[.int .i64 a0, .int .i64 a1, .int .i64 a2, .int .i64 a3, .int .i64 a4, .int .i64 a5, .int .i64 a6, .int .i64 a7]), .int .i64 c, .int .i64 k, .int .i64 j] w (RetB (.bool ((wd (⟨a0, a1, a2, a3, a4, a5, a6, a7⟩ : W8) k).testBit j)) w) := by
  have hx := box8_cell a0 a1 a2 a3 a4 a5 a6 a7 w k hk
  generalize hl : (⟨a0, a1, a2, a3, a4, a5, a6, a7⟩ : W8) = l at *
  have h8 : ((k : Int) == 8) = false := by rw [beq_eq_false_iff_ne]; omega
  clear hl
  go_enter Tryz.func142, Tryz.ntmps142
  go_wp2
  go_ret
  have hb := (validB_iff.1 hv).1 k hk
  exact ⟨ret_bool (bit_is _ (by omega) (by omega) j), (Below.refl _ _).alloc (Nat.le_refl _) _⟩

set_option maxHeartbeats 400000 in
theorem one_code (a0 a1 a2 a3 a4 a5 a6 a7 c : Int) (j : Nat) (hj : j < 10) (w : World) (hv : validB (⟨a0, a1, a2, a3, a4, a5, a6, a7⟩ : W8) c = true) :
    Calls Tryz.prog 142 #[(.agg #[.int .i64 a0, .int .i64 a1, .int .i64 a2, .int .i64 a3, .int .i64 a4, .int .i64 a5, .int .i64 a6, .int .i64 a7]), .int .i64 c, .int .i64 8, .int .i64 j] w (RetB (.bool (c.toNat.testBit j)) w) := by
  go_enter Tryz.func142, Tryz.ntmps142
  go_wp2
  go_ret
  have hb := (validB_iff.1 hv).2
  exact ⟨ret_bool (bit_is _ (by omega) (by omega) j), (Below.refl _ _).alloc (Nat.le_refl _) _⟩

set_option maxHeartbeats 400000 in
theorem sum_any (a0 a1 a2 a3 a4 a5 a6 a7 : Int) (w : World) (hv : validB (⟨a0, a1, a2, a3, a4, a5, a6, a7⟩ : W8) 0 = true) (hT : TabIn w) :
    Calls Tryz.prog 100 #[(.agg #[.int .i64 a0, .int .i64 a1, .int .i64 a2, .int .i64 a3, .int .i64 a4, .int .i64 a5, .int .i64 a6, .int .i64 a7])] w (RetB (.tuple #[.int .i64 (syn (⟨a0, a1, a2, a3, a4, a5, a6, a7⟩ : W8) : Nat), .int .i64 (cnt (⟨a0, a1, a2, a3, a4, a5, a6, a7⟩ : W8) : Nat)]) w) := by
  have hix := index8 a0 a1 a2 a3 a4 a5 a6 a7
  generalize hl : (⟨a0, a1, a2, a3, a4, a5, a6, a7⟩ : W8) = l at *
  clear hl
  have HT := Lib.hid hT
  clear hT
  have Hv := Lib.hid hv
  clear hv
  go_enter Tryz.func100, Tryz.ntmps100
  go_wp2
  have HT1 : Hid (TabIn (w.alloc (.cells #[.int .i64 a0, .int .i64 a1, .int .i64 a2, .int .i64 a3, .int .i64 a4, .int .i64 a5, .int .i64 a6, .int .i64 a7] 80))) := Lib.hid (HT.out.below ((Below.refl _ _).alloc (Nat.le_refl _) _))
  go_loop [2, 3, 7] (fun s n i => ∃ k : Nat, k ≤ 8 ∧ i = .int .i64 k ∧ s = .int .i64 (xs (lb l) posn (40 * k) : Nat) ∧ n = .int .i64 (cn (lb l) (40 * k) : Nat)) (fun _ _ i => 8 - (intOf i).toNat)
  case atStart => exact ⟨0, by omega, rfl, rfl, rfl⟩
  case round =>
    obtain ⟨k, hk, rfl, rfl, rfl⟩ := hrel
    by_cases hlt : k < 8
    · have hx := fun w => hix k w hlt
      clear hix
      obtain ⟨hwd, hwe⟩ := wd_lt Hv.out k hlt
      rw [← hwe] at hx
      clear hwe
      go_wp2
      go_loop [2, 3, 5] (fun s n x => ∃ y s' n' : Nat, y < 1099511627776 ∧ s' < 512 ∧ n' + pop 40 y ≤ 320 ∧ x = .int .i64 y ∧ s = .int .i64 (s' : Nat) ∧ n = .int .i64 (n' : Nat) ∧ Hid (s' ^^^ wx k y = xs (lb l) posn (40 * (k + 1))) ∧ Hid (n' + pop 40 y = cn (lb l) (40 * (k + 1)))) (fun _ _ x => (intOf x).toNat)
      case atStart =>
        have := cn_le (lb l) (40 * (k + 1))
        exact ⟨wd l k, _, _, hwd, syn_part_lt l _ (by omega), by rw [← cnt_word]; omega, rfl, rfl, rfl, (syn_word l k).symm, (cnt_word l k).symm⟩
      case round =>
        obtain ⟨y, s', n', hy, hs', hn', rfl, rfl, rfl, Hs, Hn⟩ := hrel
        by_cases h0 : y = 0
        · subst h0
          go_wp2
          go_round
          case rel => exact ⟨k + 1, by omega, by go_num, by rw [← Hs.out, wx_zero]; simp, by rw [← Hn.out, pop_zero]; simp⟩
          case measure => simp [intOf]; omega
        · have Hw := Lib.hid (wx_step k y hy h0)
          have Hp := Lib.hid (pop_step y hy h0)
          have Hc := Lib.hid (low_one y hy h0)
          have hpos : posn (40 * k + Lib.ctz 64 y) < 512 := posn_lt _ (by have := Hc.out.1; omega)
          have ht40 := Hc.out.1
          have hb1 : ((y : Int) != 0) = true := by rw [bne_iff_ne]; omega
          have hand := and_i64 y (y - 1) (by omega) (by omega)
          rw [show ((y - 1 : Nat) : Int) = (y : Int) - 1 from by omega] at hand
          have hxor := xor_i64 s' (posn (40 * k + Lib.ctz 64 y)) (by omega) (by omega)
          have hty := tz_any y (by omega) h0 _ HT1.out
          have hpn := fun W => position_any (k : Int) (Lib.ctz 64 y : Nat) W (by omega) (by omega) (by omega) (by omega)
          rw [show ((40 : Int) * (k : Int) + (Lib.ctz 64 y : Nat)).toNat = 40 * k + Lib.ctz 64 y from by omega] at hpn
          have hylt := Hc.out.2.2.2
          have hn1 : n' + (1 + pop 40 (y &&& (y - 1))) ≤ 320 := by rw [← Hp.out]; exact hn'
          have hs1 : s' ^^^ posn (40 * k + Lib.ctz 64 y) < 512 := Nat.xor_lt_two_pow (n := 9) hs' hpos
          generalize Lib.ctz 64 y = t at *
          generalize posn (40 * k + t) = p at *
          generalize y &&& (y - 1) = z at *
          generalize hs1e : s' ^^^ p = s1 at *
          have Hs1 := Lib.hid hs1e
          clear hs1e
          go_wp2_with (first | (refine hty.mono ?_; rintro e w' ⟨rfl, rfl⟩) | (refine (hpn _).mono ?_; rintro e w' ⟨rfl, rfl⟩))
          go_round
          case rel => exact ⟨z, s1, n' + 1, by omega, hs1, by omega, rfl, rfl, by go_num, by
            have h1 := Hs.out
            rw [Hw.out, ← Nat.xor_assoc, Hs1.out] at h1
            exact h1, by
            have h1 := Hn.out
            have h2 := Hp.out
            exact (by omega : n' + 1 + pop 40 z = cn (lb l) (40 * (k + 1)))⟩
          case measure => simp [intOf]; omega
    · obtain rfl : k = 8 := by omega
      go_wp2
      go_ret2
      exact ⟨rfl, (Below.refl _ _).alloc (Nat.le_refl _) _⟩

end Go.Proofs.YtlolaieolgmdnaaGreatDoor
