/-
  The walks of math/bits: TrailingZeros64 and OnesCount64, as the program calls them.
-/
import Derived.Test.YtlolaieolgmdnaaGreatDoorProg
import Derived.WalkKit
import Derived.WalkSpells
import Derived.WalkLawsBesides
import Derived.Lib.Hide
import Derived.Lib.TrailingZeros
import Derived.Test.YtlolaieolgmdnaaGreatDoorPlainA
namespace Go.Proofs.YtlolaieolgmdnaaGreatDoor
open Go.RowKit
set_option maxRecDepth 100000

/-- The call returns v; the world is as it was. -/
def RetS (v : Value) (w : World) (e : Ending) (w' : World) : Prop := e = .returned v ∧ w = w'
/-- The call returns v; whatever existed in the world is as it was. -/
def RetB (v : Value) (w : World) (e : Ending) (w' : World) : Prop := e = .returned v ∧ Below w.heap.size w w'

theorem and64_nat (a b : Nat) (ha : a < 18446744073709551616) (hb : b < 18446744073709551616) : bits .and .u64 (a : Int) (b : Int) = ((a &&& b : Nat) : Int) := bits_and_u64_nat a b ha hb

set_option maxHeartbeats 400000 in
theorem oc64_core (x y1 y2 y3 y4 y5 y6 r : Nat) (w : World)
    (k1 : IntKind.u64.wrap (bits .and .u64 ((x : Int) / 2) 6148914691236517205 + bits .and .u64 (x : Int) 6148914691236517205) = (y1 : Int))
    (k2 : IntKind.u64.wrap (bits .and .u64 ((y1 : Int) / 4) 3689348814741910323 + bits .and .u64 (y1 : Int) 3689348814741910323) = (y2 : Int))
    (k3 : bits .and .u64 (IntKind.u64.wrap ((y2 : Int) / 16 + (y2 : Int))) 1085102592571150095 = (y3 : Int))
    (k4 : IntKind.u64.wrap ((y3 : Int) + (y3 : Int) / 256) = (y4 : Int))
    (k5 : IntKind.u64.wrap ((y4 : Int) + (y4 : Int) / 65536) = (y5 : Int))
    (k6 : IntKind.u64.wrap ((y5 : Int) + (y5 : Int) / 4294967296) = (y6 : Int))
    (k7 : bits .and .i64 (y6 : Int) 127 = (r : Int)) (h6 : (y6 : Int) ≤ 9223372036854775807) :
    Calls Tryz.prog 116 #[.int .u64 x] w (RetS (.int .i64 r) w) := by
  go_enter Tryz.func116, Tryz.ntmps116
  go_wp2
  go_ret
  exact ⟨rfl, rfl⟩

theorem wrap_u64_in (n : Int) (h0 : 0 ≤ n) (h1 : n < 18446744073709551616) : IntKind.u64.wrap n = n := by rw [IntKind.wrap_u64]; omega
theorem wrap_i64_in (n : Int) (h0 : 0 ≤ n) (h1 : n < 9223372036854775808) : IntKind.i64.wrap n = n := by rw [IntKind.wrap_i64]; omega
theorem and_i64 (a b : Nat) (ha : a < 9223372036854775808) (hb : b < 9223372036854775808) : bits .and .i64 (a : Int) (b : Int) = ((a &&& b : Nat) : Int) :=
  (bits_nat .i64 63 (by decide) (fun n h0 h1 => wrap_i64_in n h0 (by simpa using h1)) a b (by simpa using ha) (by simpa using hb)).1
theorem or_i64 (a b : Nat) (ha : a < 9223372036854775808) (hb : b < 9223372036854775808) : bits .or .i64 (a : Int) (b : Int) = ((a ||| b : Nat) : Int) :=
  (bits_nat .i64 63 (by decide) (fun n h0 h1 => wrap_i64_in n h0 (by simpa using h1)) a b (by simpa using ha) (by simpa using hb)).2
theorem xor_i64 (a b : Nat) (ha : a < 9223372036854775808) (hb : b < 9223372036854775808) : bits .xor .i64 (a : Int) (b : Int) = ((a ^^^ b : Nat) : Int) := by
  have hx : a ^^^ b < 2 ^ 63 := Nat.xor_lt_two_pow (by omega) (by omega)
  have h1 : (BitVec.ofInt 64 (a : Int)).toNat = a := by
    rw [BitVec.ofInt_natCast, BitVec.toNat_ofNat]; exact Nat.mod_eq_of_lt (by omega)
  have h2 : (BitVec.ofInt 64 (b : Int)).toNat = b := by
    rw [BitVec.ofInt_natCast, BitVec.toNat_ofNat]; exact Nat.mod_eq_of_lt (by omega)
  show IntKind.i64.wrap ((BitVec.ofInt 64 (a : Int) ^^^ BitVec.ofInt 64 (b : Int)).toNat : Int) = _
  rw [BitVec.toNat_xor, h1, h2, wrap_i64_in _ (by omega) (by omega)]

theorem spread_lt (x : Nat) (hx : x < 1099511627776) : spread 8 x < 1099511627776 := by
  obtain ⟨c0, c1, c2, c3, c4, h0, h1, h2, h3, h4, hs, hp⟩ := spread5 x hx
  omega

/-- The steps stay far below 2^64. -/
theorem oc_small (x : Nat) (hx : x < 1099511627776) : S1 8 x < 2199023255552 ∧ S2 8 (S1 8 x) < 8796093022208 := by
  have h1 : S1 8 x < 2199023255552 := by
    have a : x / 2 &&& rep 85 8 ≤ x / 2 := Nat.and_le_left
    have b : x &&& rep 85 8 ≤ x := Nat.and_le_left
    unfold S1; omega
  refine ⟨h1, ?_⟩
  have a : S1 8 x / 4 &&& rep 51 8 ≤ S1 8 x / 4 := Nat.and_le_left
  have b : S1 8 x &&& rep 51 8 ≤ S1 8 x := Nat.and_le_left
  unfold S2; omega

/-- math/bits.OnesCount64 at a number of forty bits. -/
theorem oc64 (x : Nat) (hx : x < 1099511627776) (w : World) :
    Calls Tryz.prog 116 #[.int .u64 x] w (RetS (.int .i64 (pop 40 x : Nat)) w) := by
  obtain ⟨b1, b2⟩ := oc_small x hx
  have b3 := spread_lt x hx
  obtain ⟨b6, e6⟩ := gather5 x hx _ rfl
  refine oc64_core x (S1 8 x) (S2 8 (S1 8 x)) (spread 8 x) (spread 8 x + spread 8 x / 256) (spread 8 x + spread 8 x / 256 + (spread 8 x + spread 8 x / 256) / 65536) (spread 8 x + spread 8 x / 256 + (spread 8 x + spread 8 x / 256) / 65536 + (spread 8 x + spread 8 x / 256 + (spread 8 x + spread 8 x / 256) / 65536) / 4294967296) (pop 40 x) w ?_ ?_ ?_ ?_ ?_ ?_ ?_ ?_
  · rw [show ((x : Int) / 2) = ((x / 2 : Nat) : Int) from by omega, show (6148914691236517205 : Int) = ((rep 85 8 : Nat) : Int) from by rw [rep85]; rfl]
    rw [and64_nat _ _ (by omega) (by rw [rep85]; omega), and64_nat _ _ (by omega) (by rw [rep85]; omega)]
    have e : S1 8 x = (x / 2 &&& rep 85 8) + (x &&& rep 85 8) := rfl
    rw [wrap_u64_in _ (by omega) (by omega)]; omega
  · generalize S1 8 x = y at *
    rw [show ((y : Int) / 4) = ((y / 4 : Nat) : Int) from by omega, show (3689348814741910323 : Int) = ((rep 51 8 : Nat) : Int) from by rw [rep51]; rfl]
    rw [and64_nat _ _ (by omega) (by rw [rep51]; omega), and64_nat _ _ (by omega) (by rw [rep51]; omega)]
    have e : S2 8 y = (y / 4 &&& rep 51 8) + (y &&& rep 51 8) := rfl
    rw [wrap_u64_in _ (by omega) (by omega)]; omega
  · rw [← S123]
    generalize S2 8 (S1 8 x) = y at *
    rw [wrap_u64_in _ (by omega) (by omega)]
    rw [show (y : Int) / 16 + (y : Int) = ((y / 16 + y : Nat) : Int) from by omega, show (1085102592571150095 : Int) = ((rep 15 8 : Nat) : Int) from by rw [rep15]; rfl]
    rw [and64_nat _ _ (by omega) (by rw [rep15]; omega)]
    rfl
  · rw [wrap_u64_in _ (by omega) (by omega)]; rfl
  · rw [wrap_u64_in _ (by omega) (by omega)]; rfl
  · rw [wrap_u64_in _ (by omega) (by omega)]; rfl
  · rw [show (127 : Int) = ((127 : Nat) : Int) from rfl, and_i64 _ _ b6 (by decide), show (127 : Nat) = 2 ^ 7 - 1 from rfl, Nat.and_two_pow_sub_one_eq_mod]
    rw [show (2 : Nat) ^ 7 = 128 from rfl, e6]
  · omega

set_option maxHeartbeats 400000 in
/-- math/bits.OnesCount at a number of forty bits. -/
theorem ones_any (x : Nat) (hx : x < 1099511627776) (w : World) :
    Calls Tryz.prog 101 #[.int .u64 x] w (RetS (.int .i64 (pop 40 x : Nat)) w) := by
  go_enter Tryz.func101, Tryz.ntmps101
  go_wp2_with fail
  refine (oc64 x hx _).mono ?_
  rintro e w' ⟨rfl, rfl⟩
  go_wp2
  go_ret
  exact ⟨rfl, rfl⟩

/-- The library's table lies in its variable. -/
def TabIn (w : World) : Prop := ∀ j, j < Lib.deBruijn64tab.length → w.cell? ⟨1, j, none⟩ = some (.int .u8 (Lib.deBruijn64tab.getD j 0))

theorem TabIn.below {w w' : World} (h : TabIn w) (hb : Below w.heap.size w w') : TabIn w' := by
  intro j hj
  have hc := h j hj
  have hlt : (1 : Nat) < w.heap.size := by
    unfold World.cell? at hc
    by_cases hl : 1 < w.heap.size
    · exact hl
    · have hn : w.heap[(1 : Nat)]? = none := Array.getElem?_eq_none (by omega)
      simp [hn] at hc
  exact (hb.cell (p := ⟨1, j, none⟩) hlt).trans hc

set_option maxHeartbeats 400000 in
theorem tz64_core (x idx k : Nat) (w : World) (hx0 : ((x : Int) == 0) = false)
    (key : IntKind.u64.wrap (bits BinOp.and IntKind.u64 (x : Int) (IntKind.u64.wrap (-(x : Int))) * 285870213051353865) / 288230376151711744 = (idx : Int))
    (hi : idx < 64) (hk : k < 64) (hcell : w.cell? ⟨1, idx, none⟩ = some (.int .u8 k)) :
    Calls Tryz.prog 118 #[.int .u64 x] w (RetS (.int .i64 k) w) := by
  go_enter Tryz.func118, Tryz.ntmps118
  go_wp2_with (simp only [key])
  go_ret
  exact ⟨rfl, rfl⟩

theorem tz64_keyed (x a : Nat) (hx : x < 18446744073709551616) (hx0 : x ≠ 0) (hlow : x &&& (18446744073709551616 - x) = a) :
    IntKind.u64.wrap (bits BinOp.and IntKind.u64 (x : Int) (IntKind.u64.wrap (-(x : Int))) * 285870213051353865) / 288230376151711744 = ((a * 285870213051353865 % 18446744073709551616 / 288230376151711744 : Nat) : Int) := by
  have e1 : IntKind.u64.wrap (-(x : Int)) = ((18446744073709551616 - x : Nat) : Int) := by rw [IntKind.wrap_u64]; omega
  rw [e1, bits_and_u64_nat x _ hx (by omega), hlow, IntKind.wrap_u64]
  omega

set_option maxHeartbeats 400000 in
/-- math/bits.TrailingZeros at any number but 0. -/
theorem tz_any (x : Nat) (hx : x < 18446744073709551616) (hx0 : x ≠ 0) (w : World) (hT : TabIn w) :
    Calls Tryz.prog 102 #[.int .u64 x] w (RetS (.int .i64 (Lib.ctz 64 x : Nat)) w) := by
  obtain ⟨hlow, hk⟩ := Lib.lowest_bit 64 x hx0 hx
  obtain ⟨hi, htab⟩ := Lib.deBruijn64_at _ hk
  have hcell := hT _ hi
  rw [htab] at hcell
  have hc := tz64_core x _ _ w (by simp; omega) (tz64_keyed x _ hx hx0 hlow) hi hk hcell
  clear hcell htab hlow
  go_enter Tryz.func102, Tryz.ntmps102
  go_wp2_with fail
  refine hc.mono ?_
  rintro e w' ⟨rfl, rfl⟩
  go_wp2
  go_ret
  exact ⟨rfl, rfl⟩

end Go.Proofs.YtlolaieolgmdnaaGreatDoor
