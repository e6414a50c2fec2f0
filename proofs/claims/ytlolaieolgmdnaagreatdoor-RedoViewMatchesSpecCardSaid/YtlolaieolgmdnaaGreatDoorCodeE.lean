/-
  The walks of Encode (both).
-/
import Derived.Test.YtlolaieolgmdnaaGreatDoorCodeD
namespace Go.Proofs.YtlolaieolgmdnaaGreatDoor
open Go.RowKit
set_option maxRecDepth 100000

/-- A line as a value. -/
def arrOf (l : W8) : Value := .agg #[.int .i64 l.a0, .int .i64 l.a1, .int .i64 l.a2, .int .i64 l.a3, .int .i64 l.a4, .int .i64 l.a5, .int .i64 l.a6, .int .i64 l.a7]
theorem arrOf_mk (a0 a1 a2 a3 a4 a5 a6 a7 : Int) : arrOf (⟨a0, a1, a2, a3, a4, a5, a6, a7⟩ : W8) = (.agg #[.int .i64 a0, .int .i64 a1, .int .i64 a2, .int .i64 a3, .int .i64 a4, .int .i64 a5, .int .i64 a6, .int .i64 a7]) := rfl

theorem xor512 (s : Nat) (h : s < 512) (b : Nat) (hb : b < 2) : (s ||| 512 * b) = s + 512 * b := by
  rcases (by omega : b = 0 ∨ b = 1) with rfl | rfl
  · simp
  · rw [show 512 * 1 = 2 ^ 9 * 1 from rfl, Nat.or_comm, ← Nat.two_pow_add_eq_or_of_lt (i := 9) h 1]; omega

set_option maxHeartbeats 400000 in
theorem encode_any (a0 a1 a2 a3 a4 a5 a6 a7 : Int) (w : World) (hT : TabIn w) :
    Calls Tryz.prog 85 #[(.agg #[.int .i64 a0, .int .i64 a1, .int .i64 a2, .int .i64 a3, .int .i64 a4, .int .i64 a5, .int .i64 a6, .int .i64 a7])] w (RetB (.int .i64 (enc (⟨a0, a1, a2, a3, a4, a5, a6, a7⟩ : W8))) w) := by
  have hval := fun W => valid_any a0 a1 a2 a3 a4 a5 a6 a7 0 W
  have hsum := fun W => sum_any a0 a1 a2 a3 a4 a5 a6 a7 W
  generalize hl : (⟨a0, a1, a2, a3, a4, a5, a6, a7⟩ : W8) = l at *
  clear hl
  have HT := Lib.hid hT
  have Hbox := Lib.hid (Box8.new w a0 a1 a2 a3 a4 a5 a6 a7)
  have Hsum := Lib.hid hsum
  clear hT hsum
  have hs512 := syn_lt l
  have hc320 := cnt_le l
  have hp := pop_le 40 (syn l)
  have HE : Hid (enc l = _) := Lib.hid (show enc l = if validB l 0 then ((syn l + 512 * ((cnt l + pop 40 (syn l)) % 2) : Nat) : Int) else -1 from rfl)
  have hor := or_i64 (syn l) 512 (by omega) (by decide)
  rw [show ((512 : Nat) : Int) = 512 from rfl] at hor
  have Hor := Lib.hid (xor512 (syn l) hs512 1 (by omega))
  go_enter Tryz.func85, Tryz.ntmps85
  go_wp2_with fail
  refine (hval _).mono ?_
  rintro e w1 ⟨rfl, hb1⟩
  have Hb1 := Lib.hid (Hbox.out.below hb1)
  have hbel1 := ((Below.refl w.heap.size w).alloc (Nat.le_refl _) _).trans (hb1.mono (by simp))
  clear hb1
  generalize hv : validB l 0 = v at *
  cases v with
  | false =>
    have Hv := Lib.hid hv
    clear hv
    go_wp2
    go_ret
    exact ⟨ret_int (by rw [HE.out, if_neg (by simp)]), hbel1⟩
  | true =>
    obtain ⟨c0, c1, c2, c3, c4, c5, c6, c7⟩ := Hb1.out.all
    have hblt := Hb1.out.lt
    go_wp2_with fail
    refine (Hsum.out _ trivial (HT.out.below hbel1)).mono ?_
    rintro e w2 ⟨rfl, hb2⟩
    have hbel2 := hbel1.trans (hb2.mono hbel1.size)
    clear hb2 c0 c1 c2 c3 c4 c5 c6 c7
    have Hv := Lib.hid hv
    clear hv
    have hones := fun W => ones_any (syn l) (by omega) W
    go_wp2_with fail
    refine (hones _).mono ?_
    rintro e w' ⟨rfl, rfl⟩
    go_wp2
    · go_ret
      rename_i h1
      exact ⟨ret_int (by
        rw [HE.out, if_pos trivial, show (512 : Nat) = 512 * 1 from rfl, Hor.out]
        rw [beq_iff_eq] at h1
        omega), hbel2⟩
    · go_ret
      rename_i h1
      exact ⟨ret_int (by
        rw [HE.out, if_pos trivial]
        rw [beq_eq_false_iff_ne] at h1
        omega), hbel2⟩

set_option maxHeartbeats 400000 in
theorem rencode_any (a0 a1 a2 a3 a4 a5 a6 a7 : Int) (w : World) :
    Calls Tryz.prog 111 #[(.agg #[.int .i64 a0, .int .i64 a1, .int .i64 a2, .int .i64 a3, .int .i64 a4, .int .i64 a5, .int .i64 a6, .int .i64 a7])] w (RetB (.int .i64 (enc (⟨a0, a1, a2, a3, a4, a5, a6, a7⟩ : W8))) w) := by
  have hval := fun W => rvalid_any a0 a1 a2 a3 a4 a5 a6 a7 0 W
  have hsyn := fun c W h => syndrome_any a0 a1 a2 a3 a4 a5 a6 a7 c W h
  generalize hl : (⟨a0, a1, a2, a3, a4, a5, a6, a7⟩ : W8) = l at *
  clear hl
  have Hbox := Lib.hid (Box8.new w a0 a1 a2 a3 a4 a5 a6 a7)
  have Hsyn := Lib.hid hsyn
  clear hsyn
  have hs512 := syn_lt l
  have hc320 := cnt_le l
  have hp := pop_le 40 (syn l)
  have HE : Hid (enc l = _) := Lib.hid (show enc l = if validB l 0 then ((syn l + 512 * ((cnt l + pop 40 (syn l)) % 2) : Nat) : Int) else -1 from rfl)
  go_enter Tryz.func111, Tryz.ntmps111
  go_wp2_with fail
  refine (hval _).mono ?_
  rintro e w1 ⟨rfl, hb1⟩
  have Hb1 := Lib.hid (Hbox.out.below hb1)
  have hbel1 := ((Below.refl w.heap.size w).alloc (Nat.le_refl _) _).trans (hb1.mono (by simp))
  clear hb1
  generalize hv : validB l 0 = v at *
  cases v with
  | false =>
    have Hv := Lib.hid hv
    clear hv
    go_wp2
    go_ret
    exact ⟨ret_int (by rw [HE.out, if_neg (by simp)]), hbel1⟩
  | true =>
    obtain ⟨c0, c1, c2, c3, c4, c5, c6, c7⟩ := Hb1.out.all
    have hblt := Hb1.out.lt
    have Hv := Lib.hid hv
    clear hv
    have hsy0 := fun W => Hsyn.out 0 W Hv.out
    have hvs : validB l (syn l : Nat) = true := validB_yes (validB_iff.1 Hv.out).1 (by omega) (by omega)
    have hsy1 := fun W => Hsyn.out (syn l : Nat) W hvs
    have Hvs := Lib.hid hvs
    clear hvs
    rw [show synR l 0 = syn l from by unfold synR synC; simp] at hsy0
    rw [show oddR l (syn l : Nat) = (cnt l + pop 40 (syn l)) % 2 from by unfold oddR; rw [Int.toNat_natCast]] at hsy1
    go_wp2_with fail
    refine (hsy0 _).mono ?_
    rintro e w2 ⟨rfl, hb2⟩
    have Hb2 := Lib.hid (Hb1.out.below hb2)
    have hbel2 := hbel1.trans (hb2.mono hbel1.size)
    clear hb2 c0 c1 c2 c3 c4 c5 c6 c7
    obtain ⟨c0, c1, c2, c3, c4, c5, c6, c7⟩ := Hb2.out.all
    have hblt := Hb2.out.lt
    go_wp2_with fail
    refine (hsy1 _).mono ?_
    rintro e w3 ⟨rfl, hb3⟩
    have hbel3 := hbel2.trans (hb3.mono hbel2.size)
    clear hb3 c0 c1 c2 c3 c4 c5 c6 c7
    go_wp2
    go_ret
    exact ⟨ret_int (by rw [HE.out, if_pos trivial]; omega), hbel3⟩

end Go.Proofs.YtlolaieolgmdnaaGreatDoor
