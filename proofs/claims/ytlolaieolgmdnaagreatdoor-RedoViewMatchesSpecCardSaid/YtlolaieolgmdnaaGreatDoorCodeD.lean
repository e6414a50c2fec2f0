/-
  The walk of the reference's Syndrome.
-/
import Derived.Test.YtlolaieolgmdnaaGreatDoorCodeC
namespace Go.Proofs.YtlolaieolgmdnaaGreatDoor
open Go.RowKit
set_option maxRecDepth 100000

/-- A block holds the cells of an array of eight. -/
def Box8 (W : World) (b : Nat) (a0 a1 a2 a3 a4 a5 a6 a7 : Int) : Prop := W.heap[b]? = some (.cells #[.int .i64 a0, .int .i64 a1, .int .i64 a2, .int .i64 a3, .int .i64 a4, .int .i64 a5, .int .i64 a6, .int .i64 a7] 80)

theorem Box8.new (W : World) (a0 a1 a2 a3 a4 a5 a6 a7 : Int) : Box8 (W.alloc (.cells #[.int .i64 a0, .int .i64 a1, .int .i64 a2, .int .i64 a3, .int .i64 a4, .int .i64 a5, .int .i64 a6, .int .i64 a7] 80)) W.heap.size a0 a1 a2 a3 a4 a5 a6 a7 := by
  unfold Box8; simp [World.alloc, -World.alloc_eq]

theorem Box8.lt {W : World} {b : Nat} {a0 a1 a2 a3 a4 a5 a6 a7 : Int} (h : Box8 W b a0 a1 a2 a3 a4 a5 a6 a7) : b < W.heap.size := by
  unfold Box8 at h
  by_cases hl : b < W.heap.size
  · exact hl
  · rw [Array.getElem?_eq_none (by omega)] at h; cases h

theorem Box8.below {W W' : World} {b : Nat} {a0 a1 a2 a3 a4 a5 a6 a7 : Int} (h : Box8 W b a0 a1 a2 a3 a4 a5 a6 a7) (hb : Below W.heap.size W W') : Box8 W' b a0 a1 a2 a3 a4 a5 a6 a7 :=
  (hb.block b h.lt).trans h

theorem Box8.cells {W : World} {b : Nat} {a0 a1 a2 a3 a4 a5 a6 a7 : Int} (h : Box8 W b a0 a1 a2 a3 a4 a5 a6 a7) (j : Nat) : W.cell? ⟨b, j, none⟩ = (#[.int .i64 a0, .int .i64 a1, .int .i64 a2, .int .i64 a3, .int .i64 a4, .int .i64 a5, .int .i64 a6, .int .i64 a7] : Array Value)[j]? := by
  unfold Box8 at h
  unfold World.cell?
  simp only [h]
  rfl

theorem Box8.cell {W : World} {b : Nat} {a0 a1 a2 a3 a4 a5 a6 a7 : Int} (h : Box8 W b a0 a1 a2 a3 a4 a5 a6 a7) (k : Nat) (hk : k < 8) : W.cell? ⟨b, k, none⟩ = some (.int .i64 ((⟨a0, a1, a2, a3, a4, a5, a6, a7⟩ : W8).get k)) := by
  rw [h.cells]
  rcases lt8 hk with rfl | rfl | rfl | rfl | rfl | rfl | rfl | rfl <;> rfl

theorem Box8.all {W : World} {b : Nat} {a0 a1 a2 a3 a4 a5 a6 a7 : Int} (h : Box8 W b a0 a1 a2 a3 a4 a5 a6 a7) : W.cell? ⟨b, 0, none⟩ = some (.int .i64 a0) ∧ W.cell? ⟨b, 1, none⟩ = some (.int .i64 a1) ∧ W.cell? ⟨b, 2, none⟩ = some (.int .i64 a2) ∧ W.cell? ⟨b, 3, none⟩ = some (.int .i64 a3) ∧
    W.cell? ⟨b, 4, none⟩ = some (.int .i64 a4) ∧ W.cell? ⟨b, 5, none⟩ = some (.int .i64 a5) ∧ W.cell? ⟨b, 6, none⟩ = some (.int .i64 a6) ∧ W.cell? ⟨b, 7, none⟩ = some (.int .i64 a7) :=
  ⟨h.cells 0, h.cells 1, h.cells 2, h.cells 3, h.cells 4, h.cells 5, h.cells 6, h.cells 7⟩

theorem vint {k : IntKind} {a b : Int} (h : a = b) : Value.int k a = .int k b := by rw [h]

/-- What the reference counts: code and data. -/
def synR (l : W8) (c : Int) : Nat := synC l c
def oddR (l : W8) (c : Int) : Nat := (cnt l + pop 40 c.toNat) % 2

set_option maxHeartbeats 1000000 in
theorem syndrome_any (a0 a1 a2 a3 a4 a5 a6 a7 c : Int) (w : World) (hv : validB (⟨a0, a1, a2, a3, a4, a5, a6, a7⟩ : W8) c = true) :
    Calls Tryz.prog 132 #[(.agg #[.int .i64 a0, .int .i64 a1, .int .i64 a2, .int .i64 a3, .int .i64 a4, .int .i64 a5, .int .i64 a6, .int .i64 a7]), .int .i64 c] w (RetB (.tuple #[.int .i64 (synR (⟨a0, a1, a2, a3, a4, a5, a6, a7⟩ : W8) c : Nat), .int .i64 (oddR (⟨a0, a1, a2, a3, a4, a5, a6, a7⟩ : W8) c : Nat)]) w) := by
  have hone := fun k j hk hj W => one_word a0 a1 a2 a3 a4 a5 a6 a7 c k j hk hj W hv
  have hcode := fun j hj W => one_code a0 a1 a2 a3 a4 a5 a6 a7 c j hj W hv
  have hbox := Box8.new w a0 a1 a2 a3 a4 a5 a6 a7
  have Hcell : Hid (∀ (W : World), Box8 W w.heap.size a0 a1 a2 a3 a4 a5 a6 a7 → ∀ k, k < 8 → W.cell? ⟨w.heap.size, k, none⟩ = some (.int .i64 ((⟨a0, a1, a2, a3, a4, a5, a6, a7⟩ : W8).get k))) := fun W h k hk => h.cell k hk
  generalize hl : (⟨a0, a1, a2, a3, a4, a5, a6, a7⟩ : W8) = l at *
  clear hl
  have Hv := Lib.hid hv
  have Hone := Lib.hid hone
  have Hcode := Lib.hid hcode
  have Hbox := Lib.hid hbox
  clear hv hone hcode hbox
  go_enter Tryz.func132, Tryz.ntmps132
  go_wp2
  go_loopw [6, 7, 8] (fun s n i wr => ∃ k : Nat, k ≤ 8 ∧ i = .int .i64 k ∧ s = .int .i64 (xs (lb l) posn (40 * k) : Nat) ∧ n = .int .i64 (cn (lb l) (40 * k) : Nat) ∧ Hid (Box8 wr w.heap.size a0 a1 a2 a3 a4 a5 a6 a7) ∧ Below w.heap.size w wr) (fun _ _ i _ => 8 - (intOf i).toNat)
  case atStart => exact ⟨0, by omega, rfl, rfl, rfl, Hbox, (Below.refl _ _).alloc (Nat.le_refl _) _⟩
  case round =>
    obtain ⟨k, hk, rfl, rfl, rfl, Hb, hbel⟩ := hrel
    by_cases hlt : k < 8
    · obtain ⟨wo, rfl⟩ : ∃ wo : World, wo = wr := ⟨_, rfl⟩
      have hk8 : decide ((k : Int) < 8) = true := by simp; omega
      go_wp2
      have Hle := Lib.hid (wd_lt Hv.out k hlt)
      go_loopw [6, 7, 9] (fun s n i wr => ∃ j : Nat, j ≤ 40 ∧ i = .int .i64 j ∧ s = .int .i64 (xs (lb l) posn (40 * k + j) : Nat) ∧ n = .int .i64 (cn (lb l) (40 * k + j) : Nat) ∧ Hid (Box8 wr w.heap.size a0 a1 a2 a3 a4 a5 a6 a7) ∧ Below w.heap.size w wr) (fun _ _ i _ => 40 - (intOf i).toNat)
      case atStart => exact ⟨0, by omega, rfl, rfl, rfl, Hb, hbel⟩
      case round =>
        obtain ⟨j, hj, rfl, rfl, rfl, Hb2, hbel2⟩ := hrel
        obtain ⟨x, hx⟩ : ∃ x, x = wd l k := ⟨_, rfl⟩
        obtain ⟨q, hq⟩ : ∃ q, q = x / 2 ^ j := ⟨_, rfl⟩
        have hcell := Hcell.out wr Hb2.out k hlt
        have hx40 : x < 1099511627776 := by rw [hx]; exact Hle.out.1
        rw [← Hle.out.2, ← hx] at hcell
        have hqi : (x : Int) / 2 ^ j = (q : Int) := by rw [hq]; simp
        have hs512 := syn_part_lt l (40 * k + j) (by omega)
        have hn320 := cn_le (lb l) (40 * k + j)
        have Hx := Lib.hid hx
        have Hq := Lib.hid hq
        clear hx hq
        by_cases hq0 : q = 0
        · have hz : ∀ i, j ≤ i → i < 40 → (wd l k).testBit i = false := fun i hi _ => by
            rw [← Hx.out]
            apply Nat.testBit_lt_two_pow
            have h1 : x < 2 ^ j := by
              have := Hq.out
              rw [hq0] at this
              exact (Nat.div_eq_zero_iff_lt (Nat.two_pow_pos j)).1 this.symm
            exact Nat.lt_of_lt_of_le h1 (Nat.pow_le_pow_right (by decide) hi)
          have Hrest := Lib.hid (syn_rest l k j hj hz)
          clear hz
          subst hq0
          go_wp2
          go_roundw
          case rel => exact ⟨k + 1, by omega, by go_num, by rw [Hrest.out.1], by rw [Hrest.out.2], Hb2, hbel2⟩
          case measure => simp [intOf]; omega
        · have hj40 : j < 40 := by
            apply Nat.lt_of_not_le
            intro hle
            apply hq0
            rw [Hq.out]
            apply Nat.div_eq_of_lt
            exact Nat.lt_of_lt_of_le hx40 (by simpa using Nat.pow_le_pow_right (n := 2) (by decide) hle)
          obtain ⟨c0, c1, c2, c3, c4, c5, c6, c7⟩ := Hb2.out.all
          have hblt := Hb2.out.lt
          have hq1 : 0 < q := by omega
          have hsx : xs (lb l) posn (40 * k + (j + 1)) = xs (lb l) posn (40 * k + j) ^^^ (if lb l (40 * k + j) then posn (40 * k + j) else 0) := rfl
          have hsn : cn (lb l) (40 * k + (j + 1)) = cn (lb l) (40 * k + j) + (if lb l (40 * k + j) then 1 else 0) := rfl
          rw [lb_at l k j hj40] at hsx hsn
          go_wp2_with fail
          refine (Hone.out k j hlt hj40 _).mono ?_
          rintro e w1 ⟨rfl, hb1⟩
          have Hb3 := Lib.hid (Hb2.out.below hb1)
          have hbel3 := hbel2.trans (hb1.mono hbel2.size)
          clear hb1 c0 c1 c2 c3 c4 c5 c6 c7
          generalize (wd l k).testBit j = bt at *
          cases bt with
          | false =>
            have Hsx : Hid (_ = _) := hsx
            have Hsn : Hid (_ = _) := hsn
            clear hsx hsn
            go_wp2
            go_roundw
            case rel => exact ⟨j + 1, by omega, by go_num, by rw [Hsx.out]; simp, by rw [Hsn.out]; simp, Hb3, hbel3⟩
            case measure => simp [intOf]; omega
          | true =>
            have hpl := fun W => place_any (40 * k + j) W (by omega)
            have hxor := xor_i64 (xs (lb l) posn (40 * k + j)) (posn (40 * k + j)) (by omega) (by have := posn_lt (40 * k + j) (by omega); omega)
            have Hsx : Hid (_ = _) := hsx
            have Hsn : Hid (_ = _) := hsn
            clear hsx hsn
            go_wp2_with fail
            rw [show (40 : Int) * (k : Int) + (j : Int) = ((40 * k + j : Nat) : Int) from by omega]
            refine (hpl _).mono ?_
            rintro e w' ⟨rfl, rfl⟩
            go_wp2
            go_roundw
            case rel => exact ⟨j + 1, by omega, by go_num, by rw [Hsx.out, if_pos trivial], by rw [Hsn.out, if_pos trivial]; go_num, Hb3, hbel3⟩
            case measure => simp [intOf]; omega
    · obtain rfl : k = 8 := by omega
      obtain ⟨wo, rfl⟩ : ∃ wo : World, wo = wr := ⟨_, rfl⟩
      have hs512 := syn_lt l
      have hn320 := cnt_le l
      have hcb := (validB_iff.1 Hv.out).2
      have hk8 : decide (((8 : Nat) : Int) < 8) = false := by decide
      rw [show xs (lb l) posn (40 * 8) = syn l from rfl, show cn (lb l) (40 * 8) = cnt l from rfl]
      rw [show ((8 : Nat) : Int) = (8 : Int) from rfl]
      clear hk8
      go_wp2
      go_loopw [6, 7, 11] (fun s n i wr => ∃ j : Nat, j ≤ 10 ∧ i = .int .i64 j ∧ s = .int .i64 (syn l ^^^ cs c.toNat j : Nat) ∧ n = .int .i64 (cnt l + pop j c.toNat : Nat) ∧ Hid (Box8 wr w.heap.size a0 a1 a2 a3 a4 a5 a6 a7) ∧ Below w.heap.size w wr) (fun _ _ i _ => 10 - (intOf i).toNat)
      case atStart => exact ⟨0, by omega, rfl, by rw [cs_zero]; simp, by simp [pop, cn], Hb, hbel⟩
      case round =>
        obtain ⟨j, hj, rfl, rfl, rfl, Hb2, hbel2⟩ := hrel
        by_cases hj10 : j < 10
        · obtain ⟨c0, c1, c2, c3, c4, c5, c6, c7⟩ := Hb2.out.all
          have hblt := Hb2.out.lt
          have hcs := cs_lt c.toNat j
          have hpl := pop_le j c.toNat
          obtain ⟨p, hp⟩ : ∃ p, p = 2 ^ j := ⟨_, rfl⟩
          have hp9 : p ≤ 512 := by
            have h2 : 2 ^ j ≤ 2 ^ 9 := Nat.pow_le_pow_right (by decide) (by omega)
            omega
          have hw : wrap64 (2 ^ j) = (p : Int) := by
            have e : (2 : Int) ^ j = (p : Int) := by rw [hp]; simp
            rw [e, IntWalk.wrap64_in _ (by omega)]
          have hxor := xor_i64 (syn l ^^^ cs c.toNat j) p (lt63 (Nat.le_of_lt (xor_lt512 hs512 hcs))) (lt63 hp9)
          rw [Nat.xor_assoc] at hxor
          have Hst := Lib.hid (cs_step c.toNat j)
          have Hps := Lib.hid (pop_succ j c.toNat)
          have Hp := Lib.hid hp
          clear hp
          have h10 : decide ((j : Int) < 10) = true := by simp; omega
          go_wp2_with fail
          refine (Hcode.out j hj10 _).mono ?_
          rintro e w1 ⟨rfl, hb1⟩
          have Hb3 := Lib.hid (Hb2.out.below hb1)
          have hbel3 := hbel2.trans (hb1.mono hbel2.size)
          clear hb1 c0 c1 c2 c3 c4 c5 c6 c7
          generalize c.toNat.testBit j = bt at *
          cases bt with
          | false =>
            go_wp2
            go_roundw
            case rel => exact ⟨j + 1, by omega, by go_num, by
                by_cases h : j < 9
                · rw [Hst.out h]; simp
                · obtain rfl : j = 9 := by omega
                  rw [cs_last], by rw [Hps.out]; simp, Hb3, hbel3⟩
            case measure => simp [intOf]; omega
          | true =>
            by_cases h9 : j < 9
            · go_wp2
              go_roundw
              case rel => exact ⟨j + 1, by omega, by go_num, by rw [Hst.out h9, if_pos trivial, ← Hp.out], by rw [Hps.out, if_pos trivial]; exact vint (by omega), Hb3, hbel3⟩
              case measure => simp [intOf]; omega
            · obtain rfl : j = 9 := by omega
              go_wp2
              go_roundw
              case rel => exact ⟨9 + 1, by omega, by go_num, by rw [cs_last], by rw [Hps.out, if_pos trivial]; exact vint (by omega), Hb3, hbel3⟩
              case measure => simp [intOf]
        · obtain rfl : j = 10 := by omega
          have h10 : decide (((10 : Nat) : Int) < 10) = false := by decide
          have hps := pop_code c.toNat (by omega)
          have hpl := pop_le 10 c.toNat
          have Hps := Lib.hid hps
          clear hps
          go_wp2
          go_ret2
          exact ⟨by
            unfold synR oddR synC
            rw [Hps.out, ← cs_ten]; simp, hbel2⟩

end Go.Proofs.YtlolaieolgmdnaaGreatDoor
