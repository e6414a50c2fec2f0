/-
  The walks of Check, on its ways without the search for a position.
-/
import Derived.Test.YtlolaieolgmdnaaGreatDoorCodeH
import Derived.RangeFuncNested
import Derived.RangeFuncBound
import Derived.RangeFuncCalls
import Derived.RangeFuncLeaves
import Derived.RangeFuncBox
import Derived.Shelf.Abstract
import Derived.Shelf.RegionOpen
import Derived.OwnWalkIn
import Derived.TacticsInMore
import Derived.LoopNIn
import Derived.LoopIn
namespace Go.Proofs.YtlolaieolgmdnaaGreatDoor
open Go.RowKit
set_option maxRecDepth 100000

theorem boxed_under {W W' : World} {B : Nat} {t : TypeId} {v : Value} (h : Boxed W B t v) (hb : Below W.heap.size W W') : Boxed W' B t v := (hb.block B h.lt).trans h
theorem boxed_setOther {W : World} {B c : Nat} {t : TypeId} {v : Value} (h : Boxed W B t v) (hc : c ≠ B) (o : Nat) (u : Value) : Boxed (W.setCell ⟨c, o, none⟩ u) B t v := by
  unfold Boxed at h ⊢
  rw [Below.heap_setCell _ _ _ _ (by simpa using fun e => hc e.symm)]; exact h

theorem valid_l (l : W8) (c : Int) (w : World) : Calls Tryz.prog 99 #[(.agg #[.int .i64 l.a0, .int .i64 l.a1, .int .i64 l.a2, .int .i64 l.a3, .int .i64 l.a4, .int .i64 l.a5, .int .i64 l.a6, .int .i64 l.a7]), .int .i64 c] w (RetB (.bool (validB l c)) w) := valid_any l.a0 l.a1 l.a2 l.a3 l.a4 l.a5 l.a6 l.a7 c w
theorem sum_l (l : W8) (w : World) (hv : validB l 0 = true) (hT : TabIn w) : Calls Tryz.prog 100 #[(.agg #[.int .i64 l.a0, .int .i64 l.a1, .int .i64 l.a2, .int .i64 l.a3, .int .i64 l.a4, .int .i64 l.a5, .int .i64 l.a6, .int .i64 l.a7])] w (RetB (.tuple #[.int .i64 (syn l : Nat), .int .i64 (cnt l : Nat)]) w) := sum_any l.a0 l.a1 l.a2 l.a3 l.a4 l.a5 l.a6 l.a7 w hv hT

/-- Check's own variables: the line, the three results. -/
structure Chk (W : World) (n : Nat) (l : W8) (x y z : Int) : Prop where
  box : BoxL W n l
  r4 : Boxed W (n + 1) 3 (.int .i64 x)
  r5 : Boxed W (n + 1 + 1) 3 (.int .i64 y)
  r6 : Boxed W (n + 1 + 1 + 1) 3 (.int .i64 z)
theorem Chk.under {W W' : World} {n : Nat} {l : W8} {x y z : Int} (h : Chk W n l x y z) (hb : Below W.heap.size W W') : Chk W' n l x y z :=
  ⟨h.box.below hb, boxed_under h.r4 hb, boxed_under h.r5 hb, boxed_under h.r6 hb⟩
theorem Chk.new (w : World) (l : W8) : Chk ((((w.alloc (.cells #[.int .i64 l.a0, .int .i64 l.a1, .int .i64 l.a2, .int .i64 l.a3, .int .i64 l.a4, .int .i64 l.a5, .int .i64 l.a6, .int .i64 l.a7] 80)).alloc (.cells #[.int .i64 0] 3)).alloc (.cells #[.int .i64 0] 3)).alloc (.cells #[.int .i64 0] 3)) w.heap.size l 0 0 0 := by
  refine ⟨(((BoxL.new w l.a0 l.a1 l.a2 l.a3 l.a4 l.a5 l.a6 l.a7).alloc _).alloc _).alloc _, ?_, ?_, ?_⟩
  · have := ((Boxed.new (w.alloc (.cells #[.int .i64 l.a0, .int .i64 l.a1, .int .i64 l.a2, .int .i64 l.a3, .int .i64 l.a4, .int .i64 l.a5, .int .i64 l.a6, .int .i64 l.a7] 80)) 3 (.int .i64 0)).alloc (.cells #[.int .i64 0] 3)).alloc (.cells #[.int .i64 0] 3)
    simpa using this
  · have := (Boxed.new ((w.alloc (.cells #[.int .i64 l.a0, .int .i64 l.a1, .int .i64 l.a2, .int .i64 l.a3, .int .i64 l.a4, .int .i64 l.a5, .int .i64 l.a6, .int .i64 l.a7] 80)).alloc (.cells #[.int .i64 0] 3)) 3 (.int .i64 0)).alloc (.cells #[.int .i64 0] 3)
    simpa using this
  · have := Boxed.new (((w.alloc (.cells #[.int .i64 l.a0, .int .i64 l.a1, .int .i64 l.a2, .int .i64 l.a3, .int .i64 l.a4, .int .i64 l.a5, .int .i64 l.a6, .int .i64 l.a7] 80)).alloc (.cells #[.int .i64 0] 3)).alloc (.cells #[.int .i64 0] 3)) 3 (.int .i64 0)
    simpa using this

theorem Chk.bel (w : World) (l : W8) : Below w.heap.size w ((((w.alloc (.cells #[.int .i64 l.a0, .int .i64 l.a1, .int .i64 l.a2, .int .i64 l.a3, .int .i64 l.a4, .int .i64 l.a5, .int .i64 l.a6, .int .i64 l.a7] 80)).alloc (.cells #[.int .i64 0] 3)).alloc (.cells #[.int .i64 0] 3)).alloc (.cells #[.int .i64 0] 3)) :=
  ((((Below.refl _ _).alloc (Nat.le_refl _) _).alloc (by simp) _).alloc (by simp; omega) _).alloc (by simp; omega) _
theorem code_and (n : Nat) (hn : n < 1024) : bits .and .i64 (n : Int) 511 = (n : Int) % 512 := by
  have h := and_i64 n 511 (by omega) (by decide)
  rw [show n &&& 511 = n % 512 from Nat.and_two_pow_sub_one_eq_mod n 9, show ((511 : Nat) : Int) = 511 from rfl] at h
  rw [h]; omega
theorem synC_xor (l : W8) (n : Nat) : bits .xor .i64 ((syn l : Nat) : Int) ((n : Int) % 512) = ((synC l n : Nat) : Int) := by
  have hs := syn_lt l
  have h := xor_i64 (syn l) (n % 512) (by omega) (by omega)
  rw [show syn l ^^^ n % 512 = synC l n from by unfold synC; rw [Int.toNat_natCast], show (((n % 512 : Nat)) : Int) = (n : Int) % 512 from by omega] at h
  exact h
theorem synC_lt (l : W8) (n : Nat) : synC l n < 512 := by
  unfold synC; exact xor_lt512 (syn_lt l) (by rw [Int.toNat_natCast]; omega)
theorem oddC_is (l : W8) (n : Nat) : ((((cnt l : Nat) : Int) + ((pop 40 n : Nat) : Int)) % 2 == 1) = oddC l n := by
  unfold oddC
  rw [Int.toNat_natCast, Bool.eq_iff_iff, beq_iff_eq, beq_iff_eq]
  omega

set_option maxHeartbeats 1000000 in
/-- Check at a line that is not valid. -/
theorem check_no (l : W8) (c : Int) (w : World) (hv : validB l c = false) :
    Calls Tryz.prog 77 #[(.agg #[.int .i64 l.a0, .int .i64 l.a1, .int .i64 l.a2, .int .i64 l.a3, .int .i64 l.a4, .int .i64 l.a5, .int .i64 l.a6, .int .i64 l.a7]), .int .i64 c] w (RetB (.tuple #[.int .i64 2, .int .i64 0, .int .i64 0]) w) := by
  have hval := fun W => valid_l l c W
  have Hn := Lib.hid (Chk.new w l)
  have hbel : Below w.heap.size w ((((w.alloc (.cells #[.int .i64 l.a0, .int .i64 l.a1, .int .i64 l.a2, .int .i64 l.a3, .int .i64 l.a4, .int .i64 l.a5, .int .i64 l.a6, .int .i64 l.a7] 80)).alloc (.cells #[.int .i64 0] 3)).alloc (.cells #[.int .i64 0] 3)).alloc (.cells #[.int .i64 0] 3)) :=
    ((((Below.refl _ _).alloc (Nat.le_refl _) _).alloc (by simp) _).alloc (by simp; omega) _).alloc (by simp; omega) _
  rw [hv] at hval
  clear hv
  go_enter Tryz.func77, Tryz.ntmps77
  go_wp2_with fail
  generalize (((w.alloc (.cells #[.int .i64 l.a0, .int .i64 l.a1, .int .i64 l.a2, .int .i64 l.a3, .int .i64 l.a4, .int .i64 l.a5, .int .i64 l.a6, .int .i64 l.a7] 80)).alloc (.cells #[.int .i64 0] 3)).alloc (.cells #[.int .i64 0] 3)).alloc (.cells #[.int .i64 0] 3) = W at *
  refine (hval _).mono ?_
  rintro e w1 ⟨rfl, hb1⟩
  have H1 := Lib.hid (Hn.out.under hb1)
  have hbel1 := hbel.trans (hb1.mono hbel.size)
  clear hb1
  have c4 := H1.out.r4.cell
  have c5 := H1.out.r5.cell
  have c6 := H1.out.r6.cell
  have f4 := H1.out.r4.frozen
  have f5 := H1.out.r5.frozen
  have f6 := H1.out.r6.frozen
  go_wp2
  exact bodyPost_ret (v := .tuple #[.int .i64 2, .int .i64 0, .int .i64 0]) (by simp [results, Tryz.results77, go_sem, c4, c5, c6]) rfl ⟨rfl, ((hbel1.setCell (Nat.le_succ _) _).setCell (by simp; omega) _).setCell (by simp; omega) _⟩




set_option maxHeartbeats 2000000 in
/-- Check at a valid line: even0. -/
theorem check_even0 (l : W8) (n : Nat) (w : World) (hv : validB l n = true) (hT : TabIn w) (ho : oddC l n = false) (h0 : synC l n = 0) :
    Calls Tryz.prog 77 #[(.agg #[.int .i64 l.a0, .int .i64 l.a1, .int .i64 l.a2, .int .i64 l.a3, .int .i64 l.a4, .int .i64 l.a5, .int .i64 l.a6, .int .i64 l.a7]), .int .i64 n] w (RetB (.tuple #[.int .i64 0, .int .i64 0, .int .i64 0]) w) := by
  have hn : n < 1024 := by have := (validB_iff.1 hv).2; omega
  have hval := fun W => valid_l l n W
  have hv0 : validB l 0 = true := validB_yes (validB_iff.1 hv).1 (by omega) (by omega)
  have hsum := fun W hT => sum_l l W hv0 hT
  have Hn := Lib.hid (Chk.new w l)
  have hbel := Chk.bel w l
  rw [hv] at hval
  clear hv hv0
  have hones := fun W => ones_any n (by omega) W
  have hs512 := syn_lt l
  have hc320 := cnt_le l
  have hp := pop_le 40 n
  have hand := code_and n hn
  have hxor := synC_xor l n
  have hx512 := synC_lt l n
  have hodd := oddC_is l n
  rw [ho] at hodd
  clear ho
  have HT := Lib.hid hT
  have Hsum := Lib.hid hsum
  clear hT hsum
  generalize synC l n = s at *
  subst h0
  go_enter Tryz.func77, Tryz.ntmps77
  go_wp2_with fail
  generalize (((w.alloc (.cells #[.int .i64 l.a0, .int .i64 l.a1, .int .i64 l.a2, .int .i64 l.a3, .int .i64 l.a4, .int .i64 l.a5, .int .i64 l.a6, .int .i64 l.a7] 80)).alloc (.cells #[.int .i64 0] 3)).alloc (.cells #[.int .i64 0] 3)).alloc (.cells #[.int .i64 0] 3) = W at *
  refine (hval _).mono ?_
  rintro e w1 ⟨rfl, hb1⟩
  have H1 := Lib.hid (Hn.out.under hb1)
  have hbel1 := hbel.trans (hb1.mono hbel.size)
  clear hb1
  obtain ⟨c0, c1, c2, c3, c4, c5, c6, c7⟩ := H1.out.box.all
  have hblt := H1.out.box.lt
  go_wp2_with fail
  refine (Hsum.out _ (HT.out.below hbel1)).mono ?_
  rintro e w2 ⟨rfl, hb2⟩
  have H2 := Lib.hid (H1.out.under hb2)
  have hbel2 := hbel1.trans (hb2.mono hbel1.size)
  clear hb2 c0 c1 c2 c3 c4 c5 c6 c7 hblt
  have c4 := H2.out.r4.cell
  have c5 := H2.out.r5.cell
  have c6 := H2.out.r6.cell
  have f4 := H2.out.r4.frozen
  have f5 := H2.out.r5.frozen
  have f6 := H2.out.r6.frozen
  have l4 := H2.out.r4.lt
  have l5 := H2.out.r5.lt
  have l6 := H2.out.r6.lt
  go_wp2_with fail
  refine (hones _).mono ?_
  rintro e w' ⟨rfl, rfl⟩
  go_wp2
  exact bodyPost_ret (v := .tuple #[.int .i64 0, .int .i64 0, .int .i64 0]) (by simp [results, Tryz.results77, go_sem, c4, c5, c6, l4, l5, l6]) rfl ⟨rfl, ((((hbel2.setCell (Nat.le_succ _) _).setCell (by simp; omega) _).setCell (by simp; omega) _).alloc (by simp; exact hbel2.size) _)⟩


set_option maxHeartbeats 2000000 in
/-- Check at a valid line: evenN. -/
theorem check_evenN (l : W8) (n : Nat) (w : World) (hv : validB l n = true) (hT : TabIn w) (ho : oddC l n = false) (h0 : synC l n ≠ 0) :
    Calls Tryz.prog 77 #[(.agg #[.int .i64 l.a0, .int .i64 l.a1, .int .i64 l.a2, .int .i64 l.a3, .int .i64 l.a4, .int .i64 l.a5, .int .i64 l.a6, .int .i64 l.a7]), .int .i64 n] w (RetB (.tuple #[.int .i64 2, .int .i64 0, .int .i64 0]) w) := by
  have hn : n < 1024 := by have := (validB_iff.1 hv).2; omega
  have hval := fun W => valid_l l n W
  have hv0 : validB l 0 = true := validB_yes (validB_iff.1 hv).1 (by omega) (by omega)
  have hsum := fun W hT => sum_l l W hv0 hT
  have Hn := Lib.hid (Chk.new w l)
  have hbel := Chk.bel w l
  rw [hv] at hval
  clear hv hv0
  have hones := fun W => ones_any n (by omega) W
  have hs512 := syn_lt l
  have hc320 := cnt_le l
  have hp := pop_le 40 n
  have hand := code_and n hn
  have hxor := synC_xor l n
  have hx512 := synC_lt l n
  have hodd := oddC_is l n
  rw [ho] at hodd
  clear ho
  have HT := Lib.hid hT
  have Hsum := Lib.hid hsum
  clear hT hsum
  generalize synC l n = s at *
  have hs0 : ((s : Int) == 0) = false := by rw [beq_eq_false_iff_ne]; omega
  go_enter Tryz.func77, Tryz.ntmps77
  go_wp2_with fail
  generalize (((w.alloc (.cells #[.int .i64 l.a0, .int .i64 l.a1, .int .i64 l.a2, .int .i64 l.a3, .int .i64 l.a4, .int .i64 l.a5, .int .i64 l.a6, .int .i64 l.a7] 80)).alloc (.cells #[.int .i64 0] 3)).alloc (.cells #[.int .i64 0] 3)).alloc (.cells #[.int .i64 0] 3) = W at *
  refine (hval _).mono ?_
  rintro e w1 ⟨rfl, hb1⟩
  have H1 := Lib.hid (Hn.out.under hb1)
  have hbel1 := hbel.trans (hb1.mono hbel.size)
  clear hb1
  obtain ⟨c0, c1, c2, c3, c4, c5, c6, c7⟩ := H1.out.box.all
  have hblt := H1.out.box.lt
  go_wp2_with fail
  refine (Hsum.out _ (HT.out.below hbel1)).mono ?_
  rintro e w2 ⟨rfl, hb2⟩
  have H2 := Lib.hid (H1.out.under hb2)
  have hbel2 := hbel1.trans (hb2.mono hbel1.size)
  clear hb2 c0 c1 c2 c3 c4 c5 c6 c7 hblt
  have c4 := H2.out.r4.cell
  have c5 := H2.out.r5.cell
  have c6 := H2.out.r6.cell
  have f4 := H2.out.r4.frozen
  have f5 := H2.out.r5.frozen
  have f6 := H2.out.r6.frozen
  have l4 := H2.out.r4.lt
  have l5 := H2.out.r5.lt
  have l6 := H2.out.r6.lt
  go_wp2_with fail
  refine (hones _).mono ?_
  rintro e w' ⟨rfl, rfl⟩
  go_wp2
  exact bodyPost_ret (v := .tuple #[.int .i64 2, .int .i64 0, .int .i64 0]) (by simp [results, Tryz.results77, go_sem, c4, c5, c6, l4, l5, l6]) rfl ⟨rfl, ((((hbel2.setCell (Nat.le_succ _) _).setCell (by simp; omega) _).setCell (by simp; omega) _).alloc (by simp; exact hbel2.size) _)⟩


set_option maxHeartbeats 2000000 in
/-- Check at a valid line: odd0. -/
theorem check_odd0 (l : W8) (n : Nat) (w : World) (hv : validB l n = true) (hT : TabIn w) (ho : oddC l n = true) (h0 : synC l n = 0) :
    Calls Tryz.prog 77 #[(.agg #[.int .i64 l.a0, .int .i64 l.a1, .int .i64 l.a2, .int .i64 l.a3, .int .i64 l.a4, .int .i64 l.a5, .int .i64 l.a6, .int .i64 l.a7]), .int .i64 n] w (RetB (.tuple #[.int .i64 1, .int .i64 8, .int .i64 9]) w) := by
  have hn : n < 1024 := by have := (validB_iff.1 hv).2; omega
  have hval := fun W => valid_l l n W
  have hv0 : validB l 0 = true := validB_yes (validB_iff.1 hv).1 (by omega) (by omega)
  have hsum := fun W hT => sum_l l W hv0 hT
  have Hn := Lib.hid (Chk.new w l)
  have hbel := Chk.bel w l
  rw [hv] at hval
  clear hv hv0
  have hones := fun W => ones_any n (by omega) W
  have hs512 := syn_lt l
  have hc320 := cnt_le l
  have hp := pop_le 40 n
  have hand := code_and n hn
  have hxor := synC_xor l n
  have hx512 := synC_lt l n
  have hodd := oddC_is l n
  rw [ho] at hodd
  clear ho
  have HT := Lib.hid hT
  have Hsum := Lib.hid hsum
  clear hT hsum
  generalize synC l n = s at *
  subst h0
  go_enter Tryz.func77, Tryz.ntmps77
  go_wp2_with fail
  generalize (((w.alloc (.cells #[.int .i64 l.a0, .int .i64 l.a1, .int .i64 l.a2, .int .i64 l.a3, .int .i64 l.a4, .int .i64 l.a5, .int .i64 l.a6, .int .i64 l.a7] 80)).alloc (.cells #[.int .i64 0] 3)).alloc (.cells #[.int .i64 0] 3)).alloc (.cells #[.int .i64 0] 3) = W at *
  refine (hval _).mono ?_
  rintro e w1 ⟨rfl, hb1⟩
  have H1 := Lib.hid (Hn.out.under hb1)
  have hbel1 := hbel.trans (hb1.mono hbel.size)
  clear hb1
  obtain ⟨c0, c1, c2, c3, c4, c5, c6, c7⟩ := H1.out.box.all
  have hblt := H1.out.box.lt
  go_wp2_with fail
  refine (Hsum.out _ (HT.out.below hbel1)).mono ?_
  rintro e w2 ⟨rfl, hb2⟩
  have H2 := Lib.hid (H1.out.under hb2)
  have hbel2 := hbel1.trans (hb2.mono hbel1.size)
  clear hb2 c0 c1 c2 c3 c4 c5 c6 c7 hblt
  have c4 := H2.out.r4.cell
  have c5 := H2.out.r5.cell
  have c6 := H2.out.r6.cell
  have f4 := H2.out.r4.frozen
  have f5 := H2.out.r5.frozen
  have f6 := H2.out.r6.frozen
  have l4 := H2.out.r4.lt
  have l5 := H2.out.r5.lt
  have l6 := H2.out.r6.lt
  go_wp2_with fail
  refine (hones _).mono ?_
  rintro e w' ⟨rfl, rfl⟩
  go_wp2
  exact bodyPost_ret (v := .tuple #[.int .i64 1, .int .i64 8, .int .i64 9]) (by simp [results, Tryz.results77, go_sem, c4, c5, c6, l4, l5, l6]) rfl ⟨rfl, ((((hbel2.setCell (Nat.le_succ _) _).setCell (by simp; omega) _).setCell (by simp; omega) _).alloc (by simp; exact hbel2.size) _)⟩


set_option maxHeartbeats 2000000 in
/-- Check at a valid line: oddp. -/
theorem check_oddp (l : W8) (n : Nat) (w : World) (hv : validB l n = true) (hT : TabIn w) (ho : oddC l n = true) (h0 : synC l n ≠ 0) (hpw : synC l n &&& (synC l n - 1) = 0) :
    Calls Tryz.prog 77 #[(.agg #[.int .i64 l.a0, .int .i64 l.a1, .int .i64 l.a2, .int .i64 l.a3, .int .i64 l.a4, .int .i64 l.a5, .int .i64 l.a6, .int .i64 l.a7]), .int .i64 n] w (RetB (.tuple #[.int .i64 1, .int .i64 8, .int .i64 (Lib.ctz 64 (synC l n) : Nat)]) w) := by
  have hn : n < 1024 := by have := (validB_iff.1 hv).2; omega
  have hval := fun W => valid_l l n W
  have hv0 : validB l 0 = true := validB_yes (validB_iff.1 hv).1 (by omega) (by omega)
  have hsum := fun W hT => sum_l l W hv0 hT
  have Hn := Lib.hid (Chk.new w l)
  have hbel := Chk.bel w l
  rw [hv] at hval
  clear hv hv0
  have hones := fun W => ones_any n (by omega) W
  have hs512 := syn_lt l
  have hc320 := cnt_le l
  have hp := pop_le 40 n
  have hand := code_and n hn
  have hxor := synC_xor l n
  have hx512 := synC_lt l n
  have hodd := oddC_is l n
  rw [ho] at hodd
  clear ho
  have HT := Lib.hid hT
  have Hsum := Lib.hid hsum
  clear hT hsum
  generalize synC l n = s at *
  have hs0 : ((s : Int) == 0) = false := by rw [beq_eq_false_iff_ne]; omega
  have hpa : bits .and .i64 (s : Int) ((s : Int) - 1) = 0 := by
    have h := and_i64 s (s - 1) (by omega) (by omega)
    rw [hpw, show ((s - 1 : Nat) : Int) = (s : Int) - 1 from by omega] at h
    exact h
  have htz := fun W hT => tz_any s (by omega) h0 W hT
  have Htz := Lib.hid htz
  clear htz hpw h0
  go_enter Tryz.func77, Tryz.ntmps77
  go_wp2_with fail
  generalize (((w.alloc (.cells #[.int .i64 l.a0, .int .i64 l.a1, .int .i64 l.a2, .int .i64 l.a3, .int .i64 l.a4, .int .i64 l.a5, .int .i64 l.a6, .int .i64 l.a7] 80)).alloc (.cells #[.int .i64 0] 3)).alloc (.cells #[.int .i64 0] 3)).alloc (.cells #[.int .i64 0] 3) = W at *
  refine (hval _).mono ?_
  rintro e w1 ⟨rfl, hb1⟩
  have H1 := Lib.hid (Hn.out.under hb1)
  have hbel1 := hbel.trans (hb1.mono hbel.size)
  clear hb1
  obtain ⟨c0, c1, c2, c3, c4, c5, c6, c7⟩ := H1.out.box.all
  have hblt := H1.out.box.lt
  go_wp2_with fail
  refine (Hsum.out _ (HT.out.below hbel1)).mono ?_
  rintro e w2 ⟨rfl, hb2⟩
  have H2 := Lib.hid (H1.out.under hb2)
  have hbel2 := hbel1.trans (hb2.mono hbel1.size)
  clear hb2 c0 c1 c2 c3 c4 c5 c6 c7 hblt
  have c4 := H2.out.r4.cell
  have c5 := H2.out.r5.cell
  have c6 := H2.out.r6.cell
  have f4 := H2.out.r4.frozen
  have f5 := H2.out.r5.frozen
  have f6 := H2.out.r6.frozen
  have l4 := H2.out.r4.lt
  have l5 := H2.out.r5.lt
  have l6 := H2.out.r6.lt
  go_wp2_with fail
  refine (hones _).mono ?_
  rintro e w' ⟨rfl, rfl⟩
  go_wp2_with fail
  refine (Htz.out _ (HT.out.below (hbel2.alloc hbel2.size _))).mono ?_
  rintro e w' ⟨rfl, rfl⟩
  go_wp2
  exact bodyPost_ret (v := .tuple #[.int .i64 1, .int .i64 8, .int .i64 (Lib.ctz 64 (s) : Nat)]) (by simp [results, Tryz.results77, go_sem, c4, c5, c6, l4, l5, l6]) rfl ⟨rfl, ((((hbel2.setCell (Nat.le_succ _) _).setCell (by simp; omega) _).setCell (by simp; omega) _).alloc (by simp; exact hbel2.size) _)⟩

end Go.Proofs.YtlolaieolgmdnaaGreatDoor
