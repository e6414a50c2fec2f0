/-
  The walk of the reference's Fix; both answer what fix says.
-/
import Derived.Test.YtlolaieolgmdnaaGreatDoorCodeN
namespace Go.Proofs.YtlolaieolgmdnaaGreatDoor
open Go.RowKit
set_option maxRecDepth 100000

theorem rFlip_l (l : W8) (c a b : Int) (w : World) : Calls Tryz.prog 113 #[(.agg #[.int .i64 l.a0, .int .i64 l.a1, .int .i64 l.a2, .int .i64 l.a3, .int .i64 l.a4, .int .i64 l.a5, .int .i64 l.a6, .int .i64 l.a7]), .int .i64 c, .int .i64 a, .int .i64 b] w (RetB (.tuple #[arrOf (flpL l a b), .int .i64 (flpC c a b)]) w) := rFlip_any l.a0 l.a1 l.a2 l.a3 l.a4 l.a5 l.a6 l.a7 c a b w

set_option maxHeartbeats 1000000 in
/-- Fix, where the line is not valid. -/
theorem rfix_no (l : W8) (c : Int) (w : World) (hv : validB l c = false) :
    Calls Tryz.prog 97 #[(.agg #[.int .i64 l.a0, .int .i64 l.a1, .int .i64 l.a2, .int .i64 l.a3, .int .i64 l.a4, .int .i64 l.a5, .int .i64 l.a6, .int .i64 l.a7]), .int .i64 c] w (RetB (.tuple #[arrOf zer, .int .i64 0, .int .i64 1]) w) := by
  have hval := fun W => rvalid_l l c W
  rw [hv] at hval
  clear hv
  have Hl := Lib.hid ((BoxL.new w l.a0 l.a1 l.a2 l.a3 l.a4 l.a5 l.a6 l.a7).alloc (.cells #[.int .i64 0, .int .i64 0, .int .i64 0, .int .i64 0, .int .i64 0, .int .i64 0, .int .i64 0, .int .i64 0] 80))
  have Hz : Hid (BoxL ((w.alloc (.cells #[.int .i64 l.a0, .int .i64 l.a1, .int .i64 l.a2, .int .i64 l.a3, .int .i64 l.a4, .int .i64 l.a5, .int .i64 l.a6, .int .i64 l.a7] 80)).alloc (.cells #[.int .i64 0, .int .i64 0, .int .i64 0, .int .i64 0, .int .i64 0, .int .i64 0, .int .i64 0, .int .i64 0] 80)) (w.heap.size + 1) zer) := Lib.hid (by have := BoxL.new (w.alloc (.cells #[.int .i64 l.a0, .int .i64 l.a1, .int .i64 l.a2, .int .i64 l.a3, .int .i64 l.a4, .int .i64 l.a5, .int .i64 l.a6, .int .i64 l.a7] 80)) 0 0 0 0 0 0 0 0; simpa [zer] using this)
  have hbel := ((Below.refl w.heap.size w).alloc (Nat.le_refl _) (.cells #[.int .i64 l.a0, .int .i64 l.a1, .int .i64 l.a2, .int .i64 l.a3, .int .i64 l.a4, .int .i64 l.a5, .int .i64 l.a6, .int .i64 l.a7] 80)).alloc (by simp) (.cells #[.int .i64 0, .int .i64 0, .int .i64 0, .int .i64 0, .int .i64 0, .int .i64 0, .int .i64 0, .int .i64 0] 80)
  go_enter Tryz.func97, Tryz.ntmps97
  go_wp2_with fail
  generalize (w.alloc (.cells #[.int .i64 l.a0, .int .i64 l.a1, .int .i64 l.a2, .int .i64 l.a3, .int .i64 l.a4, .int .i64 l.a5, .int .i64 l.a6, .int .i64 l.a7] 80)).alloc (.cells #[.int .i64 0, .int .i64 0, .int .i64 0, .int .i64 0, .int .i64 0, .int .i64 0, .int .i64 0, .int .i64 0] 80) = W at *
  refine (hval _).mono ?_
  rintro e w1 ⟨rfl, hb1⟩
  have H1 := Lib.hid (Hl.out.below hb1)
  have Z1 := Lib.hid (Hz.out.below hb1)
  have hbel1 := hbel.trans (hb1.mono hbel.size)
  clear hb1
  have Hr : Hid (BoxL ((((((((w1.setCell ⟨w.heap.size + 1, 0, none⟩ (.int .i64 0)).setCell ⟨w.heap.size + 1, 1, none⟩ (.int .i64 0)).setCell ⟨w.heap.size + 1, 2, none⟩ (.int .i64 0)).setCell ⟨w.heap.size + 1, 3, none⟩ (.int .i64 0)).setCell ⟨w.heap.size + 1, 4, none⟩ (.int .i64 0)).setCell ⟨w.heap.size + 1, 5, none⟩ (.int .i64 0)).setCell ⟨w.heap.size + 1, 6, none⟩ (.int .i64 0)).setCell ⟨w.heap.size + 1, 7, none⟩ (.int .i64 0)) (w.heap.size + 1) zer) := Lib.hid (Z1.out.store8 zer)
  have hbel9 : Below w.heap.size w ((((((((w1.setCell ⟨w.heap.size + 1, 0, none⟩ (.int .i64 0)).setCell ⟨w.heap.size + 1, 1, none⟩ (.int .i64 0)).setCell ⟨w.heap.size + 1, 2, none⟩ (.int .i64 0)).setCell ⟨w.heap.size + 1, 3, none⟩ (.int .i64 0)).setCell ⟨w.heap.size + 1, 4, none⟩ (.int .i64 0)).setCell ⟨w.heap.size + 1, 5, none⟩ (.int .i64 0)).setCell ⟨w.heap.size + 1, 6, none⟩ (.int .i64 0)).setCell ⟨w.heap.size + 1, 7, none⟩ (.int .i64 0)) := below_store8 hbel1 (Nat.le_succ _) _ _ _ _ _ _ _ _
  obtain ⟨z0, z1, z2, z3, z4, z5, z6, z7⟩ := Z1.out.all
  have zf := Z1.out.free
  simp only [zer] at z0 z1 z2 z3 z4 z5 z6 z7
  go_wp2
  generalize ((((((((w1.setCell ⟨w.heap.size + 1, 0, none⟩ (.int .i64 0)).setCell ⟨w.heap.size + 1, 1, none⟩ (.int .i64 0)).setCell ⟨w.heap.size + 1, 2, none⟩ (.int .i64 0)).setCell ⟨w.heap.size + 1, 3, none⟩ (.int .i64 0)).setCell ⟨w.heap.size + 1, 4, none⟩ (.int .i64 0)).setCell ⟨w.heap.size + 1, 5, none⟩ (.int .i64 0)).setCell ⟨w.heap.size + 1, 6, none⟩ (.int .i64 0)).setCell ⟨w.heap.size + 1, 7, none⟩ (.int .i64 0)) = W9 at *
  have d9 := Hr.out.all
  obtain ⟨d0, d1, d2, d3, d4, d5, d6, d7⟩ := d9
  exact bodyPost_ret (v := .tuple #[arrOf zer, .int .i64 (0), .int .i64 1]) (by simp [results, Tryz.results97, go_sem, d0, d1, d2, d3, d4, d5, d6, d7, arrOf]) rfl ⟨rfl, hbel9⟩

set_option maxHeartbeats 1000000 in
/-- Fix, where the line is rotten. -/
theorem rfix_rot (l : W8) (c : Int) (w : World) (hv : validB l c = true) (hr : (chk l c).1 = 2) :
    Calls Tryz.prog 97 #[(.agg #[.int .i64 l.a0, .int .i64 l.a1, .int .i64 l.a2, .int .i64 l.a3, .int .i64 l.a4, .int .i64 l.a5, .int .i64 l.a6, .int .i64 l.a7]), .int .i64 c] w (RetB (.tuple #[arrOf zer, .int .i64 0, .int .i64 9]) w) := by
  have hval := fun W => rvalid_l l c W
  have hchk := fun W => rChecked_any l c W
  rw [hv] at hval
  clear hv
  have Hchk := Lib.hid hchk
  clear hchk
  generalize chk l c = r at *
  obtain ⟨r0, r1, r2⟩ := r
  simp only at hr Hchk
  subst hr
  have Hl := Lib.hid ((BoxL.new w l.a0 l.a1 l.a2 l.a3 l.a4 l.a5 l.a6 l.a7).alloc (.cells #[.int .i64 0, .int .i64 0, .int .i64 0, .int .i64 0, .int .i64 0, .int .i64 0, .int .i64 0, .int .i64 0] 80))
  have Hz : Hid (BoxL ((w.alloc (.cells #[.int .i64 l.a0, .int .i64 l.a1, .int .i64 l.a2, .int .i64 l.a3, .int .i64 l.a4, .int .i64 l.a5, .int .i64 l.a6, .int .i64 l.a7] 80)).alloc (.cells #[.int .i64 0, .int .i64 0, .int .i64 0, .int .i64 0, .int .i64 0, .int .i64 0, .int .i64 0, .int .i64 0] 80)) (w.heap.size + 1) zer) := Lib.hid (by have := BoxL.new (w.alloc (.cells #[.int .i64 l.a0, .int .i64 l.a1, .int .i64 l.a2, .int .i64 l.a3, .int .i64 l.a4, .int .i64 l.a5, .int .i64 l.a6, .int .i64 l.a7] 80)) 0 0 0 0 0 0 0 0; simpa [zer] using this)
  have hbel := ((Below.refl w.heap.size w).alloc (Nat.le_refl _) (.cells #[.int .i64 l.a0, .int .i64 l.a1, .int .i64 l.a2, .int .i64 l.a3, .int .i64 l.a4, .int .i64 l.a5, .int .i64 l.a6, .int .i64 l.a7] 80)).alloc (by simp) (.cells #[.int .i64 0, .int .i64 0, .int .i64 0, .int .i64 0, .int .i64 0, .int .i64 0, .int .i64 0, .int .i64 0] 80)
  go_enter Tryz.func97, Tryz.ntmps97
  go_wp2_with fail
  generalize (w.alloc (.cells #[.int .i64 l.a0, .int .i64 l.a1, .int .i64 l.a2, .int .i64 l.a3, .int .i64 l.a4, .int .i64 l.a5, .int .i64 l.a6, .int .i64 l.a7] 80)).alloc (.cells #[.int .i64 0, .int .i64 0, .int .i64 0, .int .i64 0, .int .i64 0, .int .i64 0, .int .i64 0, .int .i64 0] 80) = W at *
  refine (hval _).mono ?_
  rintro e w1 ⟨rfl, hb1⟩
  have H1 := Lib.hid (Hl.out.below hb1)
  have Z1 := Lib.hid (Hz.out.below hb1)
  have hbel1 := hbel.trans (hb1.mono hbel.size)
  clear hb1
  obtain ⟨c0, c1, c2, c3, c4, c5, c6, c7⟩ := H1.out.all
  go_wp2_with fail
  refine (Hchk.out _).mono ?_
  rintro e w2 ⟨rfl, hb2⟩
  have H2 := Lib.hid ((H1.out.below hb2).alloc (.cells #[.int .i64 2, .int .i64 r1, .int .i64 r2] 159))
  have Z2 := Lib.hid ((Z1.out.below hb2).alloc (.cells #[.int .i64 2, .int .i64 r1, .int .i64 r2] 159))
  have S2 := Lib.hid (Box3.new w2 2 r1 r2)
  have hbel2 := (hbel1.trans (hb2.mono hbel1.size)).alloc (hbel1.trans (hb2.mono hbel1.size)).size (.cells #[.int .i64 2, .int .i64 r1, .int .i64 r2] 159)
  have hlt2 : w2.heap.size < (w2.alloc (.cells #[.int .i64 2, .int .i64 r1, .int .i64 r2] 159)).heap.size := by simp
  have hzl := (Z1.out.below hb2).lt
  clear hb2 c0 c1 c2 c3 c4 c5 c6 c7
  go_upto_region 5 with (fail)
  generalize w2.alloc (.cells #[.int .i64 2, .int .i64 r1, .int .i64 r2] 159) = W2 at *
  generalize w2.heap.size = s4 at *
  obtain ⟨e0, e1, e2⟩ := S2.out.cells
  have Hr : Hid (BoxL ((((((((W2.setCell ⟨w.heap.size + 1, 0, none⟩ (.int .i64 0)).setCell ⟨w.heap.size + 1, 1, none⟩ (.int .i64 0)).setCell ⟨w.heap.size + 1, 2, none⟩ (.int .i64 0)).setCell ⟨w.heap.size + 1, 3, none⟩ (.int .i64 0)).setCell ⟨w.heap.size + 1, 4, none⟩ (.int .i64 0)).setCell ⟨w.heap.size + 1, 5, none⟩ (.int .i64 0)).setCell ⟨w.heap.size + 1, 6, none⟩ (.int .i64 0)).setCell ⟨w.heap.size + 1, 7, none⟩ (.int .i64 0)) (w.heap.size + 1) zer) := Lib.hid (Z2.out.store8 zer)
  have hbel9 : Below w.heap.size w ((((((((W2.setCell ⟨w.heap.size + 1, 0, none⟩ (.int .i64 0)).setCell ⟨w.heap.size + 1, 1, none⟩ (.int .i64 0)).setCell ⟨w.heap.size + 1, 2, none⟩ (.int .i64 0)).setCell ⟨w.heap.size + 1, 3, none⟩ (.int .i64 0)).setCell ⟨w.heap.size + 1, 4, none⟩ (.int .i64 0)).setCell ⟨w.heap.size + 1, 5, none⟩ (.int .i64 0)).setCell ⟨w.heap.size + 1, 6, none⟩ (.int .i64 0)).setCell ⟨w.heap.size + 1, 7, none⟩ (.int .i64 0)) := below_store8 hbel2 (Nat.le_succ _) _ _ _ _ _ _ _ _
  obtain ⟨z0, z1, z2, z3, z4, z5, z6, z7⟩ := Z2.out.all
  have zf := Z2.out.free
  simp only [zer] at z0 z1 z2 z3 z4 z5 z6 z7
  go_wp2
  generalize ((((((((W2.setCell ⟨w.heap.size + 1, 0, none⟩ (.int .i64 0)).setCell ⟨w.heap.size + 1, 1, none⟩ (.int .i64 0)).setCell ⟨w.heap.size + 1, 2, none⟩ (.int .i64 0)).setCell ⟨w.heap.size + 1, 3, none⟩ (.int .i64 0)).setCell ⟨w.heap.size + 1, 4, none⟩ (.int .i64 0)).setCell ⟨w.heap.size + 1, 5, none⟩ (.int .i64 0)).setCell ⟨w.heap.size + 1, 6, none⟩ (.int .i64 0)).setCell ⟨w.heap.size + 1, 7, none⟩ (.int .i64 0)) = W9 at *
  have d9 := Hr.out.all
  obtain ⟨d0, d1, d2, d3, d4, d5, d6, d7⟩ := d9
  exact bodyPost_ret (v := .tuple #[arrOf zer, .int .i64 (0), .int .i64 9]) (by simp [results, Tryz.results97, go_sem, d0, d1, d2, d3, d4, d5, d6, d7, arrOf]) rfl ⟨rfl, hbel9⟩

set_option maxHeartbeats 1000000 in
/-- Fix, where the line is clean. -/
theorem rfix_clean (l : W8) (c : Int) (w : World) (hv : validB l c = true) (hr : (chk l c).1 = 0) :
    Calls Tryz.prog 97 #[(.agg #[.int .i64 l.a0, .int .i64 l.a1, .int .i64 l.a2, .int .i64 l.a3, .int .i64 l.a4, .int .i64 l.a5, .int .i64 l.a6, .int .i64 l.a7]), .int .i64 c] w (RetB (.tuple #[arrOf l, .int .i64 c, .int .i64 0]) w) := by
  have hval := fun W => rvalid_l l c W
  have hchk := fun W => rChecked_any l c W
  rw [hv] at hval
  clear hv
  have Hchk := Lib.hid hchk
  clear hchk
  generalize chk l c = r at *
  obtain ⟨r0, r1, r2⟩ := r
  simp only at hr Hchk
  subst hr
  have Hl := Lib.hid ((BoxL.new w l.a0 l.a1 l.a2 l.a3 l.a4 l.a5 l.a6 l.a7).alloc (.cells #[.int .i64 0, .int .i64 0, .int .i64 0, .int .i64 0, .int .i64 0, .int .i64 0, .int .i64 0, .int .i64 0] 80))
  have Hz : Hid (BoxL ((w.alloc (.cells #[.int .i64 l.a0, .int .i64 l.a1, .int .i64 l.a2, .int .i64 l.a3, .int .i64 l.a4, .int .i64 l.a5, .int .i64 l.a6, .int .i64 l.a7] 80)).alloc (.cells #[.int .i64 0, .int .i64 0, .int .i64 0, .int .i64 0, .int .i64 0, .int .i64 0, .int .i64 0, .int .i64 0] 80)) (w.heap.size + 1) zer) := Lib.hid (by have := BoxL.new (w.alloc (.cells #[.int .i64 l.a0, .int .i64 l.a1, .int .i64 l.a2, .int .i64 l.a3, .int .i64 l.a4, .int .i64 l.a5, .int .i64 l.a6, .int .i64 l.a7] 80)) 0 0 0 0 0 0 0 0; simpa [zer] using this)
  have hbel := ((Below.refl w.heap.size w).alloc (Nat.le_refl _) (.cells #[.int .i64 l.a0, .int .i64 l.a1, .int .i64 l.a2, .int .i64 l.a3, .int .i64 l.a4, .int .i64 l.a5, .int .i64 l.a6, .int .i64 l.a7] 80)).alloc (by simp) (.cells #[.int .i64 0, .int .i64 0, .int .i64 0, .int .i64 0, .int .i64 0, .int .i64 0, .int .i64 0, .int .i64 0] 80)
  go_enter Tryz.func97, Tryz.ntmps97
  go_wp2_with fail
  generalize (w.alloc (.cells #[.int .i64 l.a0, .int .i64 l.a1, .int .i64 l.a2, .int .i64 l.a3, .int .i64 l.a4, .int .i64 l.a5, .int .i64 l.a6, .int .i64 l.a7] 80)).alloc (.cells #[.int .i64 0, .int .i64 0, .int .i64 0, .int .i64 0, .int .i64 0, .int .i64 0, .int .i64 0, .int .i64 0] 80) = W at *
  refine (hval _).mono ?_
  rintro e w1 ⟨rfl, hb1⟩
  have H1 := Lib.hid (Hl.out.below hb1)
  have Z1 := Lib.hid (Hz.out.below hb1)
  have hbel1 := hbel.trans (hb1.mono hbel.size)
  clear hb1
  obtain ⟨c0, c1, c2, c3, c4, c5, c6, c7⟩ := H1.out.all
  go_wp2_with fail
  refine (Hchk.out _).mono ?_
  rintro e w2 ⟨rfl, hb2⟩
  have H2 := Lib.hid ((H1.out.below hb2).alloc (.cells #[.int .i64 0, .int .i64 r1, .int .i64 r2] 159))
  have Z2 := Lib.hid ((Z1.out.below hb2).alloc (.cells #[.int .i64 0, .int .i64 r1, .int .i64 r2] 159))
  have S2 := Lib.hid (Box3.new w2 0 r1 r2)
  have hbel2 := (hbel1.trans (hb2.mono hbel1.size)).alloc (hbel1.trans (hb2.mono hbel1.size)).size (.cells #[.int .i64 0, .int .i64 r1, .int .i64 r2] 159)
  have hlt2 : w2.heap.size < (w2.alloc (.cells #[.int .i64 0, .int .i64 r1, .int .i64 r2] 159)).heap.size := by simp
  have hzl := (Z1.out.below hb2).lt
  clear hb2 c0 c1 c2 c3 c4 c5 c6 c7
  go_upto_region 5 with (fail)
  generalize w2.alloc (.cells #[.int .i64 0, .int .i64 r1, .int .i64 r2] 159) = W2 at *
  generalize w2.heap.size = s4 at *
  obtain ⟨e0, e1, e2⟩ := S2.out.cells
  have Hr : Hid (BoxL ((((((((W2.setCell ⟨w.heap.size + 1, 0, none⟩ (.int .i64 l.a0)).setCell ⟨w.heap.size + 1, 1, none⟩ (.int .i64 l.a1)).setCell ⟨w.heap.size + 1, 2, none⟩ (.int .i64 l.a2)).setCell ⟨w.heap.size + 1, 3, none⟩ (.int .i64 l.a3)).setCell ⟨w.heap.size + 1, 4, none⟩ (.int .i64 l.a4)).setCell ⟨w.heap.size + 1, 5, none⟩ (.int .i64 l.a5)).setCell ⟨w.heap.size + 1, 6, none⟩ (.int .i64 l.a6)).setCell ⟨w.heap.size + 1, 7, none⟩ (.int .i64 l.a7)) (w.heap.size + 1) l) := Lib.hid (Z2.out.store8 l)
  have hbel9 : Below w.heap.size w ((((((((W2.setCell ⟨w.heap.size + 1, 0, none⟩ (.int .i64 l.a0)).setCell ⟨w.heap.size + 1, 1, none⟩ (.int .i64 l.a1)).setCell ⟨w.heap.size + 1, 2, none⟩ (.int .i64 l.a2)).setCell ⟨w.heap.size + 1, 3, none⟩ (.int .i64 l.a3)).setCell ⟨w.heap.size + 1, 4, none⟩ (.int .i64 l.a4)).setCell ⟨w.heap.size + 1, 5, none⟩ (.int .i64 l.a5)).setCell ⟨w.heap.size + 1, 6, none⟩ (.int .i64 l.a6)).setCell ⟨w.heap.size + 1, 7, none⟩ (.int .i64 l.a7)) := below_store8 hbel2 (Nat.le_succ _) _ _ _ _ _ _ _ _
  obtain ⟨z0, z1, z2, z3, z4, z5, z6, z7⟩ := Z2.out.all
  have zf := Z2.out.free
  simp only [zer] at z0 z1 z2 z3 z4 z5 z6 z7
  obtain ⟨c0, c1, c2, c3, c4, c5, c6, c7⟩ := H2.out.all
  go_wp2
  generalize ((((((((W2.setCell ⟨w.heap.size + 1, 0, none⟩ (.int .i64 l.a0)).setCell ⟨w.heap.size + 1, 1, none⟩ (.int .i64 l.a1)).setCell ⟨w.heap.size + 1, 2, none⟩ (.int .i64 l.a2)).setCell ⟨w.heap.size + 1, 3, none⟩ (.int .i64 l.a3)).setCell ⟨w.heap.size + 1, 4, none⟩ (.int .i64 l.a4)).setCell ⟨w.heap.size + 1, 5, none⟩ (.int .i64 l.a5)).setCell ⟨w.heap.size + 1, 6, none⟩ (.int .i64 l.a6)).setCell ⟨w.heap.size + 1, 7, none⟩ (.int .i64 l.a7)) = W9 at *
  have d9 := Hr.out.all
  obtain ⟨d0, d1, d2, d3, d4, d5, d6, d7⟩ := d9
  exact bodyPost_ret (v := .tuple #[arrOf l, .int .i64 (c), .int .i64 0]) (by simp [results, Tryz.results97, go_sem, d0, d1, d2, d3, d4, d5, d6, d7, arrOf]) rfl ⟨rfl, hbel9⟩

set_option maxHeartbeats 2000000 in
/-- Fix, where one bit is inverted. -/
theorem rfix_one (l : W8) (c : Int) (w : World) (hv : validB l c = true) (hr : (chk l c).1 = 1) :
    Calls Tryz.prog 97 #[(.agg #[.int .i64 l.a0, .int .i64 l.a1, .int .i64 l.a2, .int .i64 l.a3, .int .i64 l.a4, .int .i64 l.a5, .int .i64 l.a6, .int .i64 l.a7]), .int .i64 c] w (RetB (.tuple #[arrOf (flpL l (chk l c).2.1 (chk l c).2.2), .int .i64 (flpC c (chk l c).2.1 (chk l c).2.2), .int .i64 0]) w) := by
  have hval := fun W => rvalid_l l c W
  have hchk := fun W => rChecked_any l c W
  rw [hv] at hval
  clear hv
  have Hchk := Lib.hid hchk
  clear hchk
  generalize chk l c = r at *
  obtain ⟨r0, r1, r2⟩ := r
  simp only at hr Hchk
  subst hr
  have Hl := Lib.hid ((BoxL.new w l.a0 l.a1 l.a2 l.a3 l.a4 l.a5 l.a6 l.a7).alloc (.cells #[.int .i64 0, .int .i64 0, .int .i64 0, .int .i64 0, .int .i64 0, .int .i64 0, .int .i64 0, .int .i64 0] 80))
  have Hz : Hid (BoxL ((w.alloc (.cells #[.int .i64 l.a0, .int .i64 l.a1, .int .i64 l.a2, .int .i64 l.a3, .int .i64 l.a4, .int .i64 l.a5, .int .i64 l.a6, .int .i64 l.a7] 80)).alloc (.cells #[.int .i64 0, .int .i64 0, .int .i64 0, .int .i64 0, .int .i64 0, .int .i64 0, .int .i64 0, .int .i64 0] 80)) (w.heap.size + 1) zer) := Lib.hid (by have := BoxL.new (w.alloc (.cells #[.int .i64 l.a0, .int .i64 l.a1, .int .i64 l.a2, .int .i64 l.a3, .int .i64 l.a4, .int .i64 l.a5, .int .i64 l.a6, .int .i64 l.a7] 80)) 0 0 0 0 0 0 0 0; simpa [zer] using this)
  have hbel := ((Below.refl w.heap.size w).alloc (Nat.le_refl _) (.cells #[.int .i64 l.a0, .int .i64 l.a1, .int .i64 l.a2, .int .i64 l.a3, .int .i64 l.a4, .int .i64 l.a5, .int .i64 l.a6, .int .i64 l.a7] 80)).alloc (by simp) (.cells #[.int .i64 0, .int .i64 0, .int .i64 0, .int .i64 0, .int .i64 0, .int .i64 0, .int .i64 0, .int .i64 0] 80)
  go_enter Tryz.func97, Tryz.ntmps97
  go_wp2_with fail
  generalize (w.alloc (.cells #[.int .i64 l.a0, .int .i64 l.a1, .int .i64 l.a2, .int .i64 l.a3, .int .i64 l.a4, .int .i64 l.a5, .int .i64 l.a6, .int .i64 l.a7] 80)).alloc (.cells #[.int .i64 0, .int .i64 0, .int .i64 0, .int .i64 0, .int .i64 0, .int .i64 0, .int .i64 0, .int .i64 0] 80) = W at *
  refine (hval _).mono ?_
  rintro e w1 ⟨rfl, hb1⟩
  have H1 := Lib.hid (Hl.out.below hb1)
  have Z1 := Lib.hid (Hz.out.below hb1)
  have hbel1 := hbel.trans (hb1.mono hbel.size)
  clear hb1
  obtain ⟨c0, c1, c2, c3, c4, c5, c6, c7⟩ := H1.out.all
  go_wp2_with fail
  refine (Hchk.out _).mono ?_
  rintro e w2 ⟨rfl, hb2⟩
  have H2 := Lib.hid ((H1.out.below hb2).alloc (.cells #[.int .i64 1, .int .i64 r1, .int .i64 r2] 159))
  have Z2 := Lib.hid ((Z1.out.below hb2).alloc (.cells #[.int .i64 1, .int .i64 r1, .int .i64 r2] 159))
  have S2 := Lib.hid (Box3.new w2 1 r1 r2)
  have hbel2 := (hbel1.trans (hb2.mono hbel1.size)).alloc (hbel1.trans (hb2.mono hbel1.size)).size (.cells #[.int .i64 1, .int .i64 r1, .int .i64 r2] 159)
  have hlt2 : w2.heap.size < (w2.alloc (.cells #[.int .i64 1, .int .i64 r1, .int .i64 r2] 159)).heap.size := by simp
  have hzl := (Z1.out.below hb2).lt
  clear hb2 c0 c1 c2 c3 c4 c5 c6 c7
  go_upto_region 5 with (fail)
  generalize w2.alloc (.cells #[.int .i64 1, .int .i64 r1, .int .i64 r2] 159) = W2 at *
  generalize w2.heap.size = s4 at *
  obtain ⟨e0, e1, e2⟩ := S2.out.cells
  obtain ⟨c0, c1, c2, c3, c4, c5, c6, c7⟩ := H2.out.all
  have hfl := fun W => rFlip_l l c r1 r2 W
  generalize flpL l r1 r2 = m at *
  generalize flpC c r1 r2 = k at *
  unfold arrOf at hfl
  go_wp2_with fail
  refine (hfl _).mono ?_
  rintro e w3 ⟨rfl, hb3⟩
  have hbel3 := hbel2.trans (hb3.mono hbel2.size)
  have Z4 := Lib.hid ((Z2.out.below hb3).alloc (.cells (cellsOf m) 80))
  have H4 : Hid (BoxL (w3.alloc (.cells (cellsOf m) 80)) w3.heap.size m) := Lib.hid (BoxL.new w3 m.a0 m.a1 m.a2 m.a3 m.a4 m.a5 m.a6 m.a7)
  have hbel4 := hbel3.alloc hbel3.size (.cells (cellsOf m) 80)
  have hz3 := (Z2.out.below hb3).lt
  clear hb3 c0 c1 c2 c3 c4 c5 c6 c7 e0 e1 e2
  unfold cellsOf at Z4 H4 hbel4
  go_upto_region 9 with (fail)
  generalize w3.alloc (.cells #[.int .i64 m.a0, .int .i64 m.a1, .int .i64 m.a2, .int .i64 m.a3, .int .i64 m.a4, .int .i64 m.a5, .int .i64 m.a6, .int .i64 m.a7] 80) = W4 at *
  generalize w3.heap.size = b4 at *
  obtain ⟨c0, c1, c2, c3, c4, c5, c6, c7⟩ := H4.out.all
  have Hr : Hid (BoxL ((((((((W4.setCell ⟨w.heap.size + 1, 0, none⟩ (.int .i64 m.a0)).setCell ⟨w.heap.size + 1, 1, none⟩ (.int .i64 m.a1)).setCell ⟨w.heap.size + 1, 2, none⟩ (.int .i64 m.a2)).setCell ⟨w.heap.size + 1, 3, none⟩ (.int .i64 m.a3)).setCell ⟨w.heap.size + 1, 4, none⟩ (.int .i64 m.a4)).setCell ⟨w.heap.size + 1, 5, none⟩ (.int .i64 m.a5)).setCell ⟨w.heap.size + 1, 6, none⟩ (.int .i64 m.a6)).setCell ⟨w.heap.size + 1, 7, none⟩ (.int .i64 m.a7)) (w.heap.size + 1) m) := Lib.hid (Z4.out.store8 m)
  have hbel9 : Below w.heap.size w ((((((((W4.setCell ⟨w.heap.size + 1, 0, none⟩ (.int .i64 m.a0)).setCell ⟨w.heap.size + 1, 1, none⟩ (.int .i64 m.a1)).setCell ⟨w.heap.size + 1, 2, none⟩ (.int .i64 m.a2)).setCell ⟨w.heap.size + 1, 3, none⟩ (.int .i64 m.a3)).setCell ⟨w.heap.size + 1, 4, none⟩ (.int .i64 m.a4)).setCell ⟨w.heap.size + 1, 5, none⟩ (.int .i64 m.a5)).setCell ⟨w.heap.size + 1, 6, none⟩ (.int .i64 m.a6)).setCell ⟨w.heap.size + 1, 7, none⟩ (.int .i64 m.a7)) := below_store8 hbel4 (Nat.le_succ _) _ _ _ _ _ _ _ _
  obtain ⟨z0, z1, z2, z3, z4, z5, z6, z7⟩ := Z4.out.all
  have zf := Z4.out.free
  simp only [zer] at z0 z1 z2 z3 z4 z5 z6 z7
  go_wp2
  generalize ((((((((W4.setCell ⟨w.heap.size + 1, 0, none⟩ (.int .i64 m.a0)).setCell ⟨w.heap.size + 1, 1, none⟩ (.int .i64 m.a1)).setCell ⟨w.heap.size + 1, 2, none⟩ (.int .i64 m.a2)).setCell ⟨w.heap.size + 1, 3, none⟩ (.int .i64 m.a3)).setCell ⟨w.heap.size + 1, 4, none⟩ (.int .i64 m.a4)).setCell ⟨w.heap.size + 1, 5, none⟩ (.int .i64 m.a5)).setCell ⟨w.heap.size + 1, 6, none⟩ (.int .i64 m.a6)).setCell ⟨w.heap.size + 1, 7, none⟩ (.int .i64 m.a7)) = W9 at *
  have d9 := Hr.out.all
  obtain ⟨d0, d1, d2, d3, d4, d5, d6, d7⟩ := d9
  exact bodyPost_ret (v := .tuple #[arrOf m, .int .i64 (k), .int .i64 0]) (by simp [results, Tryz.results97, go_sem, d0, d1, d2, d3, d4, d5, d6, d7, arrOf]) rfl ⟨rfl, hbel9⟩

theorem chk_state (l : W8) (c : Int) : (chk l c).1 = 0 ∨ (chk l c).1 = 1 ∨ (chk l c).1 = 2 := by
  unfold chk
  repeat' split
  all_goals simp

theorem Fix_any (l : W8) (c : Int) (w : World) (hT : TabIn w) :
    Calls Tryz.prog 95 #[(.agg #[.int .i64 l.a0, .int .i64 l.a1, .int .i64 l.a2, .int .i64 l.a3, .int .i64 l.a4, .int .i64 l.a5, .int .i64 l.a6, .int .i64 l.a7]), .int .i64 c] w (RetB (.tuple #[arrOf (fix l c).1, .int .i64 (fix l c).2.1, .int .i64 (fix l c).2.2]) w) := by
  cases hv : validB l c with
  | false =>
    have e : fix l c = (zer, 0, 1) := by unfold fix; rw [hv]; rfl
    rw [e]; exact fix_no l c w hv
  | true =>
    rcases chk_state l c with h | h | h
    · have e : fix l c = (l, c, 0) := by unfold fix; rw [if_pos hv, h]; rfl
      rw [e]; exact fix_clean l c w hv hT h
    · have e : fix l c = (flpL l (chk l c).2.1 (chk l c).2.2, flpC c (chk l c).2.1 (chk l c).2.2, 0) := by unfold fix; rw [if_pos hv, h]; rfl
      rw [e]; exact fix_one l c w hv hT h
    · have e : fix l c = (zer, 0, 9) := by unfold fix; rw [if_pos hv, h]; rfl
      rw [e]; exact fix_rot l c w hv hT h

theorem rFix_any (l : W8) (c : Int) (w : World) :
    Calls Tryz.prog 97 #[(.agg #[.int .i64 l.a0, .int .i64 l.a1, .int .i64 l.a2, .int .i64 l.a3, .int .i64 l.a4, .int .i64 l.a5, .int .i64 l.a6, .int .i64 l.a7]), .int .i64 c] w (RetB (.tuple #[arrOf (fix l c).1, .int .i64 (fix l c).2.1, .int .i64 (fix l c).2.2]) w) := by
  cases hv : validB l c with
  | false =>
    have e : fix l c = (zer, 0, 1) := by unfold fix; rw [hv]; rfl
    rw [e]; exact rfix_no l c w hv
  | true =>
    rcases chk_state l c with h | h | h
    · have e : fix l c = (l, c, 0) := by unfold fix; rw [if_pos hv, h]; rfl
      rw [e]; exact rfix_clean l c w hv h
    · have e : fix l c = (flpL l (chk l c).2.1 (chk l c).2.2, flpC c (chk l c).2.1 (chk l c).2.2, 0) := by unfold fix; rw [if_pos hv, h]; rfl
      rw [e]; exact rfix_one l c w hv h
    · have e : fix l c = (zer, 0, 9) := by unfold fix; rw [if_pos hv, h]; rfl
      rw [e]; exact rfix_rot l c w hv h

end Go.Proofs.YtlolaieolgmdnaaGreatDoor
