/-
  The walks of Fix (both).
-/
import Derived.Test.YtlolaieolgmdnaaGreatDoorCodeM
import Derived.Deep.Cut
import Derived.Deep.CutRange
import Derived.Deep.CutBlock
namespace Go.Proofs.YtlolaieolgmdnaaGreatDoor
open Go.RowKit
set_option maxRecDepth 100000

def zer : W8 := ⟨0, 0, 0, 0, 0, 0, 0, 0⟩
theorem Flip_l (l : W8) (c a b : Int) (w : World) : Calls Tryz.prog 110 #[(.agg #[.int .i64 l.a0, .int .i64 l.a1, .int .i64 l.a2, .int .i64 l.a3, .int .i64 l.a4, .int .i64 l.a5, .int .i64 l.a6, .int .i64 l.a7]), .int .i64 c, .int .i64 a, .int .i64 b] w (RetB (.tuple #[arrOf (flpL l a b), .int .i64 (flpC c a b)]) w) := Flip_any l.a0 l.a1 l.a2 l.a3 l.a4 l.a5 l.a6 l.a7 c a b w

/-- What Fix answers: the line, the code, the error. -/
def fix (l : W8) (c : Int) : W8 × Int × Int :=
  if validB l c then
    (if (chk l c).1 = 2 then (zer, 0, 9)
     else if (chk l c).1 = 1 then (flpL l (chk l c).2.1 (chk l c).2.2, flpC c (chk l c).2.1 (chk l c).2.2, 0)
     else (l, c, 0))
  else (zer, 0, 1)

theorem BoxL.store8_other {W : World} {b d : Nat} {z : W8} (h : BoxL W b z) (hd : d ≠ b) (v0 v1 v2 v3 v4 v5 v6 v7 : Value) : BoxL ((((((((W.setCell ⟨d, 0, none⟩ v0).setCell ⟨d, 1, none⟩ v1).setCell ⟨d, 2, none⟩ v2).setCell ⟨d, 3, none⟩ v3).setCell ⟨d, 4, none⟩ v4).setCell ⟨d, 5, none⟩ v5).setCell ⟨d, 6, none⟩ v6).setCell ⟨d, 7, none⟩ v7) b z :=
  (((((((h.setOther hd _ _).setOther hd _ _).setOther hd _ _).setOther hd _ _).setOther hd _ _).setOther hd _ _).setOther hd _ _).setOther hd _ _

set_option maxHeartbeats 1000000 in
/-- Fix, where the line is not valid. -/
theorem fix_no (l : W8) (c : Int) (w : World) (hv : validB l c = false) :
    Calls Tryz.prog 95 #[(.agg #[.int .i64 l.a0, .int .i64 l.a1, .int .i64 l.a2, .int .i64 l.a3, .int .i64 l.a4, .int .i64 l.a5, .int .i64 l.a6, .int .i64 l.a7]), .int .i64 c] w (RetB (.tuple #[arrOf zer, .int .i64 0, .int .i64 1]) w) := by
  have hval := fun W => valid_l l c W
  rw [hv] at hval
  clear hv
  have Hl := Lib.hid ((BoxL.new w l.a0 l.a1 l.a2 l.a3 l.a4 l.a5 l.a6 l.a7).alloc (.cells #[.int .i64 0, .int .i64 0, .int .i64 0, .int .i64 0, .int .i64 0, .int .i64 0, .int .i64 0, .int .i64 0] 80))
  have Hz : Hid (BoxL ((w.alloc (.cells #[.int .i64 l.a0, .int .i64 l.a1, .int .i64 l.a2, .int .i64 l.a3, .int .i64 l.a4, .int .i64 l.a5, .int .i64 l.a6, .int .i64 l.a7] 80)).alloc (.cells #[.int .i64 0, .int .i64 0, .int .i64 0, .int .i64 0, .int .i64 0, .int .i64 0, .int .i64 0, .int .i64 0] 80)) (w.heap.size + 1) zer) := Lib.hid (by have := BoxL.new (w.alloc (.cells #[.int .i64 l.a0, .int .i64 l.a1, .int .i64 l.a2, .int .i64 l.a3, .int .i64 l.a4, .int .i64 l.a5, .int .i64 l.a6, .int .i64 l.a7] 80)) 0 0 0 0 0 0 0 0; simpa [zer] using this)
  have hbel := ((Below.refl w.heap.size w).alloc (Nat.le_refl _) (.cells #[.int .i64 l.a0, .int .i64 l.a1, .int .i64 l.a2, .int .i64 l.a3, .int .i64 l.a4, .int .i64 l.a5, .int .i64 l.a6, .int .i64 l.a7] 80)).alloc (by simp) (.cells #[.int .i64 0, .int .i64 0, .int .i64 0, .int .i64 0, .int .i64 0, .int .i64 0, .int .i64 0, .int .i64 0] 80)
  go_enter Tryz.func95, Tryz.ntmps95
  go_wp2_with fail
  generalize (w.alloc (.cells #[.int .i64 l.a0, .int .i64 l.a1, .int .i64 l.a2, .int .i64 l.a3, .int .i64 l.a4, .int .i64 l.a5, .int .i64 l.a6, .int .i64 l.a7] 80)).alloc (.cells #[.int .i64 0, .int .i64 0, .int .i64 0, .int .i64 0, .int .i64 0, .int .i64 0, .int .i64 0, .int .i64 0] 80) = W at *
  refine (hval _).mono ?_
  rintro e w1 ⟨rfl, hb1⟩
  have H1 := Lib.hid (Hl.out.below hb1)
  have Z1 := Lib.hid (Hz.out.below hb1)
  have hbel1 := hbel.trans (hb1.mono hbel.size)
  clear hb1
  have Hr : Hid (BoxL ((((((((w1.setCell ⟨w.heap.size + 1, 0, none⟩ (.int .i64 0)).setCell ⟨w.heap.size + 1, 1, none⟩ (.int .i64 0)).setCell ⟨w.heap.size + 1, 2, none⟩ (.int .i64 0)).setCell ⟨w.heap.size + 1, 3, none⟩ (.int .i64 0)).setCell ⟨w.heap.size + 1, 4, none⟩ (.int .i64 0)).setCell ⟨w.heap.size + 1, 5, none⟩ (.int .i64 0)).setCell ⟨w.heap.size + 1, 6, none⟩ (.int .i64 0)).setCell ⟨w.heap.size + 1, 7, none⟩ (.int .i64 0)) (w.heap.size + 1) zer) := Lib.hid (Z1.out.store8 zer)
  have hbel9 : Below w.heap.size w ((((((((w1.setCell ⟨w.heap.size + 1, 0, none⟩ (.int .i64 0)).setCell ⟨w.heap.size + 1, 1, none⟩ (.int .i64 0)).setCell ⟨w.heap.size + 1, 2, none⟩ (.int .i64 0)).setCell ⟨w.heap.size + 1, 3, none⟩ (.int .i64 0)).setCell ⟨w.heap.size + 1, 4, none⟩ (.int .i64 0)).setCell ⟨w.heap.size + 1, 5, none⟩ (.int .i64 0)).setCell ⟨w.heap.size + 1, 6, none⟩ (.int .i64 0)).setCell ⟨w.heap.size + 1, 7, none⟩ (.int .i64 0)) := below_store8 hbel1 (Nat.le_succ _) _ _ _ _ _ _ _ _
  obtain ⟨z0, z1, z2, z3, z4, z5, z6, z7⟩ := Z1.out.all
  have zf := Z1.out.free
  simp only [zer] at z0 z1 z2 z3 z4 z5 z6 z7
  go_wp2
  generalize ((((((((w1.setCell ⟨w.heap.size + 1, 0, none⟩ (.int .i64 0)).setCell ⟨w.heap.size + 1, 1, none⟩ (.int .i64 0)).setCell ⟨w.heap.size + 1, 2, none⟩ (.int .i64 0)).setCell ⟨w.heap.size + 1, 3, none⟩ (.int .i64 0)).setCell ⟨w.heap.size + 1, 4, none⟩ (.int .i64 0)).setCell ⟨w.heap.size + 1, 5, none⟩ (.int .i64 0)).setCell ⟨w.heap.size + 1, 6, none⟩ (.int .i64 0)).setCell ⟨w.heap.size + 1, 7, none⟩ (.int .i64 0)) = W9 at *
  have d9 := Hr.out.all
  obtain ⟨d0, d1, d2, d3, d4, d5, d6, d7⟩ := d9
  exact bodyPost_ret (v := .tuple #[arrOf zer, .int .i64 (0), .int .i64 1]) (by simp [results, Tryz.results95, go_sem, d0, d1, d2, d3, d4, d5, d6, d7, arrOf]) rfl ⟨rfl, hbel9⟩

set_option maxHeartbeats 1000000 in
/-- Fix, where the line is rotten. -/
theorem fix_rot (l : W8) (c : Int) (w : World) (hv : validB l c = true) (hT : TabIn w) (hr : (chk l c).1 = 2) :
    Calls Tryz.prog 95 #[(.agg #[.int .i64 l.a0, .int .i64 l.a1, .int .i64 l.a2, .int .i64 l.a3, .int .i64 l.a4, .int .i64 l.a5, .int .i64 l.a6, .int .i64 l.a7]), .int .i64 c] w (RetB (.tuple #[arrOf zer, .int .i64 0, .int .i64 9]) w) := by
  have hval := fun W => valid_l l c W
  have hchk := fun W hT => Check_any l c W hT
  rw [hv] at hval
  clear hv
  have HT := Lib.hid hT
  have Hchk := Lib.hid hchk
  clear hT hchk
  generalize chk l c = r at *
  obtain ⟨r0, r1, r2⟩ := r
  simp only at hr Hchk
  subst hr
  have Hl := Lib.hid ((BoxL.new w l.a0 l.a1 l.a2 l.a3 l.a4 l.a5 l.a6 l.a7).alloc (.cells #[.int .i64 0, .int .i64 0, .int .i64 0, .int .i64 0, .int .i64 0, .int .i64 0, .int .i64 0, .int .i64 0] 80))
  have Hz : Hid (BoxL ((w.alloc (.cells #[.int .i64 l.a0, .int .i64 l.a1, .int .i64 l.a2, .int .i64 l.a3, .int .i64 l.a4, .int .i64 l.a5, .int .i64 l.a6, .int .i64 l.a7] 80)).alloc (.cells #[.int .i64 0, .int .i64 0, .int .i64 0, .int .i64 0, .int .i64 0, .int .i64 0, .int .i64 0, .int .i64 0] 80)) (w.heap.size + 1) zer) := Lib.hid (by have := BoxL.new (w.alloc (.cells #[.int .i64 l.a0, .int .i64 l.a1, .int .i64 l.a2, .int .i64 l.a3, .int .i64 l.a4, .int .i64 l.a5, .int .i64 l.a6, .int .i64 l.a7] 80)) 0 0 0 0 0 0 0 0; simpa [zer] using this)
  have hbel := ((Below.refl w.heap.size w).alloc (Nat.le_refl _) (.cells #[.int .i64 l.a0, .int .i64 l.a1, .int .i64 l.a2, .int .i64 l.a3, .int .i64 l.a4, .int .i64 l.a5, .int .i64 l.a6, .int .i64 l.a7] 80)).alloc (by simp) (.cells #[.int .i64 0, .int .i64 0, .int .i64 0, .int .i64 0, .int .i64 0, .int .i64 0, .int .i64 0, .int .i64 0] 80)
  go_enter Tryz.func95, Tryz.ntmps95
  go_wp2_with fail
  generalize (w.alloc (.cells #[.int .i64 l.a0, .int .i64 l.a1, .int .i64 l.a2, .int .i64 l.a3, .int .i64 l.a4, .int .i64 l.a5, .int .i64 l.a6, .int .i64 l.a7] 80)).alloc (.cells #[.int .i64 0, .int .i64 0, .int .i64 0, .int .i64 0, .int .i64 0, .int .i64 0, .int .i64 0, .int .i64 0] 80) = W at *
  refine (hval _).mono ?_
  rintro e w1 ⟨rfl, hb1⟩
  have H1 := Lib.hid (Hl.out.below hb1)
  have Z1 := Lib.hid (Hz.out.below hb1)
  have hbel1 := hbel.trans (hb1.mono hbel.size)
  clear hb1
  obtain ⟨c0, c1, c2, c3, c4, c5, c6, c7⟩ := H1.out.all
  go_wp2_with fail
  refine (Hchk.out _ (HT.out.below hbel1)).mono ?_
  rintro e w2 ⟨rfl, hb2⟩
  have H2 := Lib.hid (H1.out.below hb2)
  have Z2 := Lib.hid (Z1.out.below hb2)
  have hbel2 := hbel1.trans (hb2.mono hbel1.size)
  clear hb2 c0 c1 c2 c3 c4 c5 c6 c7
  have Hr : Hid (BoxL ((((((((w2.setCell ⟨w.heap.size + 1, 0, none⟩ (.int .i64 0)).setCell ⟨w.heap.size + 1, 1, none⟩ (.int .i64 0)).setCell ⟨w.heap.size + 1, 2, none⟩ (.int .i64 0)).setCell ⟨w.heap.size + 1, 3, none⟩ (.int .i64 0)).setCell ⟨w.heap.size + 1, 4, none⟩ (.int .i64 0)).setCell ⟨w.heap.size + 1, 5, none⟩ (.int .i64 0)).setCell ⟨w.heap.size + 1, 6, none⟩ (.int .i64 0)).setCell ⟨w.heap.size + 1, 7, none⟩ (.int .i64 0)) (w.heap.size + 1) zer) := Lib.hid (Z2.out.store8 zer)
  have hbel9 : Below w.heap.size w ((((((((w2.setCell ⟨w.heap.size + 1, 0, none⟩ (.int .i64 0)).setCell ⟨w.heap.size + 1, 1, none⟩ (.int .i64 0)).setCell ⟨w.heap.size + 1, 2, none⟩ (.int .i64 0)).setCell ⟨w.heap.size + 1, 3, none⟩ (.int .i64 0)).setCell ⟨w.heap.size + 1, 4, none⟩ (.int .i64 0)).setCell ⟨w.heap.size + 1, 5, none⟩ (.int .i64 0)).setCell ⟨w.heap.size + 1, 6, none⟩ (.int .i64 0)).setCell ⟨w.heap.size + 1, 7, none⟩ (.int .i64 0)) := below_store8 hbel2 (Nat.le_succ _) _ _ _ _ _ _ _ _
  obtain ⟨z0, z1, z2, z3, z4, z5, z6, z7⟩ := Z2.out.all
  have zf := Z2.out.free
  simp only [zer] at z0 z1 z2 z3 z4 z5 z6 z7
  go_wp2
  generalize ((((((((w2.setCell ⟨w.heap.size + 1, 0, none⟩ (.int .i64 0)).setCell ⟨w.heap.size + 1, 1, none⟩ (.int .i64 0)).setCell ⟨w.heap.size + 1, 2, none⟩ (.int .i64 0)).setCell ⟨w.heap.size + 1, 3, none⟩ (.int .i64 0)).setCell ⟨w.heap.size + 1, 4, none⟩ (.int .i64 0)).setCell ⟨w.heap.size + 1, 5, none⟩ (.int .i64 0)).setCell ⟨w.heap.size + 1, 6, none⟩ (.int .i64 0)).setCell ⟨w.heap.size + 1, 7, none⟩ (.int .i64 0)) = W9 at *
  have d9 := Hr.out.all
  obtain ⟨d0, d1, d2, d3, d4, d5, d6, d7⟩ := d9
  exact bodyPost_ret (v := .tuple #[arrOf zer, .int .i64 (0), .int .i64 9]) (by simp [results, Tryz.results95, go_sem, d0, d1, d2, d3, d4, d5, d6, d7, arrOf]) rfl ⟨rfl, hbel9⟩

set_option maxHeartbeats 1000000 in
/-- Fix, where the line is clean. -/
theorem fix_clean (l : W8) (c : Int) (w : World) (hv : validB l c = true) (hT : TabIn w) (hr : (chk l c).1 = 0) :
    Calls Tryz.prog 95 #[(.agg #[.int .i64 l.a0, .int .i64 l.a1, .int .i64 l.a2, .int .i64 l.a3, .int .i64 l.a4, .int .i64 l.a5, .int .i64 l.a6, .int .i64 l.a7]), .int .i64 c] w (RetB (.tuple #[arrOf l, .int .i64 c, .int .i64 0]) w) := by
  have hval := fun W => valid_l l c W
  have hchk := fun W hT => Check_any l c W hT
  rw [hv] at hval
  clear hv
  have HT := Lib.hid hT
  have Hchk := Lib.hid hchk
  clear hT hchk
  generalize chk l c = r at *
  obtain ⟨r0, r1, r2⟩ := r
  simp only at hr Hchk
  subst hr
  have Hl := Lib.hid ((BoxL.new w l.a0 l.a1 l.a2 l.a3 l.a4 l.a5 l.a6 l.a7).alloc (.cells #[.int .i64 0, .int .i64 0, .int .i64 0, .int .i64 0, .int .i64 0, .int .i64 0, .int .i64 0, .int .i64 0] 80))
  have Hz : Hid (BoxL ((w.alloc (.cells #[.int .i64 l.a0, .int .i64 l.a1, .int .i64 l.a2, .int .i64 l.a3, .int .i64 l.a4, .int .i64 l.a5, .int .i64 l.a6, .int .i64 l.a7] 80)).alloc (.cells #[.int .i64 0, .int .i64 0, .int .i64 0, .int .i64 0, .int .i64 0, .int .i64 0, .int .i64 0, .int .i64 0] 80)) (w.heap.size + 1) zer) := Lib.hid (by have := BoxL.new (w.alloc (.cells #[.int .i64 l.a0, .int .i64 l.a1, .int .i64 l.a2, .int .i64 l.a3, .int .i64 l.a4, .int .i64 l.a5, .int .i64 l.a6, .int .i64 l.a7] 80)) 0 0 0 0 0 0 0 0; simpa [zer] using this)
  have hbel := ((Below.refl w.heap.size w).alloc (Nat.le_refl _) (.cells #[.int .i64 l.a0, .int .i64 l.a1, .int .i64 l.a2, .int .i64 l.a3, .int .i64 l.a4, .int .i64 l.a5, .int .i64 l.a6, .int .i64 l.a7] 80)).alloc (by simp) (.cells #[.int .i64 0, .int .i64 0, .int .i64 0, .int .i64 0, .int .i64 0, .int .i64 0, .int .i64 0, .int .i64 0] 80)
  go_enter Tryz.func95, Tryz.ntmps95
  go_wp2_with fail
  generalize (w.alloc (.cells #[.int .i64 l.a0, .int .i64 l.a1, .int .i64 l.a2, .int .i64 l.a3, .int .i64 l.a4, .int .i64 l.a5, .int .i64 l.a6, .int .i64 l.a7] 80)).alloc (.cells #[.int .i64 0, .int .i64 0, .int .i64 0, .int .i64 0, .int .i64 0, .int .i64 0, .int .i64 0, .int .i64 0] 80) = W at *
  refine (hval _).mono ?_
  rintro e w1 ⟨rfl, hb1⟩
  have H1 := Lib.hid (Hl.out.below hb1)
  have Z1 := Lib.hid (Hz.out.below hb1)
  have hbel1 := hbel.trans (hb1.mono hbel.size)
  clear hb1
  obtain ⟨c0, c1, c2, c3, c4, c5, c6, c7⟩ := H1.out.all
  go_wp2_with fail
  refine (Hchk.out _ (HT.out.below hbel1)).mono ?_
  rintro e w2 ⟨rfl, hb2⟩
  have H2 := Lib.hid (H1.out.below hb2)
  have Z2 := Lib.hid (Z1.out.below hb2)
  have hbel2 := hbel1.trans (hb2.mono hbel1.size)
  clear hb2 c0 c1 c2 c3 c4 c5 c6 c7
  have Hr : Hid (BoxL ((((((((w2.setCell ⟨w.heap.size + 1, 0, none⟩ (.int .i64 l.a0)).setCell ⟨w.heap.size + 1, 1, none⟩ (.int .i64 l.a1)).setCell ⟨w.heap.size + 1, 2, none⟩ (.int .i64 l.a2)).setCell ⟨w.heap.size + 1, 3, none⟩ (.int .i64 l.a3)).setCell ⟨w.heap.size + 1, 4, none⟩ (.int .i64 l.a4)).setCell ⟨w.heap.size + 1, 5, none⟩ (.int .i64 l.a5)).setCell ⟨w.heap.size + 1, 6, none⟩ (.int .i64 l.a6)).setCell ⟨w.heap.size + 1, 7, none⟩ (.int .i64 l.a7)) (w.heap.size + 1) l) := Lib.hid (Z2.out.store8 l)
  have hbel9 : Below w.heap.size w ((((((((w2.setCell ⟨w.heap.size + 1, 0, none⟩ (.int .i64 l.a0)).setCell ⟨w.heap.size + 1, 1, none⟩ (.int .i64 l.a1)).setCell ⟨w.heap.size + 1, 2, none⟩ (.int .i64 l.a2)).setCell ⟨w.heap.size + 1, 3, none⟩ (.int .i64 l.a3)).setCell ⟨w.heap.size + 1, 4, none⟩ (.int .i64 l.a4)).setCell ⟨w.heap.size + 1, 5, none⟩ (.int .i64 l.a5)).setCell ⟨w.heap.size + 1, 6, none⟩ (.int .i64 l.a6)).setCell ⟨w.heap.size + 1, 7, none⟩ (.int .i64 l.a7)) := below_store8 hbel2 (Nat.le_succ _) _ _ _ _ _ _ _ _
  obtain ⟨z0, z1, z2, z3, z4, z5, z6, z7⟩ := Z2.out.all
  have zf := Z2.out.free
  simp only [zer] at z0 z1 z2 z3 z4 z5 z6 z7
  obtain ⟨c0, c1, c2, c3, c4, c5, c6, c7⟩ := H2.out.all
  go_wp2
  generalize ((((((((w2.setCell ⟨w.heap.size + 1, 0, none⟩ (.int .i64 l.a0)).setCell ⟨w.heap.size + 1, 1, none⟩ (.int .i64 l.a1)).setCell ⟨w.heap.size + 1, 2, none⟩ (.int .i64 l.a2)).setCell ⟨w.heap.size + 1, 3, none⟩ (.int .i64 l.a3)).setCell ⟨w.heap.size + 1, 4, none⟩ (.int .i64 l.a4)).setCell ⟨w.heap.size + 1, 5, none⟩ (.int .i64 l.a5)).setCell ⟨w.heap.size + 1, 6, none⟩ (.int .i64 l.a6)).setCell ⟨w.heap.size + 1, 7, none⟩ (.int .i64 l.a7)) = W9 at *
  have d9 := Hr.out.all
  obtain ⟨d0, d1, d2, d3, d4, d5, d6, d7⟩ := d9
  exact bodyPost_ret (v := .tuple #[arrOf l, .int .i64 (c), .int .i64 0]) (by simp [results, Tryz.results95, go_sem, d0, d1, d2, d3, d4, d5, d6, d7, arrOf]) rfl ⟨rfl, hbel9⟩

set_option maxHeartbeats 2000000 in
/-- Fix, where one bit is inverted. -/
theorem fix_one (l : W8) (c : Int) (w : World) (hv : validB l c = true) (hT : TabIn w) (hr : (chk l c).1 = 1) :
    Calls Tryz.prog 95 #[(.agg #[.int .i64 l.a0, .int .i64 l.a1, .int .i64 l.a2, .int .i64 l.a3, .int .i64 l.a4, .int .i64 l.a5, .int .i64 l.a6, .int .i64 l.a7]), .int .i64 c] w (RetB (.tuple #[arrOf (flpL l (chk l c).2.1 (chk l c).2.2), .int .i64 (flpC c (chk l c).2.1 (chk l c).2.2), .int .i64 0]) w) := by
  have hval := fun W => valid_l l c W
  have hchk := fun W hT => Check_any l c W hT
  rw [hv] at hval
  clear hv
  have HT := Lib.hid hT
  have Hchk := Lib.hid hchk
  clear hT hchk
  generalize chk l c = r at *
  obtain ⟨r0, r1, r2⟩ := r
  simp only at hr Hchk
  subst hr
  have Hl := Lib.hid ((BoxL.new w l.a0 l.a1 l.a2 l.a3 l.a4 l.a5 l.a6 l.a7).alloc (.cells #[.int .i64 0, .int .i64 0, .int .i64 0, .int .i64 0, .int .i64 0, .int .i64 0, .int .i64 0, .int .i64 0] 80))
  have Hz : Hid (BoxL ((w.alloc (.cells #[.int .i64 l.a0, .int .i64 l.a1, .int .i64 l.a2, .int .i64 l.a3, .int .i64 l.a4, .int .i64 l.a5, .int .i64 l.a6, .int .i64 l.a7] 80)).alloc (.cells #[.int .i64 0, .int .i64 0, .int .i64 0, .int .i64 0, .int .i64 0, .int .i64 0, .int .i64 0, .int .i64 0] 80)) (w.heap.size + 1) zer) := Lib.hid (by have := BoxL.new (w.alloc (.cells #[.int .i64 l.a0, .int .i64 l.a1, .int .i64 l.a2, .int .i64 l.a3, .int .i64 l.a4, .int .i64 l.a5, .int .i64 l.a6, .int .i64 l.a7] 80)) 0 0 0 0 0 0 0 0; simpa [zer] using this)
  have hbel := ((Below.refl w.heap.size w).alloc (Nat.le_refl _) (.cells #[.int .i64 l.a0, .int .i64 l.a1, .int .i64 l.a2, .int .i64 l.a3, .int .i64 l.a4, .int .i64 l.a5, .int .i64 l.a6, .int .i64 l.a7] 80)).alloc (by simp) (.cells #[.int .i64 0, .int .i64 0, .int .i64 0, .int .i64 0, .int .i64 0, .int .i64 0, .int .i64 0, .int .i64 0] 80)
  go_enter Tryz.func95, Tryz.ntmps95
  go_wp2_with fail
  generalize (w.alloc (.cells #[.int .i64 l.a0, .int .i64 l.a1, .int .i64 l.a2, .int .i64 l.a3, .int .i64 l.a4, .int .i64 l.a5, .int .i64 l.a6, .int .i64 l.a7] 80)).alloc (.cells #[.int .i64 0, .int .i64 0, .int .i64 0, .int .i64 0, .int .i64 0, .int .i64 0, .int .i64 0, .int .i64 0] 80) = W at *
  refine (hval _).mono ?_
  rintro e w1 ⟨rfl, hb1⟩
  have H1 := Lib.hid (Hl.out.below hb1)
  have Z1 := Lib.hid (Hz.out.below hb1)
  have hbel1 := hbel.trans (hb1.mono hbel.size)
  clear hb1
  obtain ⟨c0, c1, c2, c3, c4, c5, c6, c7⟩ := H1.out.all
  go_wp2_with fail
  refine (Hchk.out _ (HT.out.below hbel1)).mono ?_
  rintro e w2 ⟨rfl, hb2⟩
  have H2 := Lib.hid (H1.out.below hb2)
  have Z2 := Lib.hid (Z1.out.below hb2)
  have hbel2 := hbel1.trans (hb2.mono hbel1.size)
  clear hb2 c0 c1 c2 c3 c4 c5 c6 c7
  obtain ⟨c0, c1, c2, c3, c4, c5, c6, c7⟩ := H2.out.all
  have hfl := fun W => Flip_l l c r1 r2 W
  simp only
  generalize flpL l r1 r2 = m at *
  generalize flpC c r1 r2 = k at *
  unfold arrOf at hfl
  go_wp2_with fail
  refine (hfl _).mono ?_
  rintro e w3 ⟨rfl, hb3⟩
  have H3 := Lib.hid (H2.out.below hb3)
  have Z3 := Lib.hid (Z2.out.below hb3)
  have hbel3 := hbel2.trans (hb3.mono hbel2.size)
  clear hb3 c0 c1 c2 c3 c4 c5 c6 c7
  have Z4 : Hid (BoxL ((((((((w3.setCell ⟨w.heap.size, 0, none⟩ (.int .i64 m.a0)).setCell ⟨w.heap.size, 1, none⟩ (.int .i64 m.a1)).setCell ⟨w.heap.size, 2, none⟩ (.int .i64 m.a2)).setCell ⟨w.heap.size, 3, none⟩ (.int .i64 m.a3)).setCell ⟨w.heap.size, 4, none⟩ (.int .i64 m.a4)).setCell ⟨w.heap.size, 5, none⟩ (.int .i64 m.a5)).setCell ⟨w.heap.size, 6, none⟩ (.int .i64 m.a6)).setCell ⟨w.heap.size, 7, none⟩ (.int .i64 m.a7)) (w.heap.size + 1) zer) := Lib.hid (BoxL.store8_other Z3.out (by omega) _ _ _ _ _ _ _ _)
  have H4 : Hid (BoxL ((((((((w3.setCell ⟨w.heap.size, 0, none⟩ (.int .i64 m.a0)).setCell ⟨w.heap.size, 1, none⟩ (.int .i64 m.a1)).setCell ⟨w.heap.size, 2, none⟩ (.int .i64 m.a2)).setCell ⟨w.heap.size, 3, none⟩ (.int .i64 m.a3)).setCell ⟨w.heap.size, 4, none⟩ (.int .i64 m.a4)).setCell ⟨w.heap.size, 5, none⟩ (.int .i64 m.a5)).setCell ⟨w.heap.size, 6, none⟩ (.int .i64 m.a6)).setCell ⟨w.heap.size, 7, none⟩ (.int .i64 m.a7)) w.heap.size m) := Lib.hid (H3.out.store8 m)
  have hbel4 : Below w.heap.size w ((((((((w3.setCell ⟨w.heap.size, 0, none⟩ (.int .i64 m.a0)).setCell ⟨w.heap.size, 1, none⟩ (.int .i64 m.a1)).setCell ⟨w.heap.size, 2, none⟩ (.int .i64 m.a2)).setCell ⟨w.heap.size, 3, none⟩ (.int .i64 m.a3)).setCell ⟨w.heap.size, 4, none⟩ (.int .i64 m.a4)).setCell ⟨w.heap.size, 5, none⟩ (.int .i64 m.a5)).setCell ⟨w.heap.size, 6, none⟩ (.int .i64 m.a6)).setCell ⟨w.heap.size, 7, none⟩ (.int .i64 m.a7)) := below_store8 hbel3 (Nat.le_refl _) _ _ _ _ _ _ _ _
  obtain ⟨c0, c1, c2, c3, c4, c5, c6, c7⟩ := H3.out.all
  have hf := H3.out.free
  go_upto_region 9 with (fail)
  generalize ((((((((w3.setCell ⟨w.heap.size, 0, none⟩ (.int .i64 m.a0)).setCell ⟨w.heap.size, 1, none⟩ (.int .i64 m.a1)).setCell ⟨w.heap.size, 2, none⟩ (.int .i64 m.a2)).setCell ⟨w.heap.size, 3, none⟩ (.int .i64 m.a3)).setCell ⟨w.heap.size, 4, none⟩ (.int .i64 m.a4)).setCell ⟨w.heap.size, 5, none⟩ (.int .i64 m.a5)).setCell ⟨w.heap.size, 6, none⟩ (.int .i64 m.a6)).setCell ⟨w.heap.size, 7, none⟩ (.int .i64 m.a7)) = W4 at *
  clear c0 c1 c2 c3 c4 c5 c6 c7 hf
  obtain ⟨c0, c1, c2, c3, c4, c5, c6, c7⟩ := H4.out.all
  have Hr : Hid (BoxL ((((((((W4.setCell ⟨w.heap.size + 1, 0, none⟩ (.int .i64 m.a0)).setCell ⟨w.heap.size + 1, 1, none⟩ (.int .i64 m.a1)).setCell ⟨w.heap.size + 1, 2, none⟩ (.int .i64 m.a2)).setCell ⟨w.heap.size + 1, 3, none⟩ (.int .i64 m.a3)).setCell ⟨w.heap.size + 1, 4, none⟩ (.int .i64 m.a4)).setCell ⟨w.heap.size + 1, 5, none⟩ (.int .i64 m.a5)).setCell ⟨w.heap.size + 1, 6, none⟩ (.int .i64 m.a6)).setCell ⟨w.heap.size + 1, 7, none⟩ (.int .i64 m.a7)) (w.heap.size + 1) m) := Lib.hid (Z4.out.store8 m)
  have hbel9 : Below w.heap.size w ((((((((W4.setCell ⟨w.heap.size + 1, 0, none⟩ (.int .i64 m.a0)).setCell ⟨w.heap.size + 1, 1, none⟩ (.int .i64 m.a1)).setCell ⟨w.heap.size + 1, 2, none⟩ (.int .i64 m.a2)).setCell ⟨w.heap.size + 1, 3, none⟩ (.int .i64 m.a3)).setCell ⟨w.heap.size + 1, 4, none⟩ (.int .i64 m.a4)).setCell ⟨w.heap.size + 1, 5, none⟩ (.int .i64 m.a5)).setCell ⟨w.heap.size + 1, 6, none⟩ (.int .i64 m.a6)).setCell ⟨w.heap.size + 1, 7, none⟩ (.int .i64 m.a7)) := below_store8 hbel4 (Nat.le_succ _) _ _ _ _ _ _ _ _
  obtain ⟨z0, z1, z2, z3, z4, z5, z6, z7⟩ := Z4.out.all
  have zf := Z4.out.free
  simp only [zer] at z0 z1 z2 z3 z4 z5 z6 z7
  go_wp2
  generalize ((((((((W4.setCell ⟨w.heap.size + 1, 0, none⟩ (.int .i64 m.a0)).setCell ⟨w.heap.size + 1, 1, none⟩ (.int .i64 m.a1)).setCell ⟨w.heap.size + 1, 2, none⟩ (.int .i64 m.a2)).setCell ⟨w.heap.size + 1, 3, none⟩ (.int .i64 m.a3)).setCell ⟨w.heap.size + 1, 4, none⟩ (.int .i64 m.a4)).setCell ⟨w.heap.size + 1, 5, none⟩ (.int .i64 m.a5)).setCell ⟨w.heap.size + 1, 6, none⟩ (.int .i64 m.a6)).setCell ⟨w.heap.size + 1, 7, none⟩ (.int .i64 m.a7)) = W9 at *
  have d9 := Hr.out.all
  obtain ⟨d0, d1, d2, d3, d4, d5, d6, d7⟩ := d9
  exact bodyPost_ret (v := .tuple #[arrOf m, .int .i64 (k), .int .i64 0]) (by simp [results, Tryz.results95, go_sem, d0, d1, d2, d3, d4, d5, d6, d7, arrOf]) rfl ⟨rfl, hbel9⟩

end Go.Proofs.YtlolaieolgmdnaaGreatDoor
