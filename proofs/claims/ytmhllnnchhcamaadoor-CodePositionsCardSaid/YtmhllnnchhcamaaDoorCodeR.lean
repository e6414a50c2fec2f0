/-
  The walk of layer 3's sanity: it returns true.
-/
import Derived.Test.YtmhllnnchhcamaaDoorCodeE8
namespace Go.Proofs.YtmhllnnchhcamaaDoor
open Go.RowKit

theorem encode_l (l : W8) (w : World) (hT : TabIn w) : Calls Tryd.prog 14 #[(.agg #[.int .i64 l.a0, .int .i64 l.a1, .int .i64 l.a2, .int .i64 l.a3, .int .i64 l.a4, .int .i64 l.a5, .int .i64 l.a6, .int .i64 l.a7])] w (RetB (.int .i64 (enc l)) w) := encode_any l.a0 l.a1 l.a2 l.a3 l.a4 l.a5 l.a6 l.a7 w hT

theorem sn1 (W : World) : Calls Tryd.prog 12 #[.int .i64 0, .int .i64 0] W (RetS (.int .i64 3) W) := by have h := Position_any 0 0 W; rwa [show posB 0 0 = 3 from by decide +kernel] at h
theorem sn2 (W : World) : Calls Tryd.prog 12 #[.int .i64 0, .int .i64 1] W (RetS (.int .i64 5) W) := by have h := Position_any 0 1 W; rwa [show posB 0 1 = 5 from by decide +kernel] at h
theorem sn3 (W : World) : Calls Tryd.prog 12 #[.int .i64 0, .int .i64 4] W (RetS (.int .i64 9) W) := by have h := Position_any 0 4 W; rwa [show posB 0 4 = 9 from by decide +kernel] at h
theorem sn4 (W : World) : Calls Tryd.prog 12 #[.int .i64 7, .int .i64 39] W (RetS (.int .i64 329) W) := by have h := Position_any 7 39 W; rwa [show posB 7 39 = 329 from by decide +kernel] at h
theorem sn5 (W : World) : Calls Tryd.prog 12 #[.int .i64 8, .int .i64 3] W (RetS (.int .i64 8) W) := by have h := Position_any 8 3 W; rwa [show posB 8 3 = 8 from by decide +kernel] at h
theorem sn6 (W : World) : Calls Tryd.prog 12 #[.int .i64 8, .int .i64 9] W (RetS (.int .i64 0) W) := by have h := Position_any 8 9 W; rwa [show posB 8 9 = 0 from by decide +kernel] at h
theorem sn7 (W : World) (hT : TabIn W) : Calls Tryd.prog 14 #[.agg #[.int .i64 0, .int .i64 0, .int .i64 0, .int .i64 0, .int .i64 0, .int .i64 0, .int .i64 0, .int .i64 0]] W (RetB (.int .i64 0) W) := by have h := encode_l ⟨0, 0, 0, 0, 0, 0, 0, 0⟩ W hT; rwa [show enc ⟨0, 0, 0, 0, 0, 0, 0, 0⟩ = 0 from by decide +kernel] at h
theorem sn8 (W : World) (hT : TabIn W) : Calls Tryd.prog 14 #[.agg #[.int .i64 1, .int .i64 0, .int .i64 0, .int .i64 0, .int .i64 0, .int .i64 0, .int .i64 0, .int .i64 0]] W (RetB (.int .i64 515) W) := by have h := encode_l ⟨1, 0, 0, 0, 0, 0, 0, 0⟩ W hT; rwa [show enc ⟨1, 0, 0, 0, 0, 0, 0, 0⟩ = 515 from by decide +kernel] at h
theorem sn9 (W : World) (hT : TabIn W) : Calls Tryd.prog 14 #[.agg #[.int .i64 2, .int .i64 0, .int .i64 0, .int .i64 0, .int .i64 0, .int .i64 0, .int .i64 0, .int .i64 0]] W (RetB (.int .i64 517) W) := by have h := encode_l ⟨2, 0, 0, 0, 0, 0, 0, 0⟩ W hT; rwa [show enc ⟨2, 0, 0, 0, 0, 0, 0, 0⟩ = 517 from by decide +kernel] at h
theorem sn10 (W : World) (hT : TabIn W) : Calls Tryd.prog 14 #[.agg #[.int .i64 3, .int .i64 0, .int .i64 0, .int .i64 0, .int .i64 0, .int .i64 0, .int .i64 0, .int .i64 0]] W (RetB (.int .i64 6) W) := by have h := encode_l ⟨3, 0, 0, 0, 0, 0, 0, 0⟩ W hT; rwa [show enc ⟨3, 0, 0, 0, 0, 0, 0, 0⟩ = 6 from by decide +kernel] at h
theorem sn11 (W : World) (hT : TabIn W) : Calls Tryd.prog 14 #[.agg #[.int .i64 0, .int .i64 0, .int .i64 0, .int .i64 0, .int .i64 0, .int .i64 0, .int .i64 0, .int .i64 549755813888]] W (RetB (.int .i64 841) W) := by have h := encode_l ⟨0, 0, 0, 0, 0, 0, 0, 549755813888⟩ W hT; rwa [show enc ⟨0, 0, 0, 0, 0, 0, 0, 549755813888⟩ = 841 from by decide +kernel] at h
theorem sn12 (W : World) (hT : TabIn W) : Calls Tryd.prog 14 #[.agg #[.int .i64 (-1), .int .i64 0, .int .i64 0, .int .i64 0, .int .i64 0, .int .i64 0, .int .i64 0, .int .i64 0]] W (RetB (.int .i64 (-1)) W) := by have h := encode_l ⟨(-1), 0, 0, 0, 0, 0, 0, 0⟩ W hT; rwa [show enc ⟨(-1), 0, 0, 0, 0, 0, 0, 0⟩ = (-1) from by decide +kernel] at h
theorem sn13 (W : World) (hT : TabIn W) : Calls Tryd.prog 16 #[.agg #[.int .i64 0, .int .i64 0, .int .i64 0, .int .i64 0, .int .i64 0, .int .i64 0, .int .i64 0, .int .i64 0], .int .i64 512] W (RetB (.agg #[.int .i64 1, .int .i64 8, .int .i64 9]) W) := by have h := checked_any ⟨0, 0, 0, 0, 0, 0, 0, 0⟩ 512 W hT; rwa [show chk ⟨0, 0, 0, 0, 0, 0, 0, 0⟩ 512 = (1, 8, 9) from by decide +kernel] at h
theorem sn14 (W : World) (hT : TabIn W) : Calls Tryd.prog 16 #[.agg #[.int .i64 0, .int .i64 0, .int .i64 0, .int .i64 0, .int .i64 0, .int .i64 0, .int .i64 0, .int .i64 0], .int .i64 4] W (RetB (.agg #[.int .i64 1, .int .i64 8, .int .i64 2]) W) := by have h := checked_any ⟨0, 0, 0, 0, 0, 0, 0, 0⟩ 4 W hT; rwa [show chk ⟨0, 0, 0, 0, 0, 0, 0, 0⟩ 4 = (1, 8, 2) from by decide +kernel] at h
theorem sn15 (W : World) (hT : TabIn W) : Calls Tryd.prog 16 #[.agg #[.int .i64 0, .int .i64 0, .int .i64 0, .int .i64 0, .int .i64 0, .int .i64 0, .int .i64 0, .int .i64 0], .int .i64 7] W (RetB (.agg #[.int .i64 1, .int .i64 0, .int .i64 3]) W) := by have h := checked_any ⟨0, 0, 0, 0, 0, 0, 0, 0⟩ 7 W hT; rwa [show chk ⟨0, 0, 0, 0, 0, 0, 0, 0⟩ 7 = (1, 0, 3) from by decide +kernel] at h
theorem sn16 (W : World) (hT : TabIn W) : Calls Tryd.prog 16 #[.agg #[.int .i64 0, .int .i64 0, .int .i64 0, .int .i64 0, .int .i64 0, .int .i64 0, .int .i64 0, .int .i64 0], .int .i64 5] W (RetB (.agg #[.int .i64 2, .int .i64 0, .int .i64 0]) W) := by have h := checked_any ⟨0, 0, 0, 0, 0, 0, 0, 0⟩ 5 W hT; rwa [show chk ⟨0, 0, 0, 0, 0, 0, 0, 0⟩ 5 = (2, 0, 0) from by decide +kernel] at h
theorem sn17 (W : World) (hT : TabIn W) : Calls Tryd.prog 16 #[.agg #[.int .i64 0, .int .i64 0, .int .i64 0, .int .i64 0, .int .i64 0, .int .i64 0, .int .i64 0, .int .i64 0], .int .i64 511] W (RetB (.agg #[.int .i64 2, .int .i64 0, .int .i64 0]) W) := by have h := checked_any ⟨0, 0, 0, 0, 0, 0, 0, 0⟩ 511 W hT; rwa [show chk ⟨0, 0, 0, 0, 0, 0, 0, 0⟩ 511 = (2, 0, 0) from by decide +kernel] at h
theorem sn18 (W : World) (hT : TabIn W) : Calls Tryd.prog 16 #[.agg #[.int .i64 0, .int .i64 0, .int .i64 0, .int .i64 0, .int .i64 0, .int .i64 0, .int .i64 0, .int .i64 0], .int .i64 0] W (RetB (.agg #[.int .i64 0, .int .i64 0, .int .i64 0]) W) := by have h := checked_any ⟨0, 0, 0, 0, 0, 0, 0, 0⟩ 0 W hT; rwa [show chk ⟨0, 0, 0, 0, 0, 0, 0, 0⟩ 0 = (0, 0, 0) from by decide +kernel] at h
theorem sn19 (W : World) (hT : TabIn W) : Calls Tryd.prog 10 #[.agg #[.int .i64 1, .int .i64 0, .int .i64 0, .int .i64 0, .int .i64 0, .int .i64 0, .int .i64 0, .int .i64 0], .int .i64 0] W (RetB (.tuple #[.agg #[.int .i64 0, .int .i64 0, .int .i64 0, .int .i64 0, .int .i64 0, .int .i64 0, .int .i64 0, .int .i64 0], .int .i64 0, .int .i64 0]) W) := by have h := Fix_any ⟨1, 0, 0, 0, 0, 0, 0, 0⟩ 0 W hT; rw [show fix ⟨1, 0, 0, 0, 0, 0, 0, 0⟩ 0 = (zer, 0, 0) from by kernel_rfl] at h; exact h
theorem sn20 (W : World) (hT : TabIn W) : Calls Tryd.prog 10 #[.agg #[.int .i64 0, .int .i64 0, .int .i64 0, .int .i64 0, .int .i64 0, .int .i64 0, .int .i64 0, .int .i64 0], .int .i64 5] W (RetB (.tuple #[.agg #[.int .i64 0, .int .i64 0, .int .i64 0, .int .i64 0, .int .i64 0, .int .i64 0, .int .i64 0, .int .i64 0], .int .i64 0, .int .i64 9]) W) := by have h := Fix_any ⟨0, 0, 0, 0, 0, 0, 0, 0⟩ 5 W hT; rw [show fix ⟨0, 0, 0, 0, 0, 0, 0, 0⟩ 5 = (zer, 0, 9) from by kernel_rfl] at h; exact h
theorem sn21 (W : World) (hT : TabIn W) : Calls Tryd.prog 10 #[.agg #[.int .i64 0, .int .i64 0, .int .i64 0, .int .i64 0, .int .i64 0, .int .i64 0, .int .i64 0, .int .i64 0], .int .i64 1024] W (RetB (.tuple #[.agg #[.int .i64 0, .int .i64 0, .int .i64 0, .int .i64 0, .int .i64 0, .int .i64 0, .int .i64 0, .int .i64 0], .int .i64 0, .int .i64 1]) W) := by have h := Fix_any ⟨0, 0, 0, 0, 0, 0, 0, 0⟩ 1024 W hT; rw [show fix ⟨0, 0, 0, 0, 0, 0, 0, 0⟩ 1024 = (zer, 0, 1) from by kernel_rfl] at h; exact h
theorem sn22 (W : World) : Calls Tryd.prog 18 #[.agg #[.int .i64 3, .int .i64 0, .int .i64 0, .int .i64 0, .int .i64 0, .int .i64 0, .int .i64 0, .int .i64 0], .int .i64 0, .agg #[.int .i64 0, .int .i64 0, .int .i64 0, .int .i64 0, .int .i64 0, .int .i64 0, .int .i64 0, .int .i64 0], .int .i64 4] W (RetB (.int .i64 3) W) := by have h := Distance_any ⟨3, 0, 0, 0, 0, 0, 0, 0⟩ ⟨0, 0, 0, 0, 0, 0, 0, 0⟩ 0 4 W; rwa [show dist ⟨3, 0, 0, 0, 0, 0, 0, 0⟩ 0 ⟨0, 0, 0, 0, 0, 0, 0, 0⟩ 4 = 3 from by decide +kernel] at h

set_option maxRecDepth 100000 in
set_option maxHeartbeats 8000000 in
theorem sanity_any (w : World) (hT : TabIn w) : Calls Tryd.prog 21 #[] w (RetB (.bool true) w) := by
  have HT := Lib.hid hT
  clear hT
  have hbel0 := Below.refl w.heap.size w
  obtain ⟨w0, Hw0⟩ : ∃ w0, Hid (w0 = w) := ⟨w, rfl⟩
  have heq := fun w => eq8 ⟨0, 0, 0, 0, 0, 0, 0, 0⟩ ⟨0, 0, 0, 0, 0, 0, 0, 0⟩ w
  rw [eqL_refl] at heq
  simp only at heq
  go_enter Tryd.func21, Tryd.ntmps21
  go_wp2_with fail
  refine (sn1 _).mono ?_
  rintro e w' ⟨rfl, rfl⟩
  go_wp2_with fail
  refine (sn2 _).mono ?_
  rintro e w' ⟨rfl, rfl⟩
  go_wp2_with fail
  refine (sn3 _).mono ?_
  rintro e w' ⟨rfl, rfl⟩
  go_wp2_with fail
  refine (sn4 _).mono ?_
  rintro e w' ⟨rfl, rfl⟩
  go_wp2_with fail
  refine (sn5 _).mono ?_
  rintro e w' ⟨rfl, rfl⟩
  go_wp2_with fail
  refine (sn6 _).mono ?_
  rintro e w' ⟨rfl, rfl⟩
  go_wp2_with fail
  refine (sn7 _ (HT.out.below hbel0)).mono ?_
  rintro e w1 ⟨rfl, hb1⟩
  have hbel1 := hbel0.trans (hb1.mono hbel0.size)
  clear hb1 hbel0
  go_wp2_with fail
  refine (sn8 _ (HT.out.below hbel1)).mono ?_
  rintro e w2 ⟨rfl, hb2⟩
  have hbel2 := hbel1.trans (hb2.mono hbel1.size)
  clear hb2 hbel1
  go_wp2_with fail
  refine (sn9 _ (HT.out.below hbel2)).mono ?_
  rintro e w3 ⟨rfl, hb3⟩
  have hbel3 := hbel2.trans (hb3.mono hbel2.size)
  clear hb3 hbel2
  go_wp2_with fail
  refine (sn10 _ (HT.out.below hbel3)).mono ?_
  rintro e w4 ⟨rfl, hb4⟩
  have hbel4 := hbel3.trans (hb4.mono hbel3.size)
  clear hb4 hbel3
  go_wp2_with fail
  refine (sn11 _ (HT.out.below hbel4)).mono ?_
  rintro e w5 ⟨rfl, hb5⟩
  have hbel5 := hbel4.trans (hb5.mono hbel4.size)
  clear hb5 hbel4
  go_wp2_with fail
  refine (sn12 _ (HT.out.below hbel5)).mono ?_
  rintro e w6 ⟨rfl, hb6⟩
  have hbel6 := hbel5.trans (hb6.mono hbel5.size)
  clear hb6 hbel5
  go_wp2_with fail
  refine (sn13 _ (HT.out.below hbel6)).mono ?_
  rintro e w7 ⟨rfl, hb7⟩
  have hbel7 := hbel6.trans (hb7.mono hbel6.size)
  clear hb7 hbel6
  go_wp2_with fail
  refine (sn14 _ (HT.out.below hbel7)).mono ?_
  rintro e w8 ⟨rfl, hb8⟩
  have hbel8 := hbel7.trans (hb8.mono hbel7.size)
  clear hb8 hbel7
  go_wp2_with fail
  refine (sn15 _ (HT.out.below hbel8)).mono ?_
  rintro e w9 ⟨rfl, hb9⟩
  have hbel9 := hbel8.trans (hb9.mono hbel8.size)
  clear hb9 hbel8
  go_wp2_with fail
  refine (sn16 _ (HT.out.below hbel9)).mono ?_
  rintro e w10 ⟨rfl, hb10⟩
  have hbel10 := hbel9.trans (hb10.mono hbel9.size)
  clear hb10 hbel9
  go_wp2_with fail
  refine (sn17 _ (HT.out.below hbel10)).mono ?_
  rintro e w11 ⟨rfl, hb11⟩
  have hbel11 := hbel10.trans (hb11.mono hbel10.size)
  clear hb11 hbel10
  go_wp2_with fail
  refine (sn18 _ (HT.out.below hbel11)).mono ?_
  rintro e w12 ⟨rfl, hb12⟩
  have hbel12 := hbel11.trans (hb12.mono hbel11.size)
  clear hb12 hbel11
  go_wp2_with fail
  refine (sn19 _ (HT.out.below hbel12)).mono ?_
  rintro e w13 ⟨rfl, hb13⟩
  have hbel13 := hbel12.trans (hb13.mono hbel12.size)
  clear hb13 hbel12
  go_upto_region 6 with (fail)
  have X14 : Hid (BoxL (w13.alloc (.cells #[.int .i64 0, .int .i64 0, .int .i64 0, .int .i64 0, .int .i64 0, .int .i64 0, .int .i64 0, .int .i64 0] 22)) w13.heap.size ⟨0, 0, 0, 0, 0, 0, 0, 0⟩) := Lib.hid (BoxL.new w13 0 0 0 0 0 0 0 0)
  have hbel14 := hbel13.alloc hbel13.size (.cells #[.int .i64 0, .int .i64 0, .int .i64 0, .int .i64 0, .int .i64 0, .int .i64 0, .int .i64 0, .int .i64 0] 22)
  clear hbel13
  generalize w13.alloc (.cells #[.int .i64 0, .int .i64 0, .int .i64 0, .int .i64 0, .int .i64 0, .int .i64 0, .int .i64 0, .int .i64 0] 22) = w14 at *
  generalize w13.heap.size = b5 at *
  go_wp2_with fail
  refine (sn20 _ (HT.out.below hbel14)).mono ?_
  rintro e w15 ⟨rfl, hb15⟩
  have X15 := Lib.hid (X14.out.below hb15)
  clear X14
  have hbel15 := hbel14.trans (hb15.mono hbel14.size)
  clear hb15 hbel14
  go_upto_region 7 with (fail)
  have X16 := Lib.hid (X15.out.alloc (.cells #[.int .i64 0, .int .i64 0, .int .i64 0, .int .i64 0, .int .i64 0, .int .i64 0, .int .i64 0, .int .i64 0] 22))
  clear X15
  have hbel16 := hbel15.alloc hbel15.size (.cells #[.int .i64 0, .int .i64 0, .int .i64 0, .int .i64 0, .int .i64 0, .int .i64 0, .int .i64 0, .int .i64 0] 22)
  clear hbel15
  generalize w15.alloc (.cells #[.int .i64 0, .int .i64 0, .int .i64 0, .int .i64 0, .int .i64 0, .int .i64 0, .int .i64 0, .int .i64 0] 22) = w16 at *
  go_wp2_with fail
  refine (sn21 _ (HT.out.below hbel16)).mono ?_
  rintro e w17 ⟨rfl, hb17⟩
  have X17 := Lib.hid (X16.out.below hb17)
  clear X16
  have hbel17 := hbel16.trans (hb17.mono hbel16.size)
  clear hb17 hbel16
  go_upto_region 8 with (fail)
  have X18 := Lib.hid (X17.out.alloc (.cells #[.int .i64 0, .int .i64 0, .int .i64 0, .int .i64 0, .int .i64 0, .int .i64 0, .int .i64 0, .int .i64 0] 22))
  clear X17
  have hbel18 := hbel17.alloc hbel17.size (.cells #[.int .i64 0, .int .i64 0, .int .i64 0, .int .i64 0, .int .i64 0, .int .i64 0, .int .i64 0, .int .i64 0] 22)
  clear hbel17
  generalize w17.alloc (.cells #[.int .i64 0, .int .i64 0, .int .i64 0, .int .i64 0, .int .i64 0, .int .i64 0, .int .i64 0, .int .i64 0] 22) = w18 at *
  obtain ⟨c0, c1, c2, c3, c4, c5, c6, c7⟩ := X18.out.all
  simp only at c0 c1 c2 c3 c4 c5 c6 c7
  go_wp2_with fail
  refine (sn22 _).mono ?_
  rintro e w19 ⟨rfl, hb19⟩
  have X19 := Lib.hid (X18.out.below hb19)
  clear X18
  have hbel19 := hbel18.trans (hb19.mono hbel18.size)
  clear hb19 hbel18
  go_wp2
  go_ret
  exact ⟨rfl, hbel19⟩

end Go.Proofs.YtmhllnnchhcamaaDoor
