/-
  The walk of CodeCorrectsOne: it returns true.
-/
import Derived.Test.YtmhllnnchhcamaaDoorLawZ
namespace Go.Proofs.YtmhllnnchhcamaaDoor
open Go.RowKit Go.Sort

set_option maxRecDepth 100000 in
set_option maxHeartbeats 4000000 in
theorem corrects_any (l0 : W8) (o : Int) (w : World) (hT : TabIn w) (h0 : 0 ≤ o) (h1 : o ≤ 65535) :
    Calls Tryd.prog 5 #[(.agg #[.int .i64 l0.a0, .int .i64 l0.a1, .int .i64 l0.a2, .int .i64 l0.a3, .int .i64 l0.a4, .int .i64 l0.a5, .int .i64 l0.a6, .int .i64 l0.a7]), .int .u16 o] w (RetB (.bool true) w) := by
  have HT := Lib.hid hT
  clear hT
  have hm := made_valid l0
  have Hmade := Lib.hid (fun W => Made_l l0 W)
  generalize made l0 = l at *
  have hve := valid_enc l hm
  have hlt := encN_lt l
  obtain ⟨i, hi, hw, hb⟩ := bit_I o
  obtain ⟨o1, o2, o3⟩ := one_bit l i hve hi
  have Hbit := Lib.hid (fun W => Bit_any o W h0 h1)
  have Henc := Lib.hid (fun W hT => encode_l l W hT)
  have Hflip := Lib.hid (fun W => Flip_l l (encN l) (wI i) (bI i) W)
  have Hfix := Lib.hid (fun W hT => Fix_any (flL l i) (flC (encN l) i : Nat) W hT)
  have Hdist := Lib.hid (fun W => Distance_any l (flL l i) (encN l) (flC (encN l) i : Nat) W)
  have Hckd := Lib.hid (fun W hT => checked_any (flL l i) (flC (encN l) i : Nat) W hT)
  rw [hw, hb] at Hbit
  rw [enc_is l hm] at Henc
  rw [flC_is _ i hlt hi, show flpL l (wI i) (bI i) = flL l i from rfl] at Hflip
  rw [o3] at Hfix
  rw [o1] at Hdist
  rw [o2] at Hckd
  unfold arrOf at Hfix Hflip
  simp only at Hfix Hckd
  generalize flL l i = v at *
  generalize flC (encN l) i = d at *
  generalize encN l = e at *
  generalize wI i = wi at *
  generalize bI i = bi at *
  have heq := fun w => eq8 l l w
  rw [eqL_refl] at heq
  clear hve hm hw hb o1 o2 o3
  go_enter Tryd.func5, Tryd.ntmps5
  go_wp2_with fail
  have hbel0 := (Below.refl w.heap.size w).alloc (Nat.le_refl _) (.cells #[.int .i64 l0.a0, .int .i64 l0.a1, .int .i64 l0.a2, .int .i64 l0.a3, .int .i64 l0.a4, .int .i64 l0.a5, .int .i64 l0.a6, .int .i64 l0.a7] 22)
  have BP0 : Hid (BoxL (w.alloc (.cells #[.int .i64 l0.a0, .int .i64 l0.a1, .int .i64 l0.a2, .int .i64 l0.a3, .int .i64 l0.a4, .int .i64 l0.a5, .int .i64 l0.a6, .int .i64 l0.a7] 22)) w.heap.size l0) := Lib.hid (BoxL.new w l0.a0 l0.a1 l0.a2 l0.a3 l0.a4 l0.a5 l0.a6 l0.a7)
  generalize w.alloc (.cells #[.int .i64 l0.a0, .int .i64 l0.a1, .int .i64 l0.a2, .int .i64 l0.a3, .int .i64 l0.a4, .int .i64 l0.a5, .int .i64 l0.a6, .int .i64 l0.a7] 22) = w0 at *
  refine (Hmade.out _).mono ?_
  rintro e1 w1 ⟨rfl, hb1⟩
  have BP1 := Lib.hid (BP0.out.below hb1)
  have hbel1 := hbel0.trans (hb1.mono hbel0.size)
  clear hb1 hbel0 BP0
  go_upto_region 2 with (fail)
  have BP2 := Lib.hid (BP1.out.alloc (.cells #[.int .i64 l.a0, .int .i64 l.a1, .int .i64 l.a2, .int .i64 l.a3, .int .i64 l.a4, .int .i64 l.a5, .int .i64 l.a6, .int .i64 l.a7] 22))
  have BW2 : Hid (BoxL (w1.alloc (.cells #[.int .i64 l.a0, .int .i64 l.a1, .int .i64 l.a2, .int .i64 l.a3, .int .i64 l.a4, .int .i64 l.a5, .int .i64 l.a6, .int .i64 l.a7] 22)) w1.heap.size l) := Lib.hid (BoxL.new w1 l.a0 l.a1 l.a2 l.a3 l.a4 l.a5 l.a6 l.a7)
  have hbel2 := hbel1.alloc hbel1.size (.cells #[.int .i64 l.a0, .int .i64 l.a1, .int .i64 l.a2, .int .i64 l.a3, .int .i64 l.a4, .int .i64 l.a5, .int .i64 l.a6, .int .i64 l.a7] 22)
  clear hbel1 BP1
  generalize w1.alloc (.cells #[.int .i64 l.a0, .int .i64 l.a1, .int .i64 l.a2, .int .i64 l.a3, .int .i64 l.a4, .int .i64 l.a5, .int .i64 l.a6, .int .i64 l.a7] 22) = w2 at *
  generalize w1.heap.size = bW at *
  obtain ⟨cW0, cW1, cW2, cW3, cW4, cW5, cW6, cW7⟩ := BW2.out.all
  go_wp2_with fail
  refine (Henc.out _ (HT.out.below hbel2)).mono ?_
  rintro e3 w3 ⟨rfl, hb3⟩
  have BP3 := Lib.hid (BP2.out.below hb3)
  have BW3 := Lib.hid (BW2.out.below hb3)
  have hbel3 := hbel2.trans (hb3.mono hbel2.size)
  clear hb3 hbel2 BP2 BW2
  clear cW0 cW1 cW2 cW3 cW4 cW5 cW6 cW7
  go_wp2_with fail
  refine (Hbit.out _).mono ?_
  rintro e4 w' ⟨rfl, rfl⟩
  obtain ⟨cW0, cW1, cW2, cW3, cW4, cW5, cW6, cW7⟩ := BW3.out.all
  go_wp2_with fail
  refine (Hflip.out _).mono ?_
  rintro e4 w4 ⟨rfl, hb4⟩
  have BP4 := Lib.hid (BP3.out.below hb4)
  have BW4 := Lib.hid (BW3.out.below hb4)
  have hbel4 := hbel3.trans (hb4.mono hbel3.size)
  clear hb4 hbel3 BP3 BW3
  clear cW0 cW1 cW2 cW3 cW4 cW5 cW6 cW7
  go_upto_region 5 with (fail)
  have BP5 := Lib.hid (BP4.out.alloc (.cells #[.int .i64 v.a0, .int .i64 v.a1, .int .i64 v.a2, .int .i64 v.a3, .int .i64 v.a4, .int .i64 v.a5, .int .i64 v.a6, .int .i64 v.a7] 22))
  have BW5 := Lib.hid (BW4.out.alloc (.cells #[.int .i64 v.a0, .int .i64 v.a1, .int .i64 v.a2, .int .i64 v.a3, .int .i64 v.a4, .int .i64 v.a5, .int .i64 v.a6, .int .i64 v.a7] 22))
  have BV5 : Hid (BoxL (w4.alloc (.cells #[.int .i64 v.a0, .int .i64 v.a1, .int .i64 v.a2, .int .i64 v.a3, .int .i64 v.a4, .int .i64 v.a5, .int .i64 v.a6, .int .i64 v.a7] 22)) w4.heap.size v) := Lib.hid (BoxL.new w4 v.a0 v.a1 v.a2 v.a3 v.a4 v.a5 v.a6 v.a7)
  have hbel5 := hbel4.alloc hbel4.size (.cells #[.int .i64 v.a0, .int .i64 v.a1, .int .i64 v.a2, .int .i64 v.a3, .int .i64 v.a4, .int .i64 v.a5, .int .i64 v.a6, .int .i64 v.a7] 22)
  clear hbel4 BP4 BW4
  generalize w4.alloc (.cells #[.int .i64 v.a0, .int .i64 v.a1, .int .i64 v.a2, .int .i64 v.a3, .int .i64 v.a4, .int .i64 v.a5, .int .i64 v.a6, .int .i64 v.a7] 22) = w5 at *
  generalize w4.heap.size = bV at *
  obtain ⟨cV0, cV1, cV2, cV3, cV4, cV5, cV6, cV7⟩ := BV5.out.all
  go_wp2_with fail
  refine (Hfix.out _ (HT.out.below hbel5)).mono ?_
  rintro e6 w6 ⟨rfl, hb6⟩
  have BP6 := Lib.hid (BP5.out.below hb6)
  have BW6 := Lib.hid (BW5.out.below hb6)
  have BV6 := Lib.hid (BV5.out.below hb6)
  have hbel6 := hbel5.trans (hb6.mono hbel5.size)
  clear hb6 hbel5 BP5 BW5 BV5
  clear cV0 cV1 cV2 cV3 cV4 cV5 cV6 cV7
  go_upto_region 6 with (fail)
  have BP7 := Lib.hid (BP6.out.alloc (.cells #[.int .i64 l.a0, .int .i64 l.a1, .int .i64 l.a2, .int .i64 l.a3, .int .i64 l.a4, .int .i64 l.a5, .int .i64 l.a6, .int .i64 l.a7] 22))
  have BW7 := Lib.hid (BW6.out.alloc (.cells #[.int .i64 l.a0, .int .i64 l.a1, .int .i64 l.a2, .int .i64 l.a3, .int .i64 l.a4, .int .i64 l.a5, .int .i64 l.a6, .int .i64 l.a7] 22))
  have BV7 := Lib.hid (BV6.out.alloc (.cells #[.int .i64 l.a0, .int .i64 l.a1, .int .i64 l.a2, .int .i64 l.a3, .int .i64 l.a4, .int .i64 l.a5, .int .i64 l.a6, .int .i64 l.a7] 22))
  have BX7 : Hid (BoxL (w6.alloc (.cells #[.int .i64 l.a0, .int .i64 l.a1, .int .i64 l.a2, .int .i64 l.a3, .int .i64 l.a4, .int .i64 l.a5, .int .i64 l.a6, .int .i64 l.a7] 22)) w6.heap.size l) := Lib.hid (BoxL.new w6 l.a0 l.a1 l.a2 l.a3 l.a4 l.a5 l.a6 l.a7)
  have hbel7 := hbel6.alloc hbel6.size (.cells #[.int .i64 l.a0, .int .i64 l.a1, .int .i64 l.a2, .int .i64 l.a3, .int .i64 l.a4, .int .i64 l.a5, .int .i64 l.a6, .int .i64 l.a7] 22)
  clear hbel6 BP6 BW6 BV6
  generalize w6.alloc (.cells #[.int .i64 l.a0, .int .i64 l.a1, .int .i64 l.a2, .int .i64 l.a3, .int .i64 l.a4, .int .i64 l.a5, .int .i64 l.a6, .int .i64 l.a7] 22) = w7 at *
  generalize w6.heap.size = bX at *
  go_wp2_with fail
  refine (sanity_any _ (HT.out.below hbel7)).mono ?_
  rintro e8 w8 ⟨rfl, hb8⟩
  have BP8 := Lib.hid (BP7.out.below hb8)
  have BW8 := Lib.hid (BW7.out.below hb8)
  have BV8 := Lib.hid (BV7.out.below hb8)
  have BX8 := Lib.hid (BX7.out.below hb8)
  have hbel8 := hbel7.trans (hb8.mono hbel7.size)
  clear hb8 hbel7 BP7 BW7 BV7 BX7
  obtain ⟨cW0, cW1, cW2, cW3, cW4, cW5, cW6, cW7⟩ := BW8.out.all
  obtain ⟨cV0, cV1, cV2, cV3, cV4, cV5, cV6, cV7⟩ := BV8.out.all
  go_wp2_with fail
  refine (Hdist.out _).mono ?_
  rintro e9 w9 ⟨rfl, hb9⟩
  have BP9 := Lib.hid (BP8.out.below hb9)
  have BW9 := Lib.hid (BW8.out.below hb9)
  have BV9 := Lib.hid (BV8.out.below hb9)
  have BX9 := Lib.hid (BX8.out.below hb9)
  have hbel9 := hbel8.trans (hb9.mono hbel8.size)
  clear hb9 hbel8 BP8 BW8 BV8 BX8
  clear cW0 cW1 cW2 cW3 cW4 cW5 cW6 cW7 cV0 cV1 cV2 cV3 cV4 cV5 cV6 cV7
  obtain ⟨cV0, cV1, cV2, cV3, cV4, cV5, cV6, cV7⟩ := BV9.out.all
  go_wp2_with fail
  refine (Hckd.out _ (HT.out.below hbel9)).mono ?_
  rintro e10 w10 ⟨rfl, hb10⟩
  have BP10 := Lib.hid (BP9.out.below hb10)
  have BW10 := Lib.hid (BW9.out.below hb10)
  have BV10 := Lib.hid (BV9.out.below hb10)
  have BX10 := Lib.hid (BX9.out.below hb10)
  have hbel10 := hbel9.trans (hb10.mono hbel9.size)
  clear hb10 hbel9 BP9 BW9 BV9 BX9
  clear cV0 cV1 cV2 cV3 cV4 cV5 cV6 cV7
  obtain ⟨cW0, cW1, cW2, cW3, cW4, cW5, cW6, cW7⟩ := BW10.out.all
  obtain ⟨cX0, cX1, cX2, cX3, cX4, cX5, cX6, cX7⟩ := BX10.out.all
  go_wp2
  go_ret
  exact ⟨rfl, hbel10⟩

end Go.Proofs.YtmhllnnchhcamaaDoor

