/-
  The walk of CodeFindsTwo: it returns true.
-/
import Derived.Test.YtmhllnnchhcamaaDoorLawZ
namespace Go.Proofs.YtmhllnnchhcamaaDoor
open Go.RowKit Go.Sort

set_option maxRecDepth 100000 in
set_option maxHeartbeats 8000000 in
theorem finds_any (l0 : W8) (o q : Int) (w : World) (hT : TabIn w) (h0 : 0 ≤ o) (h1 : o ≤ 65535) (h2 : 0 ≤ q) (h3 : q ≤ 65535) :
    Calls Tryd.prog 6 #[(.agg #[.int .i64 l0.a0, .int .i64 l0.a1, .int .i64 l0.a2, .int .i64 l0.a3, .int .i64 l0.a4, .int .i64 l0.a5, .int .i64 l0.a6, .int .i64 l0.a7]), .int .u16 o, .int .u16 q] w (RetB (.bool true) w) := by
  have HT := Lib.hid hT
  clear hT
  have hm := made_valid l0
  have Hmade := Lib.hid (fun W => Made_l l0 W)
  generalize made l0 = l at *
  have hve := valid_enc l hm
  have hlt := encN_lt l
  obtain ⟨i, hi, hw, hb⟩ := bit_I o
  obtain ⟨j, hj, hw2, hb2⟩ := bit_I q
  have Hbit := Lib.hid (fun W => Bit_any o W h0 h1)
  have Hbit2 := Lib.hid (fun W => Bit_any q W h2 h3)
  rw [hw, hb] at Hbit
  rw [hw2, hb2] at Hbit2
  have Henc := Lib.hid (fun W hT => encode_l l W hT)
  rw [enc_is l hm] at Henc
  clear hw hb hw2 hb2
  by_cases hij : i = j
  · subst hij
    clear hve hm
    generalize wI i = wi at *
    generalize bI i = bi at *
    generalize encN l = e at *
    go_enter Tryd.func6, Tryd.ntmps6
    go_wp2_with fail
    have hbel0 := (Below.refl w.heap.size w).alloc (Nat.le_refl _) (.cells #[.int .i64 l0.a0, .int .i64 l0.a1, .int .i64 l0.a2, .int .i64 l0.a3, .int .i64 l0.a4, .int .i64 l0.a5, .int .i64 l0.a6, .int .i64 l0.a7] 22)
    have BP0 : Hid (BoxL (w.alloc (.cells #[.int .i64 l0.a0, .int .i64 l0.a1, .int .i64 l0.a2, .int .i64 l0.a3, .int .i64 l0.a4, .int .i64 l0.a5, .int .i64 l0.a6, .int .i64 l0.a7] 22)) w.heap.size l0) := Lib.hid (BoxL.new w l0.a0 l0.a1 l0.a2 l0.a3 l0.a4 l0.a5 l0.a6 l0.a7)
    generalize w.alloc (.cells #[.int .i64 l0.a0, .int .i64 l0.a1, .int .i64 l0.a2, .int .i64 l0.a3, .int .i64 l0.a4, .int .i64 l0.a5, .int .i64 l0.a6, .int .i64 l0.a7] 22) = w0 at *
    refine (Hmade.out _).mono ?_
    rintro e1 w1 ⟨rfl, hb1⟩
    have BP1 := Lib.hid (BP0.out.below hb1)
    have hbel1 := hbel0.trans (hb1.mono hbel0.size)
    clear hb1 hbel0 BP0
    go_upto_region 2 with (fail)
    have BP2 := Lib.hid (BP1.out.alloc (.cells #[.int .i64 l.a0, .int .i64 l.a1, .int .i64 l.a2, .int .i64 l.a3, .int .i64 l.a4, .int .i64 l.a5, .int .i64 l.a6, .int .i64 l.a7] 22))
    have BW2 : Hid (BoxL (w1.alloc (.cells #[.int .i64 l.a0, .int .i64 l.a1, .int .i64 l.a2, .int .i64 l.a3, .int .i64 l.a4, .int .i64 l.a5, .int .i64 l.a6, .int .i64 l.a7] 22)) w1.heap.size l) := Lib.hid (BoxL.new w1 l.a0 l.a1 l.a2 l.a3 l.a4 l.a5 l.a6 l.a7)
    have hbel2 := hbel1.alloc hbel1.size (.cells #[.int .i64 l.a0, .int .i64 l.a1, .int .i64 l.a2, .int .i64 l.a3, .int .i64 l.a4, .int .i64 l.a5, .int .i64 l.a6, .int .i64 l.a7] 22)
    clear hbel1 BP1
    generalize w1.alloc (.cells #[.int .i64 l.a0, .int .i64 l.a1, .int .i64 l.a2, .int .i64 l.a3, .int .i64 l.a4, .int .i64 l.a5, .int .i64 l.a6, .int .i64 l.a7] 22) = w2 at *
    generalize w1.heap.size = bW at *
    obtain ⟨cW0, cW1, cW2, cW3, cW4, cW5, cW6, cW7⟩ := BW2.out.all
    go_wp2_with fail
    refine (Henc.out _ (HT.out.below hbel2)).mono ?_
    rintro e3 w3 ⟨rfl, hb3⟩
    have BP3 := Lib.hid (BP2.out.below hb3)
    have BW3 := Lib.hid (BW2.out.below hb3)
    have hbel3 := hbel2.trans (hb3.mono hbel2.size)
    clear hb3 hbel2 BP2 BW2
    clear cW0 cW1 cW2 cW3 cW4 cW5 cW6 cW7
    go_wp2_with fail
    refine (Hbit.out _).mono ?_
    rintro e4 w' ⟨rfl, rfl⟩
    go_wp2_with fail
    refine (Hbit2.out _).mono ?_
    rintro e4 w' ⟨rfl, rfl⟩
    go_wp2_with fail
    refine (sanity_any _ (HT.out.below hbel3)).mono ?_
    rintro e4 w4 ⟨rfl, hb4⟩
    have BP4 := Lib.hid (BP3.out.below hb4)
    have BW4 := Lib.hid (BW3.out.below hb4)
    have hbel4 := hbel3.trans (hb4.mono hbel3.size)
    clear hb4 hbel3 BP3 BW3
    go_wp2
    go_ret
    exact ⟨rfl, hbel4⟩
  · obtain ⟨o1, o2, o3⟩ := two_bits l i j hve hi hj hij
    have hbits : ((wI i == wI j) && (bI i == bI j)) = false := by
      rw [Bool.and_eq_false_iff, beq_eq_false_iff_ne, beq_eq_false_iff_ne]
      unfold wI bI
      split <;> split <;> omega
    have Hflip := Lib.hid (fun W => Flip_l l (encN l) (wI i) (bI i) W)
    have Hflip2 := Lib.hid (fun W => Flip_l (flL l i) (flC (encN l) i : Nat) (wI j) (bI j) W)
    have Hfix := Lib.hid (fun W hT => Fix_any (flL (flL l i) j) (flC (flC (encN l) i) j : Nat) W hT)
    have Hdist := Lib.hid (fun W => Distance_any l (flL (flL l i) j) (encN l) (flC (flC (encN l) i) j : Nat) W)
    have Hckd := Lib.hid (fun W hT => checked_any (flL (flL l i) j) (flC (flC (encN l) i) j : Nat) W hT)
    rw [flC_is _ i hlt hi, show flpL l (wI i) (bI i) = flL l i from rfl] at Hflip
    rw [flC_is _ j (flC_lt _ i hlt hi) hj, show flpL (flL l i) (wI j) (bI j) = flL (flL l i) j from rfl] at Hflip2
    rw [o3] at Hfix
    rw [o1] at Hdist
    rw [o2] at Hckd
    unfold arrOf at Hfix Hflip Hflip2
    simp only at Hfix Hckd
    generalize flL (flL l i) j = u at *
    generalize flC (flC (encN l) i) j = d2 at *
    generalize flL l i = v at *
    generalize flC (encN l) i = d at *
    generalize encN l = e at *
    generalize wI i = wi at *
    generalize bI i = bi at *
    generalize wI j = wj at *
    generalize bI j = bj at *
    clear hve hm o1 o2 o3
    cases hwe : (wi == wj) with
    | false =>
      clear hbits
      go_enter Tryd.func6, Tryd.ntmps6
      go_wp2_with fail
      have hbel0 := (Below.refl w.heap.size w).alloc (Nat.le_refl _) (.cells #[.int .i64 l0.a0, .int .i64 l0.a1, .int .i64 l0.a2, .int .i64 l0.a3, .int .i64 l0.a4, .int .i64 l0.a5, .int .i64 l0.a6, .int .i64 l0.a7] 22)
      have BP0 : Hid (BoxL (w.alloc (.cells #[.int .i64 l0.a0, .int .i64 l0.a1, .int .i64 l0.a2, .int .i64 l0.a3, .int .i64 l0.a4, .int .i64 l0.a5, .int .i64 l0.a6, .int .i64 l0.a7] 22)) w.heap.size l0) := Lib.hid (BoxL.new w l0.a0 l0.a1 l0.a2 l0.a3 l0.a4 l0.a5 l0.a6 l0.a7)
      generalize w.alloc (.cells #[.int .i64 l0.a0, .int .i64 l0.a1, .int .i64 l0.a2, .int .i64 l0.a3, .int .i64 l0.a4, .int .i64 l0.a5, .int .i64 l0.a6, .int .i64 l0.a7] 22) = w0 at *
      refine (Hmade.out _).mono ?_
      rintro e1 w1 ⟨rfl, hb1⟩
      have BP1 := Lib.hid (BP0.out.below hb1)
      have hbel1 := hbel0.trans (hb1.mono hbel0.size)
      clear hb1 hbel0 BP0
      go_upto_region 2 with (fail)
      have BP2 := Lib.hid (BP1.out.alloc (.cells #[.int .i64 l.a0, .int .i64 l.a1, .int .i64 l.a2, .int .i64 l.a3, .int .i64 l.a4, .int .i64 l.a5, .int .i64 l.a6, .int .i64 l.a7] 22))
      have BW2 : Hid (BoxL (w1.alloc (.cells #[.int .i64 l.a0, .int .i64 l.a1, .int .i64 l.a2, .int .i64 l.a3, .int .i64 l.a4, .int .i64 l.a5, .int .i64 l.a6, .int .i64 l.a7] 22)) w1.heap.size l) := Lib.hid (BoxL.new w1 l.a0 l.a1 l.a2 l.a3 l.a4 l.a5 l.a6 l.a7)
      have hbel2 := hbel1.alloc hbel1.size (.cells #[.int .i64 l.a0, .int .i64 l.a1, .int .i64 l.a2, .int .i64 l.a3, .int .i64 l.a4, .int .i64 l.a5, .int .i64 l.a6, .int .i64 l.a7] 22)
      clear hbel1 BP1
      generalize w1.alloc (.cells #[.int .i64 l.a0, .int .i64 l.a1, .int .i64 l.a2, .int .i64 l.a3, .int .i64 l.a4, .int .i64 l.a5, .int .i64 l.a6, .int .i64 l.a7] 22) = w2 at *
      generalize w1.heap.size = bW at *
      obtain ⟨cW0, cW1, cW2, cW3, cW4, cW5, cW6, cW7⟩ := BW2.out.all
      go_wp2_with fail
      refine (Henc.out _ (HT.out.below hbel2)).mono ?_
      rintro e3 w3 ⟨rfl, hb3⟩
      have BP3 := Lib.hid (BP2.out.below hb3)
      have BW3 := Lib.hid (BW2.out.below hb3)
      have hbel3 := hbel2.trans (hb3.mono hbel2.size)
      clear hb3 hbel2 BP2 BW2
      clear cW0 cW1 cW2 cW3 cW4 cW5 cW6 cW7
      go_wp2_with fail
      refine (Hbit.out _).mono ?_
      rintro e4 w' ⟨rfl, rfl⟩
      go_wp2_with fail
      refine (Hbit2.out _).mono ?_
      rintro e4 w' ⟨rfl, rfl⟩
      obtain ⟨cW0, cW1, cW2, cW3, cW4, cW5, cW6, cW7⟩ := BW3.out.all
      go_wp2_with fail
      refine (Hflip.out _).mono ?_
      rintro e4 w4 ⟨rfl, hb4⟩
      have BP4 := Lib.hid (BP3.out.below hb4)
      have BW4 := Lib.hid (BW3.out.below hb4)
      have hbel4 := hbel3.trans (hb4.mono hbel3.size)
      clear hb4 hbel3 BP3 BW3
      clear cW0 cW1 cW2 cW3 cW4 cW5 cW6 cW7
      go_upto_region 8 with (fail)
      have loV : w.heap.size ≤ w4.heap.size := hbel4.size
      have neVW : w4.heap.size ≠ bW := by have := BW4.out.lt; omega
      have BP5 := Lib.hid (BP4.out.alloc (.cells #[.int .i64 v.a0, .int .i64 v.a1, .int .i64 v.a2, .int .i64 v.a3, .int .i64 v.a4, .int .i64 v.a5, .int .i64 v.a6, .int .i64 v.a7] 22))
      have BW5 := Lib.hid (BW4.out.alloc (.cells #[.int .i64 v.a0, .int .i64 v.a1, .int .i64 v.a2, .int .i64 v.a3, .int .i64 v.a4, .int .i64 v.a5, .int .i64 v.a6, .int .i64 v.a7] 22))
      have BV5 : Hid (BoxL (w4.alloc (.cells #[.int .i64 v.a0, .int .i64 v.a1, .int .i64 v.a2, .int .i64 v.a3, .int .i64 v.a4, .int .i64 v.a5, .int .i64 v.a6, .int .i64 v.a7] 22)) w4.heap.size v) := Lib.hid (BoxL.new w4 v.a0 v.a1 v.a2 v.a3 v.a4 v.a5 v.a6 v.a7)
      have hbel5 := hbel4.alloc hbel4.size (.cells #[.int .i64 v.a0, .int .i64 v.a1, .int .i64 v.a2, .int .i64 v.a3, .int .i64 v.a4, .int .i64 v.a5, .int .i64 v.a6, .int .i64 v.a7] 22)
      clear hbel4 BP4 BW4
      generalize w4.alloc (.cells #[.int .i64 v.a0, .int .i64 v.a1, .int .i64 v.a2, .int .i64 v.a3, .int .i64 v.a4, .int .i64 v.a5, .int .i64 v.a6, .int .i64 v.a7] 22) = w5 at *
      generalize w4.heap.size = bV at *
      obtain ⟨cV0, cV1, cV2, cV3, cV4, cV5, cV6, cV7⟩ := BV5.out.all
      go_wp2_with fail
      refine (Hflip2.out _).mono ?_
      rintro e6 w6 ⟨rfl, hb6⟩
      have BP6 := Lib.hid (BP5.out.below hb6)
      have BW6 := Lib.hid (BW5.out.below hb6)
      have BV6 := Lib.hid (BV5.out.below hb6)
      have hbel6 := hbel5.trans (hb6.mono hbel5.size)
      clear hb6 hbel5 BP5 BW5 BV5
      clear cV0 cV1 cV2 cV3 cV4 cV5 cV6 cV7
      have BV7 : Hid (BoxL ((((((((w6.setCell ⟨bV, 0, none⟩ (.int .i64 u.a0)).setCell ⟨bV, 1, none⟩ (.int .i64 u.a1)).setCell ⟨bV, 2, none⟩ (.int .i64 u.a2)).setCell ⟨bV, 3, none⟩ (.int .i64 u.a3)).setCell ⟨bV, 4, none⟩ (.int .i64 u.a4)).setCell ⟨bV, 5, none⟩ (.int .i64 u.a5)).setCell ⟨bV, 6, none⟩ (.int .i64 u.a6)).setCell ⟨bV, 7, none⟩ (.int .i64 u.a7)) bV u) := Lib.hid (BV6.out.store8 u)
      have BW7 : Hid (BoxL ((((((((w6.setCell ⟨bV, 0, none⟩ (.int .i64 u.a0)).setCell ⟨bV, 1, none⟩ (.int .i64 u.a1)).setCell ⟨bV, 2, none⟩ (.int .i64 u.a2)).setCell ⟨bV, 3, none⟩ (.int .i64 u.a3)).setCell ⟨bV, 4, none⟩ (.int .i64 u.a4)).setCell ⟨bV, 5, none⟩ (.int .i64 u.a5)).setCell ⟨bV, 6, none⟩ (.int .i64 u.a6)).setCell ⟨bV, 7, none⟩ (.int .i64 u.a7)) bW l) := Lib.hid (BoxL.store8_other BW6.out neVW _ _ _ _ _ _ _ _)
      have hbel7 : Below w.heap.size w ((((((((w6.setCell ⟨bV, 0, none⟩ (.int .i64 u.a0)).setCell ⟨bV, 1, none⟩ (.int .i64 u.a1)).setCell ⟨bV, 2, none⟩ (.int .i64 u.a2)).setCell ⟨bV, 3, none⟩ (.int .i64 u.a3)).setCell ⟨bV, 4, none⟩ (.int .i64 u.a4)).setCell ⟨bV, 5, none⟩ (.int .i64 u.a5)).setCell ⟨bV, 6, none⟩ (.int .i64 u.a6)).setCell ⟨bV, 7, none⟩ (.int .i64 u.a7)) := below_store8 hbel6 loV _ _ _ _ _ _ _ _
      obtain ⟨cV0, cV1, cV2, cV3, cV4, cV5, cV6, cV7⟩ := BV6.out.all
      have fV := BV6.out.free
      go_upto_region 9 with (fail)
      generalize ((((((((w6.setCell ⟨bV, 0, none⟩ (.int .i64 u.a0)).setCell ⟨bV, 1, none⟩ (.int .i64 u.a1)).setCell ⟨bV, 2, none⟩ (.int .i64 u.a2)).setCell ⟨bV, 3, none⟩ (.int .i64 u.a3)).setCell ⟨bV, 4, none⟩ (.int .i64 u.a4)).setCell ⟨bV, 5, none⟩ (.int .i64 u.a5)).setCell ⟨bV, 6, none⟩ (.int .i64 u.a6)).setCell ⟨bV, 7, none⟩ (.int .i64 u.a7)) = w7 at *
      clear fV hbel6 BV6 BW6 BP6 cV0 cV1 cV2 cV3 cV4 cV5 cV6 cV7
      obtain ⟨cV0, cV1, cV2, cV3, cV4, cV5, cV6, cV7⟩ := BV7.out.all
      go_wp2_with fail
      refine (Hfix.out _ (HT.out.below hbel7)).mono ?_
      rintro e8 w8 ⟨rfl, hb8⟩
      have BW8 := Lib.hid (BW7.out.below hb8)
      have BV8 := Lib.hid (BV7.out.below hb8)
      have hbel8 := hbel7.trans (hb8.mono hbel7.size)
      clear hb8 hbel7 BW7 BV7
      clear cV0 cV1 cV2 cV3 cV4 cV5 cV6 cV7
      go_upto_region 10 with (fail)
      have BW9 := Lib.hid (BW8.out.alloc (.cells #[.int .i64 zer.a0, .int .i64 zer.a1, .int .i64 zer.a2, .int .i64 zer.a3, .int .i64 zer.a4, .int .i64 zer.a5, .int .i64 zer.a6, .int .i64 zer.a7] 22))
      have BV9 := Lib.hid (BV8.out.alloc (.cells #[.int .i64 zer.a0, .int .i64 zer.a1, .int .i64 zer.a2, .int .i64 zer.a3, .int .i64 zer.a4, .int .i64 zer.a5, .int .i64 zer.a6, .int .i64 zer.a7] 22))
      have BX9 : Hid (BoxL (w8.alloc (.cells #[.int .i64 zer.a0, .int .i64 zer.a1, .int .i64 zer.a2, .int .i64 zer.a3, .int .i64 zer.a4, .int .i64 zer.a5, .int .i64 zer.a6, .int .i64 zer.a7] 22)) w8.heap.size zer) := Lib.hid (BoxL.new w8 zer.a0 zer.a1 zer.a2 zer.a3 zer.a4 zer.a5 zer.a6 zer.a7)
      have hbel9 := hbel8.alloc hbel8.size (.cells #[.int .i64 zer.a0, .int .i64 zer.a1, .int .i64 zer.a2, .int .i64 zer.a3, .int .i64 zer.a4, .int .i64 zer.a5, .int .i64 zer.a6, .int .i64 zer.a7] 22)
      clear hbel8 BW8 BV8
      generalize w8.alloc (.cells #[.int .i64 zer.a0, .int .i64 zer.a1, .int .i64 zer.a2, .int .i64 zer.a3, .int .i64 zer.a4, .int .i64 zer.a5, .int .i64 zer.a6, .int .i64 zer.a7] 22) = w9 at *
      generalize w8.heap.size = bX at *
      go_wp2_with fail
      refine (sanity_any _ (HT.out.below hbel9)).mono ?_
      rintro e10 w10 ⟨rfl, hb10⟩
      have BW10 := Lib.hid (BW9.out.below hb10)
      have BV10 := Lib.hid (BV9.out.below hb10)
      have BX10 := Lib.hid (BX9.out.below hb10)
      have hbel10 := hbel9.trans (hb10.mono hbel9.size)
      clear hb10 hbel9 BW9 BV9 BX9
      obtain ⟨cW0, cW1, cW2, cW3, cW4, cW5, cW6, cW7⟩ := BW10.out.all
      obtain ⟨cV0, cV1, cV2, cV3, cV4, cV5, cV6, cV7⟩ := BV10.out.all
      go_wp2_with fail
      refine (Hdist.out _).mono ?_
      rintro e11 w11 ⟨rfl, hb11⟩
      have BW11 := Lib.hid (BW10.out.below hb11)
      have BV11 := Lib.hid (BV10.out.below hb11)
      have BX11 := Lib.hid (BX10.out.below hb11)
      have hbel11 := hbel10.trans (hb11.mono hbel10.size)
      clear hb11 hbel10 BW10 BV10 BX10
      clear cW0 cW1 cW2 cW3 cW4 cW5 cW6 cW7 cV0 cV1 cV2 cV3 cV4 cV5 cV6 cV7
      obtain ⟨cV0, cV1, cV2, cV3, cV4, cV5, cV6, cV7⟩ := BV11.out.all
      go_wp2_with fail
      refine (Hckd.out _ (HT.out.below hbel11)).mono ?_
      rintro e12 w12 ⟨rfl, hb12⟩
      have BW12 := Lib.hid (BW11.out.below hb12)
      have BV12 := Lib.hid (BV11.out.below hb12)
      have BX12 := Lib.hid (BX11.out.below hb12)
      have hbel12 := hbel11.trans (hb12.mono hbel11.size)
      clear hb12 hbel11 BW11 BV11 BX11
      clear cV0 cV1 cV2 cV3 cV4 cV5 cV6 cV7
      go_wp2
      go_ret
      exact ⟨rfl, hbel12⟩
    | true =>
      have hbe : (bi == bj) = false := by rw [hwe] at hbits; simpa using hbits
      clear hbits
      go_enter Tryd.func6, Tryd.ntmps6
      go_wp2_with fail
      have hbel0 := (Below.refl w.heap.size w).alloc (Nat.le_refl _) (.cells #[.int .i64 l0.a0, .int .i64 l0.a1, .int .i64 l0.a2, .int .i64 l0.a3, .int .i64 l0.a4, .int .i64 l0.a5, .int .i64 l0.a6, .int .i64 l0.a7] 22)
      have BP0 : Hid (BoxL (w.alloc (.cells #[.int .i64 l0.a0, .int .i64 l0.a1, .int .i64 l0.a2, .int .i64 l0.a3, .int .i64 l0.a4, .int .i64 l0.a5, .int .i64 l0.a6, .int .i64 l0.a7] 22)) w.heap.size l0) := Lib.hid (BoxL.new w l0.a0 l0.a1 l0.a2 l0.a3 l0.a4 l0.a5 l0.a6 l0.a7)
      generalize w.alloc (.cells #[.int .i64 l0.a0, .int .i64 l0.a1, .int .i64 l0.a2, .int .i64 l0.a3, .int .i64 l0.a4, .int .i64 l0.a5, .int .i64 l0.a6, .int .i64 l0.a7] 22) = w0 at *
      refine (Hmade.out _).mono ?_
      rintro e1 w1 ⟨rfl, hb1⟩
      have BP1 := Lib.hid (BP0.out.below hb1)
      have hbel1 := hbel0.trans (hb1.mono hbel0.size)
      clear hb1 hbel0 BP0
      go_upto_region 2 with (fail)
      have BP2 := Lib.hid (BP1.out.alloc (.cells #[.int .i64 l.a0, .int .i64 l.a1, .int .i64 l.a2, .int .i64 l.a3, .int .i64 l.a4, .int .i64 l.a5, .int .i64 l.a6, .int .i64 l.a7] 22))
      have BW2 : Hid (BoxL (w1.alloc (.cells #[.int .i64 l.a0, .int .i64 l.a1, .int .i64 l.a2, .int .i64 l.a3, .int .i64 l.a4, .int .i64 l.a5, .int .i64 l.a6, .int .i64 l.a7] 22)) w1.heap.size l) := Lib.hid (BoxL.new w1 l.a0 l.a1 l.a2 l.a3 l.a4 l.a5 l.a6 l.a7)
      have hbel2 := hbel1.alloc hbel1.size (.cells #[.int .i64 l.a0, .int .i64 l.a1, .int .i64 l.a2, .int .i64 l.a3, .int .i64 l.a4, .int .i64 l.a5, .int .i64 l.a6, .int .i64 l.a7] 22)
      clear hbel1 BP1
      generalize w1.alloc (.cells #[.int .i64 l.a0, .int .i64 l.a1, .int .i64 l.a2, .int .i64 l.a3, .int .i64 l.a4, .int .i64 l.a5, .int .i64 l.a6, .int .i64 l.a7] 22) = w2 at *
      generalize w1.heap.size = bW at *
      obtain ⟨cW0, cW1, cW2, cW3, cW4, cW5, cW6, cW7⟩ := BW2.out.all
      go_wp2_with fail
      refine (Henc.out _ (HT.out.below hbel2)).mono ?_
      rintro e3 w3 ⟨rfl, hb3⟩
      have BP3 := Lib.hid (BP2.out.below hb3)
      have BW3 := Lib.hid (BW2.out.below hb3)
      have hbel3 := hbel2.trans (hb3.mono hbel2.size)
      clear hb3 hbel2 BP2 BW2
      clear cW0 cW1 cW2 cW3 cW4 cW5 cW6 cW7
      go_wp2_with fail
      refine (Hbit.out _).mono ?_
      rintro e4 w' ⟨rfl, rfl⟩
      go_wp2_with fail
      refine (Hbit2.out _).mono ?_
      rintro e4 w' ⟨rfl, rfl⟩
      obtain ⟨cW0, cW1, cW2, cW3, cW4, cW5, cW6, cW7⟩ := BW3.out.all
      go_wp2_with fail
      refine (Hflip.out _).mono ?_
      rintro e4 w4 ⟨rfl, hb4⟩
      have BP4 := Lib.hid (BP3.out.below hb4)
      have BW4 := Lib.hid (BW3.out.below hb4)
      have hbel4 := hbel3.trans (hb4.mono hbel3.size)
      clear hb4 hbel3 BP3 BW3
      clear cW0 cW1 cW2 cW3 cW4 cW5 cW6 cW7
      go_upto_region 8 with (fail)
      have loV : w.heap.size ≤ w4.heap.size := hbel4.size
      have neVW : w4.heap.size ≠ bW := by have := BW4.out.lt; omega
      have BP5 := Lib.hid (BP4.out.alloc (.cells #[.int .i64 v.a0, .int .i64 v.a1, .int .i64 v.a2, .int .i64 v.a3, .int .i64 v.a4, .int .i64 v.a5, .int .i64 v.a6, .int .i64 v.a7] 22))
      have BW5 := Lib.hid (BW4.out.alloc (.cells #[.int .i64 v.a0, .int .i64 v.a1, .int .i64 v.a2, .int .i64 v.a3, .int .i64 v.a4, .int .i64 v.a5, .int .i64 v.a6, .int .i64 v.a7] 22))
      have BV5 : Hid (BoxL (w4.alloc (.cells #[.int .i64 v.a0, .int .i64 v.a1, .int .i64 v.a2, .int .i64 v.a3, .int .i64 v.a4, .int .i64 v.a5, .int .i64 v.a6, .int .i64 v.a7] 22)) w4.heap.size v) := Lib.hid (BoxL.new w4 v.a0 v.a1 v.a2 v.a3 v.a4 v.a5 v.a6 v.a7)
      have hbel5 := hbel4.alloc hbel4.size (.cells #[.int .i64 v.a0, .int .i64 v.a1, .int .i64 v.a2, .int .i64 v.a3, .int .i64 v.a4, .int .i64 v.a5, .int .i64 v.a6, .int .i64 v.a7] 22)
      clear hbel4 BP4 BW4
      generalize w4.alloc (.cells #[.int .i64 v.a0, .int .i64 v.a1, .int .i64 v.a2, .int .i64 v.a3, .int .i64 v.a4, .int .i64 v.a5, .int .i64 v.a6, .int .i64 v.a7] 22) = w5 at *
      generalize w4.heap.size = bV at *
      obtain ⟨cV0, cV1, cV2, cV3, cV4, cV5, cV6, cV7⟩ := BV5.out.all
      go_wp2_with fail
      refine (Hflip2.out _).mono ?_
      rintro e6 w6 ⟨rfl, hb6⟩
      have BP6 := Lib.hid (BP5.out.below hb6)
      have BW6 := Lib.hid (BW5.out.below hb6)
      have BV6 := Lib.hid (BV5.out.below hb6)
      have hbel6 := hbel5.trans (hb6.mono hbel5.size)
      clear hb6 hbel5 BP5 BW5 BV5
      clear cV0 cV1 cV2 cV3 cV4 cV5 cV6 cV7
      have BV7 : Hid (BoxL ((((((((w6.setCell ⟨bV, 0, none⟩ (.int .i64 u.a0)).setCell ⟨bV, 1, none⟩ (.int .i64 u.a1)).setCell ⟨bV, 2, none⟩ (.int .i64 u.a2)).setCell ⟨bV, 3, none⟩ (.int .i64 u.a3)).setCell ⟨bV, 4, none⟩ (.int .i64 u.a4)).setCell ⟨bV, 5, none⟩ (.int .i64 u.a5)).setCell ⟨bV, 6, none⟩ (.int .i64 u.a6)).setCell ⟨bV, 7, none⟩ (.int .i64 u.a7)) bV u) := Lib.hid (BV6.out.store8 u)
      have BW7 : Hid (BoxL ((((((((w6.setCell ⟨bV, 0, none⟩ (.int .i64 u.a0)).setCell ⟨bV, 1, none⟩ (.int .i64 u.a1)).setCell ⟨bV, 2, none⟩ (.int .i64 u.a2)).setCell ⟨bV, 3, none⟩ (.int .i64 u.a3)).setCell ⟨bV, 4, none⟩ (.int .i64 u.a4)).setCell ⟨bV, 5, none⟩ (.int .i64 u.a5)).setCell ⟨bV, 6, none⟩ (.int .i64 u.a6)).setCell ⟨bV, 7, none⟩ (.int .i64 u.a7)) bW l) := Lib.hid (BoxL.store8_other BW6.out neVW _ _ _ _ _ _ _ _)
      have hbel7 : Below w.heap.size w ((((((((w6.setCell ⟨bV, 0, none⟩ (.int .i64 u.a0)).setCell ⟨bV, 1, none⟩ (.int .i64 u.a1)).setCell ⟨bV, 2, none⟩ (.int .i64 u.a2)).setCell ⟨bV, 3, none⟩ (.int .i64 u.a3)).setCell ⟨bV, 4, none⟩ (.int .i64 u.a4)).setCell ⟨bV, 5, none⟩ (.int .i64 u.a5)).setCell ⟨bV, 6, none⟩ (.int .i64 u.a6)).setCell ⟨bV, 7, none⟩ (.int .i64 u.a7)) := below_store8 hbel6 loV _ _ _ _ _ _ _ _
      obtain ⟨cV0, cV1, cV2, cV3, cV4, cV5, cV6, cV7⟩ := BV6.out.all
      have fV := BV6.out.free
      go_upto_region 9 with (fail)
      generalize ((((((((w6.setCell ⟨bV, 0, none⟩ (.int .i64 u.a0)).setCell ⟨bV, 1, none⟩ (.int .i64 u.a1)).setCell ⟨bV, 2, none⟩ (.int .i64 u.a2)).setCell ⟨bV, 3, none⟩ (.int .i64 u.a3)).setCell ⟨bV, 4, none⟩ (.int .i64 u.a4)).setCell ⟨bV, 5, none⟩ (.int .i64 u.a5)).setCell ⟨bV, 6, none⟩ (.int .i64 u.a6)).setCell ⟨bV, 7, none⟩ (.int .i64 u.a7)) = w7 at *
      clear fV hbel6 BV6 BW6 BP6 cV0 cV1 cV2 cV3 cV4 cV5 cV6 cV7
      obtain ⟨cV0, cV1, cV2, cV3, cV4, cV5, cV6, cV7⟩ := BV7.out.all
      go_wp2_with fail
      refine (Hfix.out _ (HT.out.below hbel7)).mono ?_
      rintro e8 w8 ⟨rfl, hb8⟩
      have BW8 := Lib.hid (BW7.out.below hb8)
      have BV8 := Lib.hid (BV7.out.below hb8)
      have hbel8 := hbel7.trans (hb8.mono hbel7.size)
      clear hb8 hbel7 BW7 BV7
      clear cV0 cV1 cV2 cV3 cV4 cV5 cV6 cV7
      go_upto_region 10 with (fail)
      have BW9 := Lib.hid (BW8.out.alloc (.cells #[.int .i64 zer.a0, .int .i64 zer.a1, .int .i64 zer.a2, .int .i64 zer.a3, .int .i64 zer.a4, .int .i64 zer.a5, .int .i64 zer.a6, .int .i64 zer.a7] 22))
      have BV9 := Lib.hid (BV8.out.alloc (.cells #[.int .i64 zer.a0, .int .i64 zer.a1, .int .i64 zer.a2, .int .i64 zer.a3, .int .i64 zer.a4, .int .i64 zer.a5, .int .i64 zer.a6, .int .i64 zer.a7] 22))
      have BX9 : Hid (BoxL (w8.alloc (.cells #[.int .i64 zer.a0, .int .i64 zer.a1, .int .i64 zer.a2, .int .i64 zer.a3, .int .i64 zer.a4, .int .i64 zer.a5, .int .i64 zer.a6, .int .i64 zer.a7] 22)) w8.heap.size zer) := Lib.hid (BoxL.new w8 zer.a0 zer.a1 zer.a2 zer.a3 zer.a4 zer.a5 zer.a6 zer.a7)
      have hbel9 := hbel8.alloc hbel8.size (.cells #[.int .i64 zer.a0, .int .i64 zer.a1, .int .i64 zer.a2, .int .i64 zer.a3, .int .i64 zer.a4, .int .i64 zer.a5, .int .i64 zer.a6, .int .i64 zer.a7] 22)
      clear hbel8 BW8 BV8
      generalize w8.alloc (.cells #[.int .i64 zer.a0, .int .i64 zer.a1, .int .i64 zer.a2, .int .i64 zer.a3, .int .i64 zer.a4, .int .i64 zer.a5, .int .i64 zer.a6, .int .i64 zer.a7] 22) = w9 at *
      generalize w8.heap.size = bX at *
      go_wp2_with fail
      refine (sanity_any _ (HT.out.below hbel9)).mono ?_
      rintro e10 w10 ⟨rfl, hb10⟩
      have BW10 := Lib.hid (BW9.out.below hb10)
      have BV10 := Lib.hid (BV9.out.below hb10)
      have BX10 := Lib.hid (BX9.out.below hb10)
      have hbel10 := hbel9.trans (hb10.mono hbel9.size)
      clear hb10 hbel9 BW9 BV9 BX9
      obtain ⟨cW0, cW1, cW2, cW3, cW4, cW5, cW6, cW7⟩ := BW10.out.all
      obtain ⟨cV0, cV1, cV2, cV3, cV4, cV5, cV6, cV7⟩ := BV10.out.all
      go_wp2_with fail
      refine (Hdist.out _).mono ?_
      rintro e11 w11 ⟨rfl, hb11⟩
      have BW11 := Lib.hid (BW10.out.below hb11)
      have BV11 := Lib.hid (BV10.out.below hb11)
      have BX11 := Lib.hid (BX10.out.below hb11)
      have hbel11 := hbel10.trans (hb11.mono hbel10.size)
      clear hb11 hbel10 BW10 BV10 BX10
      clear cW0 cW1 cW2 cW3 cW4 cW5 cW6 cW7 cV0 cV1 cV2 cV3 cV4 cV5 cV6 cV7
      obtain ⟨cV0, cV1, cV2, cV3, cV4, cV5, cV6, cV7⟩ := BV11.out.all
      go_wp2_with fail
      refine (Hckd.out _ (HT.out.below hbel11)).mono ?_
      rintro e12 w12 ⟨rfl, hb12⟩
      have BW12 := Lib.hid (BW11.out.below hb12)
      have BV12 := Lib.hid (BV11.out.below hb12)
      have BX12 := Lib.hid (BX11.out.below hb12)
      have hbel12 := hbel11.trans (hb12.mono hbel11.size)
      clear hb12 hbel11 BW11 BV11 BX11
      clear cV0 cV1 cV2 cV3 cV4 cV5 cV6 cV7
      go_wp2
      go_ret
      exact ⟨rfl, hbel12⟩

end Go.Proofs.YtmhllnnchhcamaaDoor

