/-
  The walk of CodeFixIsNearest: it returns true.
-/
import Derived.Test.YtmhllnnchhcamaaDoorLawZ
namespace Go.Proofs.YtmhllnnchhcamaaDoor
open Go.RowKit Go.Sort

theorem bitW_nat (k : Nat) (h : k < 330) : bitW (k : Int) = wI k := by unfold bitW wI; split <;> split <;> omega
theorem bitB_nat (k : Nat) (h : k < 330) : bitB (k : Int) = bI k := by unfold bitB bI; split <;> split <;> omega

set_option maxRecDepth 100000 in
set_option maxHeartbeats 8000000 in
theorem nearest_any (l0 : W8) (o : Int) (w : World) (hT : TabIn w) (h0 : 0 ≤ o) (h1 : o ≤ 65535) :
    Calls Tryd.prog 8 #[(.agg #[.int .i64 l0.a0, .int .i64 l0.a1, .int .i64 l0.a2, .int .i64 l0.a3, .int .i64 l0.a4, .int .i64 l0.a5, .int .i64 l0.a6, .int .i64 l0.a7]), .int .u16 o] w (RetB (.bool true) w) := by
  have HT := Lib.hid hT
  clear hT
  have hm := made_valid l0
  have Hmade := Lib.hid (fun W => Made_l l0 W)
  generalize made l0 = l at *
  obtain ⟨c, hco, hc⟩ : ∃ c : Nat, o % 1024 = c ∧ c < 1024 := ⟨(o % 1024).toNat, by omega, by omega⟩
  have hv : validB l c = true := validB_yes (validB_iff.1 hm).1 (by omega) (by omega)
  have Hfix := Lib.hid (fun W hT => Fix_any l c W hT)
  rcases nearest l c hv with ⟨m, d, hf, hvm, hck, hds⟩ | ⟨hf, hne, hall⟩
  · rw [hf] at Hfix
    have Hdist := Lib.hid (fun W => Distance_any l m c d W)
    have Hckd := Lib.hid (fun W hT => checked_any m d W hT)
    rw [hck] at Hckd
    simp only at Hfix Hckd
    unfold arrOf at Hfix
    have hd0 : 0 ≤ dist l c m d := by omega
    have hd1 : dist l c m d ≤ 1 := by omega
    generalize dist l c m d = ds at *
    clear hm hv hvm hf hck hds
    go_enter Tryd.func8, Tryd.ntmps8
    go_wp2_with fail
    have hbel0 := (Below.refl w.heap.size w).alloc (Nat.le_refl _) (.cells #[.int .i64 l0.a0, .int .i64 l0.a1, .int .i64 l0.a2, .int .i64 l0.a3, .int .i64 l0.a4, .int .i64 l0.a5, .int .i64 l0.a6, .int .i64 l0.a7] 22)
    have BP0 : Hid (BoxL (w.alloc (.cells #[.int .i64 l0.a0, .int .i64 l0.a1, .int .i64 l0.a2, .int .i64 l0.a3, .int .i64 l0.a4, .int .i64 l0.a5, .int .i64 l0.a6, .int .i64 l0.a7] 22)) w.heap.size l0) := Lib.hid (BoxL.new w l0.a0 l0.a1 l0.a2 l0.a3 l0.a4 l0.a5 l0.a6 l0.a7)
    generalize w.alloc (.cells #[.int .i64 l0.a0, .int .i64 l0.a1, .int .i64 l0.a2, .int .i64 l0.a3, .int .i64 l0.a4, .int .i64 l0.a5, .int .i64 l0.a6, .int .i64 l0.a7] 22) = w0 at *
    refine (Hmade.out _).mono ?_
    rintro e1 w1 ⟨rfl, hb1⟩
    have BP1 := Lib.hid (BP0.out.below hb1)
    have hbel1 := hbel0.trans (hb1.mono hbel0.size)
    clear hb1 hbel0 BP0
    go_upto_region 2 with (fail)
    have BP2 := Lib.hid (BP1.out.alloc (.cells #[.int .i64 l.a0, .int .i64 l.a1, .int .i64 l.a2, .int .i64 l.a3, .int .i64 l.a4, .int .i64 l.a5, .int .i64 l.a6, .int .i64 l.a7] 22))
    have BW2 : Hid (BoxL (w1.alloc (.cells #[.int .i64 l.a0, .int .i64 l.a1, .int .i64 l.a2, .int .i64 l.a3, .int .i64 l.a4, .int .i64 l.a5, .int .i64 l.a6, .int .i64 l.a7] 22)) w1.heap.size l) := Lib.hid (BoxL.new w1 l.a0 l.a1 l.a2 l.a3 l.a4 l.a5 l.a6 l.a7)
    have hbel2 := hbel1.alloc hbel1.size (.cells #[.int .i64 l.a0, .int .i64 l.a1, .int .i64 l.a2, .int .i64 l.a3, .int .i64 l.a4, .int .i64 l.a5, .int .i64 l.a6, .int .i64 l.a7] 22)
    clear hbel1 BP1
    generalize w1.alloc (.cells #[.int .i64 l.a0, .int .i64 l.a1, .int .i64 l.a2, .int .i64 l.a3, .int .i64 l.a4, .int .i64 l.a5, .int .i64 l.a6, .int .i64 l.a7] 22) = w2 at *
    generalize w1.heap.size = bW at *
    obtain ⟨cW0, cW1, cW2, cW3, cW4, cW5, cW6, cW7⟩ := BW2.out.all
    go_wp2_with fail
    refine (Hfix.out _ (HT.out.below hbel2)).mono ?_
    rintro e3 w3 ⟨rfl, hb3⟩
    have BP3 := Lib.hid (BP2.out.below hb3)
    have BW3 := Lib.hid (BW2.out.below hb3)
    have hbel3 := hbel2.trans (hb3.mono hbel2.size)
    clear hb3 hbel2 BP2 BW2
    clear cW0 cW1 cW2 cW3 cW4 cW5 cW6 cW7
    go_upto_region 4 with (fail)
    have BP4 := Lib.hid (BP3.out.alloc (.cells #[.int .i64 m.a0, .int .i64 m.a1, .int .i64 m.a2, .int .i64 m.a3, .int .i64 m.a4, .int .i64 m.a5, .int .i64 m.a6, .int .i64 m.a7] 22))
    have BW4 := Lib.hid (BW3.out.alloc (.cells #[.int .i64 m.a0, .int .i64 m.a1, .int .i64 m.a2, .int .i64 m.a3, .int .i64 m.a4, .int .i64 m.a5, .int .i64 m.a6, .int .i64 m.a7] 22))
    have BV4 : Hid (BoxL (w3.alloc (.cells #[.int .i64 m.a0, .int .i64 m.a1, .int .i64 m.a2, .int .i64 m.a3, .int .i64 m.a4, .int .i64 m.a5, .int .i64 m.a6, .int .i64 m.a7] 22)) w3.heap.size m) := Lib.hid (BoxL.new w3 m.a0 m.a1 m.a2 m.a3 m.a4 m.a5 m.a6 m.a7)
    have hbel4 := hbel3.alloc hbel3.size (.cells #[.int .i64 m.a0, .int .i64 m.a1, .int .i64 m.a2, .int .i64 m.a3, .int .i64 m.a4, .int .i64 m.a5, .int .i64 m.a6, .int .i64 m.a7] 22)
    clear hbel3 BP3 BW3
    generalize w3.alloc (.cells #[.int .i64 m.a0, .int .i64 m.a1, .int .i64 m.a2, .int .i64 m.a3, .int .i64 m.a4, .int .i64 m.a5, .int .i64 m.a6, .int .i64 m.a7] 22) = w4 at *
    generalize w3.heap.size = bV at *
    obtain ⟨cW0, cW1, cW2, cW3, cW4, cW5, cW6, cW7⟩ := BW4.out.all
    obtain ⟨cV0, cV1, cV2, cV3, cV4, cV5, cV6, cV7⟩ := BV4.out.all
    go_wp2_with fail
    refine (Hdist.out _).mono ?_
    rintro e5 w5 ⟨rfl, hb5⟩
    have BP5 := Lib.hid (BP4.out.below hb5)
    have BW5 := Lib.hid (BW4.out.below hb5)
    have BV5 := Lib.hid (BV4.out.below hb5)
    have hbel5 := hbel4.trans (hb5.mono hbel4.size)
    clear hb5 hbel4 BP4 BW4 BV4
    clear cW0 cW1 cW2 cW3 cW4 cW5 cW6 cW7 cV0 cV1 cV2 cV3 cV4 cV5 cV6 cV7
    go_wp2_with fail
    refine (sanity_any _ (HT.out.below hbel5)).mono ?_
    rintro e6 w6 ⟨rfl, hb6⟩
    have BP6 := Lib.hid (BP5.out.below hb6)
    have BW6 := Lib.hid (BW5.out.below hb6)
    have BV6 := Lib.hid (BV5.out.below hb6)
    have hbel6 := hbel5.trans (hb6.mono hbel5.size)
    clear hb6 hbel5 BP5 BW5 BV5
    obtain ⟨cV0, cV1, cV2, cV3, cV4, cV5, cV6, cV7⟩ := BV6.out.all
    go_wp2_with fail
    refine (Hckd.out _ (HT.out.below hbel6)).mono ?_
    rintro e7 w7 ⟨rfl, hb7⟩
    have BP7 := Lib.hid (BP6.out.below hb7)
    have BW7 := Lib.hid (BW6.out.below hb7)
    have BV7 := Lib.hid (BV6.out.below hb7)
    have hbel7 := hbel6.trans (hb7.mono hbel6.size)
    clear hb7 hbel6 BP6 BW6 BV6
    clear cV0 cV1 cV2 cV3 cV4 cV5 cV6 cV7
    go_wp2
    go_ret
    exact ⟨rfl, hbel7⟩
  · rw [hf] at Hfix
    have Henc := Lib.hid (fun W hT => encode_l l W hT)
    rw [enc_is l hm] at Henc
    simp only at Hfix
    unfold arrOf at Hfix
    have hneb : (((encN l : Nat) : Int) == (c : Int)) = false := by rw [beq_eq_false_iff_ne]; omega
    replace hv := Lib.hid hv
    have hk2 := Lib.hid hall
    generalize encN l = e at *
    clear hm hf hne hall
    go_enter Tryd.func8, Tryd.ntmps8
    go_wp2_with fail
    have hbel0 := (Below.refl w.heap.size w).alloc (Nat.le_refl _) (.cells #[.int .i64 l0.a0, .int .i64 l0.a1, .int .i64 l0.a2, .int .i64 l0.a3, .int .i64 l0.a4, .int .i64 l0.a5, .int .i64 l0.a6, .int .i64 l0.a7] 22)
    have BP0 : Hid (BoxL (w.alloc (.cells #[.int .i64 l0.a0, .int .i64 l0.a1, .int .i64 l0.a2, .int .i64 l0.a3, .int .i64 l0.a4, .int .i64 l0.a5, .int .i64 l0.a6, .int .i64 l0.a7] 22)) w.heap.size l0) := Lib.hid (BoxL.new w l0.a0 l0.a1 l0.a2 l0.a3 l0.a4 l0.a5 l0.a6 l0.a7)
    generalize w.alloc (.cells #[.int .i64 l0.a0, .int .i64 l0.a1, .int .i64 l0.a2, .int .i64 l0.a3, .int .i64 l0.a4, .int .i64 l0.a5, .int .i64 l0.a6, .int .i64 l0.a7] 22) = w0 at *
    refine (Hmade.out _).mono ?_
    rintro e1 w1 ⟨rfl, hb1⟩
    have BP1 := Lib.hid (BP0.out.below hb1)
    have hbel1 := hbel0.trans (hb1.mono hbel0.size)
    clear hb1 hbel0 BP0
    go_upto_region 2 with (fail)
    have BP2 := Lib.hid (BP1.out.alloc (.cells #[.int .i64 l.a0, .int .i64 l.a1, .int .i64 l.a2, .int .i64 l.a3, .int .i64 l.a4, .int .i64 l.a5, .int .i64 l.a6, .int .i64 l.a7] 22))
    have BW2 : Hid (BoxL (w1.alloc (.cells #[.int .i64 l.a0, .int .i64 l.a1, .int .i64 l.a2, .int .i64 l.a3, .int .i64 l.a4, .int .i64 l.a5, .int .i64 l.a6, .int .i64 l.a7] 22)) w1.heap.size l) := Lib.hid (BoxL.new w1 l.a0 l.a1 l.a2 l.a3 l.a4 l.a5 l.a6 l.a7)
    have hbel2 := hbel1.alloc hbel1.size (.cells #[.int .i64 l.a0, .int .i64 l.a1, .int .i64 l.a2, .int .i64 l.a3, .int .i64 l.a4, .int .i64 l.a5, .int .i64 l.a6, .int .i64 l.a7] 22)
    clear hbel1 BP1
    generalize w1.alloc (.cells #[.int .i64 l.a0, .int .i64 l.a1, .int .i64 l.a2, .int .i64 l.a3, .int .i64 l.a4, .int .i64 l.a5, .int .i64 l.a6, .int .i64 l.a7] 22) = w2 at *
    generalize w1.heap.size = bW at *
    obtain ⟨cW0, cW1, cW2, cW3, cW4, cW5, cW6, cW7⟩ := BW2.out.all
    go_wp2_with fail
    refine (Hfix.out _ (HT.out.below hbel2)).mono ?_
    rintro e3 w3 ⟨rfl, hb3⟩
    have BP3 := Lib.hid (BP2.out.below hb3)
    have BW3 := Lib.hid (BW2.out.below hb3)
    have hbel3 := hbel2.trans (hb3.mono hbel2.size)
    clear hb3 hbel2 BP2 BW2
    clear cW0 cW1 cW2 cW3 cW4 cW5 cW6 cW7
    go_upto_region 4 with (fail)
    have BP4 := Lib.hid (BP3.out.alloc (.cells #[.int .i64 zer.a0, .int .i64 zer.a1, .int .i64 zer.a2, .int .i64 zer.a3, .int .i64 zer.a4, .int .i64 zer.a5, .int .i64 zer.a6, .int .i64 zer.a7] 22))
    have BW4 := Lib.hid (BW3.out.alloc (.cells #[.int .i64 zer.a0, .int .i64 zer.a1, .int .i64 zer.a2, .int .i64 zer.a3, .int .i64 zer.a4, .int .i64 zer.a5, .int .i64 zer.a6, .int .i64 zer.a7] 22))
    have BV4 : Hid (BoxL (w3.alloc (.cells #[.int .i64 zer.a0, .int .i64 zer.a1, .int .i64 zer.a2, .int .i64 zer.a3, .int .i64 zer.a4, .int .i64 zer.a5, .int .i64 zer.a6, .int .i64 zer.a7] 22)) w3.heap.size zer) := Lib.hid (BoxL.new w3 zer.a0 zer.a1 zer.a2 zer.a3 zer.a4 zer.a5 zer.a6 zer.a7)
    have hbel4 := hbel3.alloc hbel3.size (.cells #[.int .i64 zer.a0, .int .i64 zer.a1, .int .i64 zer.a2, .int .i64 zer.a3, .int .i64 zer.a4, .int .i64 zer.a5, .int .i64 zer.a6, .int .i64 zer.a7] 22)
    clear hbel3 BP3 BW3
    generalize w3.alloc (.cells #[.int .i64 zer.a0, .int .i64 zer.a1, .int .i64 zer.a2, .int .i64 zer.a3, .int .i64 zer.a4, .int .i64 zer.a5, .int .i64 zer.a6, .int .i64 zer.a7] 22) = w4 at *
    generalize w3.heap.size = bV at *
    obtain ⟨cW0, cW1, cW2, cW3, cW4, cW5, cW6, cW7⟩ := BW4.out.all
    go_wp2_with fail
    refine (Henc.out _ (HT.out.below hbel4)).mono ?_
    rintro e5 w5 ⟨rfl, hb5⟩
    have BP5 := Lib.hid (BP4.out.below hb5)
    have BW5 := Lib.hid (BW4.out.below hb5)
    have BV5 := Lib.hid (BV4.out.below hb5)
    have hbel5 := hbel4.trans (hb5.mono hbel4.size)
    clear hb5 hbel4 BP4 BW4 BV4
    clear cW0 cW1 cW2 cW3 cW4 cW5 cW6 cW7
    go_wp2
    have Hbel := Lib.hid hbel5
    clear hbel5 BP5 BV5
    go_loopw [11] (fun i wr => ∃ k : Nat, k ≤ 330 ∧ i = .int .i64 k ∧ Hid (BoxL wr bW l) ∧ Hid (Below w.heap.size w wr)) (fun i _ => 330 - (intOf i).toNat)
    case atStart => exact ⟨0, by omega, rfl, BW5, Hbel⟩
    case round =>
      obtain ⟨k, hk, rfl, BW, Hb⟩ := hrel
      by_cases hlt : k < 330
      · have h330 : decide ((k : Int) < 330) = true := by simp; omega
        have k0 : (0 : Int) ≤ (k : Int) := by omega
        have hbit := fun W => Bit_any (k : Int) W (by omega) (by omega)
        rw [bitW_nat k hlt, bitB_nat k hlt] at hbit
        have hfl := fun W => Flip_l l (c : Int) (wI k) (bI k) W
        rw [flC_is c k hc hlt, show flpL l (wI k) (bI k) = flL l k from rfl] at hfl
        have Hen := Lib.hid (fun W hT => encode_l (flL l k) W hT)
        have hv0 : validB (flL l k) 0 = true := validB_yes (validB_iff.1 (fl_valid l c k hv.out hlt)).1 (by omega) (by omega)
        rw [enc_is _ hv0] at Hen
        have hne : (((encN (flL l k) : Nat) : Int) == ((flC c k : Nat) : Int)) = false := by rw [beq_eq_false_iff_ne]; have := hk2.out k hlt; omega
        unfold arrOf at hfl
        clear hv0
        generalize wI k = wi at *
        generalize bI k = bi at *
        generalize flL l k = x at *
        generalize flC c k = d at *
        generalize encN x = ex at *
        go_wp2_with fail
        refine (hbit _).mono ?_
        rintro e5 w' ⟨rfl, rfl⟩
        obtain ⟨c0, c1, c2, c3, c4, c5, c6, c7⟩ := BW.out.all
        go_wp2_with fail
        refine (hfl _).mono ?_
        rintro e6 w6 ⟨rfl, hb6⟩
        have BW6 := Lib.hid ((BW.out.below hb6).alloc (.cells #[.int .i64 x.a0, .int .i64 x.a1, .int .i64 x.a2, .int .i64 x.a3, .int .i64 x.a4, .int .i64 x.a5, .int .i64 x.a6, .int .i64 x.a7] 22))
        have BX6 : Hid (BoxL (w6.alloc (.cells #[.int .i64 x.a0, .int .i64 x.a1, .int .i64 x.a2, .int .i64 x.a3, .int .i64 x.a4, .int .i64 x.a5, .int .i64 x.a6, .int .i64 x.a7] 22)) w6.heap.size x) := Lib.hid (BoxL.new w6 x.a0 x.a1 x.a2 x.a3 x.a4 x.a5 x.a6 x.a7)
        have hbel6 := (Hb.out.trans (hb6.mono Hb.out.size)).alloc (Hb.out.trans (hb6.mono Hb.out.size)).size (.cells #[.int .i64 x.a0, .int .i64 x.a1, .int .i64 x.a2, .int .i64 x.a3, .int .i64 x.a4, .int .i64 x.a5, .int .i64 x.a6, .int .i64 x.a7] 22)
        clear hb6 c0 c1 c2 c3 c4 c5 c6 c7
        go_upto_region 13 with (fail)
        generalize w6.alloc (.cells #[.int .i64 x.a0, .int .i64 x.a1, .int .i64 x.a2, .int .i64 x.a3, .int .i64 x.a4, .int .i64 x.a5, .int .i64 x.a6, .int .i64 x.a7] 22) = W6 at *
        generalize w6.heap.size = bX at *
        obtain ⟨c0, c1, c2, c3, c4, c5, c6, c7⟩ := BX6.out.all
        go_wp2_with fail
        refine (Hen.out _ (HT.out.below hbel6)).mono ?_
        rintro e7 w7 ⟨rfl, hb7⟩
        have BW7 := Lib.hid (BW6.out.below hb7)
        have hbel7 := hbel6.trans (hb7.mono hbel6.size)
        clear hb7 c0 c1 c2 c3 c4 c5 c6 c7
        go_wp2
        go_roundw
        case rel => exact ⟨k + 1, by omega, by go_num, BW7, hbel7⟩
        case measure => simp [intOf]; omega
      · obtain rfl : k = 330 := by omega
        rw [show ((330 : Nat) : Int) = (330 : Int) from rfl]
        go_wp2_with fail
        refine (sanity_any _ (HT.out.below Hb.out)).mono ?_
        rintro e7 w7 ⟨rfl, hb7⟩
        have hbel7 := Hb.out.trans (hb7.mono Hb.out.size)
        clear hb7
        go_wp2
        go_ret
        exact ⟨rfl, hbel7⟩

end Go.Proofs.YtmhllnnchhcamaaDoor

