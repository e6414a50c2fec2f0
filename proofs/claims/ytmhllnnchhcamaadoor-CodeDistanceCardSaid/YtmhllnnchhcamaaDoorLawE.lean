/-
  The walk of CodeDistance: it returns true.
-/
import Derived.Test.YtmhllnnchhcamaaDoorLawZ
namespace Go.Proofs.YtmhllnnchhcamaaDoor
open Go.RowKit Go.Sort

set_option maxRecDepth 100000 in
set_option maxHeartbeats 8000000 in
theorem distance_law (l0 m0 : W8) (w : World) (hT : TabIn w) :
    Calls Tryd.prog 7 #[(.agg #[.int .i64 l0.a0, .int .i64 l0.a1, .int .i64 l0.a2, .int .i64 l0.a3, .int .i64 l0.a4, .int .i64 l0.a5, .int .i64 l0.a6, .int .i64 l0.a7]), (.agg #[.int .i64 m0.a0, .int .i64 m0.a1, .int .i64 m0.a2, .int .i64 m0.a3, .int .i64 m0.a4, .int .i64 m0.a5, .int .i64 m0.a6, .int .i64 m0.a7])] w (RetB (.bool true) w) := by
  have HT := Lib.hid hT
  clear hT
  have hl := made_valid l0
  have hm := made_valid m0
  have Hmade := Lib.hid (fun W => Made_l l0 W)
  have Hmade2 := Lib.hid (fun W => Made_l m0 W)
  generalize made l0 = l at *
  generalize made m0 = m at *
  have hvl := valid_enc l hl
  have hvm := valid_enc m hm
  have hvx := xorW_valid l m _ _ hvl hvm
  have Henc := Lib.hid (fun W hT => encode_l l W hT)
  have Hencm := Lib.hid (fun W hT => encode_l m W hT)
  have Hencx := Lib.hid (fun W hT => encode_l (xorW l m) W hT)
  have Hdist := Lib.hid (fun W => Distance_any l m (encN l) (encN m) W)
  rw [enc_is l hl] at Henc
  rw [enc_is m hm] at Hencm
  rw [enc_is _ hvx, enc_xor l m hvl hvm] at Hencx
  have hfar := far l m hvl hvm
  have hxe := xor_i64 (encN l) (encN m) (by have := encN_lt l; omega) (by have := encN_lt m; omega)
  have hd0 : 0 ≤ dist l (encN l) m (encN m) := by omega
  have Hd := Lib.hid hfar
  have hd8 : dist l (encN l) m (encN m) ≤ 1000 := by
    rw [dist_bits _ _ _ _ hvl hvm]
    have := cn_le (fun i => cb l (encN l) i != cb m (encN m) i) 330
    omega
  generalize dist l (encN l) m (encN m) = ds at *
  generalize encN l ^^^ encN m = ex at *
  generalize encN l = ea at *
  generalize encN m = eb at *
  clear hvl hvm hvx hl hm hfar
  have Hn := Lib.hid (Two.new w l0 m0)
  have hbel := Two.bel w l0 m0
  go_enter Tryd.func7, Tryd.ntmps7
  go_wp2_with fail
  generalize (w.alloc (.cells #[.int .i64 l0.a0, .int .i64 l0.a1, .int .i64 l0.a2, .int .i64 l0.a3, .int .i64 l0.a4, .int .i64 l0.a5, .int .i64 l0.a6, .int .i64 l0.a7] 22)).alloc (.cells #[.int .i64 m0.a0, .int .i64 m0.a1, .int .i64 m0.a2, .int .i64 m0.a3, .int .i64 m0.a4, .int .i64 m0.a5, .int .i64 m0.a6, .int .i64 m0.a7] 22) = W at *
  refine (Hmade.out _).mono ?_
  rintro e1 w1 ⟨rfl, hb1⟩
  have H1 := Lib.hid ((Hn.out.under hb1).alloc (.cells #[.int .i64 l.a0, .int .i64 l.a1, .int .i64 l.a2, .int .i64 l.a3, .int .i64 l.a4, .int .i64 l.a5, .int .i64 l.a6, .int .i64 l.a7] 22))
  have X1 : Hid (BoxL (w1.alloc (.cells #[.int .i64 l.a0, .int .i64 l.a1, .int .i64 l.a2, .int .i64 l.a3, .int .i64 l.a4, .int .i64 l.a5, .int .i64 l.a6, .int .i64 l.a7] 22)) w1.heap.size l) := Lib.hid (BoxL.new w1 l.a0 l.a1 l.a2 l.a3 l.a4 l.a5 l.a6 l.a7)
  have hbel1 := (hbel.trans (hb1.mono hbel.size)).alloc (hbel.trans (hb1.mono hbel.size)).size (.cells #[.int .i64 l.a0, .int .i64 l.a1, .int .i64 l.a2, .int .i64 l.a3, .int .i64 l.a4, .int .i64 l.a5, .int .i64 l.a6, .int .i64 l.a7] 22)
  have hlo1 : w.heap.size ≤ w1.heap.size := (hbel.trans (hb1.mono hbel.size)).size
  clear hb1
  go_upto_region 2 with (fail)
  generalize w1.alloc (.cells #[.int .i64 l.a0, .int .i64 l.a1, .int .i64 l.a2, .int .i64 l.a3, .int .i64 l.a4, .int .i64 l.a5, .int .i64 l.a6, .int .i64 l.a7] 22) = W1 at *
  generalize w1.heap.size = bx at *
  obtain ⟨c0, c1, c2, c3, c4, c5, c6, c7⟩ := H1.out.snd.all
  go_wp2_with fail
  refine (Hmade2.out _).mono ?_
  rintro e2 w2 ⟨rfl, hb2⟩
  have X2 := Lib.hid (((X1.out.below hb2).alloc (.cells #[.int .i64 m.a0, .int .i64 m.a1, .int .i64 m.a2, .int .i64 m.a3, .int .i64 m.a4, .int .i64 m.a5, .int .i64 m.a6, .int .i64 m.a7] 22)).alloc (.cells #[.int .i64 zer.a0, .int .i64 zer.a1, .int .i64 zer.a2, .int .i64 zer.a3, .int .i64 zer.a4, .int .i64 zer.a5, .int .i64 zer.a6, .int .i64 zer.a7] 22))
  have Y2 : Hid (BoxL ((w2.alloc (.cells #[.int .i64 m.a0, .int .i64 m.a1, .int .i64 m.a2, .int .i64 m.a3, .int .i64 m.a4, .int .i64 m.a5, .int .i64 m.a6, .int .i64 m.a7] 22)).alloc (.cells #[.int .i64 zer.a0, .int .i64 zer.a1, .int .i64 zer.a2, .int .i64 zer.a3, .int .i64 zer.a4, .int .i64 zer.a5, .int .i64 zer.a6, .int .i64 zer.a7] 22)) w2.heap.size m) := Lib.hid ((BoxL.new w2 m.a0 m.a1 m.a2 m.a3 m.a4 m.a5 m.a6 m.a7).alloc _)
  have Z2 : Hid (BoxL ((w2.alloc (.cells #[.int .i64 m.a0, .int .i64 m.a1, .int .i64 m.a2, .int .i64 m.a3, .int .i64 m.a4, .int .i64 m.a5, .int .i64 m.a6, .int .i64 m.a7] 22)).alloc (.cells #[.int .i64 zer.a0, .int .i64 zer.a1, .int .i64 zer.a2, .int .i64 zer.a3, .int .i64 zer.a4, .int .i64 zer.a5, .int .i64 zer.a6, .int .i64 zer.a7] 22)) (w2.heap.size + 1) zer) := Lib.hid (by have := BoxL.new (w2.alloc (.cells #[.int .i64 m.a0, .int .i64 m.a1, .int .i64 m.a2, .int .i64 m.a3, .int .i64 m.a4, .int .i64 m.a5, .int .i64 m.a6, .int .i64 m.a7] 22)) zer.a0 zer.a1 zer.a2 zer.a3 zer.a4 zer.a5 zer.a6 zer.a7; simpa using this)
  have hbx : bx < w2.heap.size := (X1.out.below hb2).lt
  have hlo2 : w.heap.size ≤ w2.heap.size := (hbel1.trans (hb2.mono hbel1.size)).size
  have hbel2 := ((hbel1.trans (hb2.mono hbel1.size)).alloc (hbel1.trans (hb2.mono hbel1.size)).size (.cells #[.int .i64 m.a0, .int .i64 m.a1, .int .i64 m.a2, .int .i64 m.a3, .int .i64 m.a4, .int .i64 m.a5, .int .i64 m.a6, .int .i64 m.a7] 22)).alloc (by simp; omega) (.cells #[.int .i64 zer.a0, .int .i64 zer.a1, .int .i64 zer.a2, .int .i64 zer.a3, .int .i64 zer.a4, .int .i64 zer.a5, .int .i64 zer.a6, .int .i64 zer.a7] 22)
  clear hb2 c0 c1 c2 c3 c4 c5 c6 c7
  simp only [zer] at X2 Y2 Z2 hbel2
  go_upto_region 4 with (fail)
  generalize (w2.alloc (.cells #[.int .i64 m.a0, .int .i64 m.a1, .int .i64 m.a2, .int .i64 m.a3, .int .i64 m.a4, .int .i64 m.a5, .int .i64 m.a6, .int .i64 m.a7] 22)).alloc (.cells #[.int .i64 0, .int .i64 0, .int .i64 0, .int .i64 0, .int .i64 0, .int .i64 0, .int .i64 0, .int .i64 0] 22) = W2 at *
  obtain ⟨bz, hbz⟩ : ∃ bz, bz = w2.heap.size + 1 := ⟨_, rfl⟩
  have hyz : w2.heap.size ≠ bz := by omega
  have hxz : bx ≠ bz := by omega
  have hzlo : w.heap.size ≤ bz := by omega
  rw [← hbz] at Z2 ⊢
  clear hbz
  generalize w2.heap.size = by1 at *
  go_wp2
  go_loopw [8] (fun i wr => ∃ (k : Nat) (L : W8), k ≤ 8 ∧ i = .int .i64 k ∧ Hid (BoxL wr bx l) ∧ Hid (BoxL wr by1 m) ∧ Hid (BoxL wr bz L) ∧ Hid (∀ j, j < 8 → L.get j = if j < k then bits .xor .i64 (l.get j) (m.get j) else 0) ∧ Below w.heap.size w wr) (fun i _ => 8 - (intOf i).toNat)
  case atStart => exact ⟨0, ⟨0, 0, 0, 0, 0, 0, 0, 0⟩, by omega, rfl, X2, Y2, Z2, Lib.hid (fun j hj => by rcases lt8 hj with rfl | rfl | rfl | rfl | rfl | rfl | rfl | rfl <;> rfl), hbel2⟩
  case round =>
    obtain ⟨k, L, hk, rfl, X3, Y3, Z3, HL, hbel3⟩ := hrel
    by_cases hlt : k < 8
    · have h8 : decide ((k : Int) < 8) = true := by simp; omega
      have ki : (k : Int) < 8 := by omega
      have k0 : (0 : Int) ≤ (k : Int) := by omega
      have hc1 := X3.out.cell k hlt
      have hc2 := Y3.out.cell k hlt
      have hc3 := Z3.out.cell k hlt
      have hf3 := Z3.out.free k
      have x8 := X3.out.lt
      have y8 := Y3.out.lt
      have z8 := Z3.out.lt
      have HL' : Hid (∀ j, j < 8 → (L.set k (bits .xor .i64 (l.get k) (m.get k))).get j = if j < k + 1 then bits .xor .i64 (l.get j) (m.get j) else 0) := by
        refine Lib.hid fun j hj => ?_
        rw [W8.get_set _ _ _ _ hlt]
        by_cases h : j = k
        · subst h; rw [if_pos rfl, if_pos (by omega)]
        · rw [if_neg h, HL.out j hj]
          by_cases h2 : j < k
          · rw [if_pos h2, if_pos (by omega)]
          · rw [if_neg h2, if_neg (by omega)]
      have X4 := Lib.hid (X3.out.setOther (c := bz) (fun h => hxz h.symm) k (.int .i64 (bits .xor .i64 (l.get k) (m.get k))))
      have Y4 := Lib.hid (Y3.out.setOther (c := bz) (fun h => hyz h.symm) k (.int .i64 (bits .xor .i64 (l.get k) (m.get k))))
      have Z4 := Lib.hid (Z3.out.set k hlt (bits .xor .i64 (l.get k) (m.get k)))
      have hbel4 := hbel3.setCell (p := ⟨bz, k, none⟩) hzlo (.int .i64 (bits .xor .i64 (l.get k) (m.get k)))
      go_wp2
      go_region
      go_wp2
      go_roundw
      case rel => exact ⟨k + 1, L.set k (bits .xor .i64 (l.get k) (m.get k)), by omega, by go_num, X4, Y4, Z4, HL', hbel4.drew⟩
      case measure => simp [intOf]; omega
    · obtain rfl : k = 8 := by omega
      rw [show ((8 : Nat) : Int) = (8 : Int) from rfl]
      have hL : L = xorW l m := W8.ext_get fun j hj => by rw [HL.out j hj, if_pos hj, xorW_get l m j hj]
      subst hL
      clear HL X2 Y2 Z2 hbel2
      obtain ⟨c0, c1, c2, c3, c4, c5, c6, c7⟩ := X3.out.all
      go_wp2_with fail
      refine (Henc.out _ (HT.out.below hbel3)).mono ?_
      rintro e4 w4 ⟨rfl, hb4⟩
      have X4 := Lib.hid (X3.out.below hb4)
      have Y4 := Lib.hid (Y3.out.below hb4)
      have Z4 := Lib.hid (Z3.out.below hb4)
      have hbel4 := hbel3.trans (hb4.mono hbel3.size)
      clear hb4 c0 c1 c2 c3 c4 c5 c6 c7 X3 Y3 Z3
      obtain ⟨c0, c1, c2, c3, c4, c5, c6, c7⟩ := Y4.out.all
      go_wp2_with fail
      refine (Hencm.out _ (HT.out.below hbel4)).mono ?_
      rintro e5 w5 ⟨rfl, hb5⟩
      have X5 := Lib.hid (X4.out.below hb5)
      have Y5 := Lib.hid (Y4.out.below hb5)
      have Z5 := Lib.hid (Z4.out.below hb5)
      have hbel5 := hbel4.trans (hb5.mono hbel4.size)
      clear hb5 c0 c1 c2 c3 c4 c5 c6 c7 X4 Y4 Z4
      obtain ⟨c0, c1, c2, c3, c4, c5, c6, c7⟩ := X5.out.all
      obtain ⟨d0, d1, d2, d3, d4, d5, d6, d7⟩ := Y5.out.all
      go_wp2_with fail
      refine (Hdist.out _).mono ?_
      rintro e6 w6 ⟨rfl, hb6⟩
      have X6 := Lib.hid (X5.out.below hb6)
      have Y6 := Lib.hid (Y5.out.below hb6)
      have Z6 := Lib.hid (Z5.out.below hb6)
      have hbel6 := hbel5.trans (hb6.mono hbel5.size)
      clear hb6 c0 c1 c2 c3 c4 c5 c6 c7 d0 d1 d2 d3 d4 d5 d6 d7 X5 Y5 Z5
      go_wp2_with fail
      refine (sanity_any _ (HT.out.below hbel6)).mono ?_
      rintro e7 w7 ⟨rfl, hb7⟩
      have X7 := Lib.hid (X6.out.below hb7)
      have Y7 := Lib.hid (Y6.out.below hb7)
      have Z7 := Lib.hid (Z6.out.below hb7)
      have hbel7 := hbel6.trans (hb7.mono hbel6.size)
      clear hb7 X6 Y6 Z6
      obtain ⟨c0, c1, c2, c3, c4, c5, c6, c7⟩ := X7.out.all
      obtain ⟨d0, d1, d2, d3, d4, d5, d6, d7⟩ := Y7.out.all
      obtain ⟨z0, z1, z2, z3, z4, z5, z6, z7⟩ := Z7.out.all
      by_cases h4 : 4 ≤ ds
      · go_wp2_with fail
        refine (Hencx.out _ (HT.out.below hbel7)).mono ?_
        rintro e8 w8 ⟨rfl, hb8⟩
        have hbel8 := hbel7.trans (hb8.mono hbel7.size)
        clear hb8
        go_wp2
        go_ret
        exact ⟨rfl, hbel8⟩
      · obtain ⟨hds, hlm⟩ : ds = 0 ∧ l = m := Hd.out.resolve_left h4
        subst hds
        have heq := fun w => eq8 l m w
        rw [eqL_iff.2 hlm] at heq
        clear hlm
        go_wp2_with fail
        refine (Hencx.out _ (HT.out.below hbel7)).mono ?_
        rintro e8 w8 ⟨rfl, hb8⟩
        have hbel8 := hbel7.trans (hb8.mono hbel7.size)
        clear hb8
        go_wp2
        go_ret
        exact ⟨rfl, hbel8⟩

end Go.Proofs.YtmhllnnchhcamaaDoor
