/-
  The walk of the reference's Checked.
-/
import Derived.Test.YtlolaieolgmdnaaGreatDoorCodeL
namespace Go.Proofs.YtlolaieolgmdnaaGreatDoor
open Go.RowKit
set_option maxRecDepth 100000

theorem pow_tab : ∀ s : Fin 512, s.val ≠ 0 → (s.val &&& (s.val - 1) = 0 → s.val = 2 ^ Lib.ctz 64 s.val ∧ Lib.ctz 64 s.val < 9) := by decide +kernel
theorem pow_two : ∀ j : Fin 9, (2 ^ j.val &&& (2 ^ j.val - 1) = 0) ∧ Lib.ctz 64 (2 ^ j.val) = j.val ∧ 2 ^ j.val < 512 := by decide +kernel

theorem chk_pow (l : W8) (n : Nat) (hv : validB l n = true) (ho : oddC l n = true) (j : Nat) (hj : j < 9) (hs : synC l n = 2 ^ j) : chk l n = (1, 8, ((j : Nat) : Int)) := by
  obtain ⟨h1, h2, _⟩ := pow_two ⟨j, hj⟩
  simp only at h1 h2
  have h0 : (2 : Nat) ^ j ≠ 0 := by have := Nat.two_pow_pos j; omega
  unfold chk
  rw [if_pos hv, ho, if_pos rfl, hs, if_neg h0, if_pos h1, h2]
theorem not_pow (s : Nat) (hs : s < 512) (h0 : s ≠ 0) (h : ∀ k, k < 9 → s ≠ 2 ^ k) : s &&& (s - 1) ≠ 0 := by
  intro hp
  obtain ⟨h1, h2⟩ := pow_tab ⟨s, hs⟩ h0 hp
  exact h _ h2 h1
theorem chk_some (l : W8) (n : Nat) (hv : validB l n = true) (ho : oddC l n = true) (h0 : synC l n ≠ 0) (h : ∀ k, k < 9 → synC l n ≠ 2 ^ k) (i : Nat) (hi : i < 320) (hp : posn i = synC l n) :
    chk l n = (1, (i : Int) / 40, (i : Int) % 40) := by
  rw [fnd_eq l n hv ho h0 (not_pow _ (synC_lt l n) h0 h)]
  unfold fnd; rw [findP_some hi hp]; simp
theorem chk_none (l : W8) (n : Nat) (hv : validB l n = true) (ho : oddC l n = true) (h0 : synC l n ≠ 0) (h : ∀ k, k < 9 → synC l n ≠ 2 ^ k) (hp : ∀ i, i < 320 → posn i ≠ synC l n) :
    chk l n = (2, 0, 0) := by
  rw [fnd_eq l n hv ho h0 (not_pow _ (synC_lt l n) h0 h)]
  unfold fnd; rw [findP_none hp]

theorem rvalid_l (l : W8) (c : Int) (w : World) : Calls Tryz.prog 112 #[(.agg #[.int .i64 l.a0, .int .i64 l.a1, .int .i64 l.a2, .int .i64 l.a3, .int .i64 l.a4, .int .i64 l.a5, .int .i64 l.a6, .int .i64 l.a7]), .int .i64 c] w (RetB (.bool (validB l c)) w) := rvalid_any l.a0 l.a1 l.a2 l.a3 l.a4 l.a5 l.a6 l.a7 c w
theorem syndrome_l (l : W8) (c : Int) (w : World) (hv : validB l c = true) : Calls Tryz.prog 132 #[(.agg #[.int .i64 l.a0, .int .i64 l.a1, .int .i64 l.a2, .int .i64 l.a3, .int .i64 l.a4, .int .i64 l.a5, .int .i64 l.a6, .int .i64 l.a7]), .int .i64 c] w (RetB (.tuple #[.int .i64 (synC l c : Nat), .int .i64 (oddR l c : Nat)]) w) := syndrome_any l.a0 l.a1 l.a2 l.a3 l.a4 l.a5 l.a6 l.a7 c w hv

/-- The end of Checked: three stores into the block of the result. -/
theorem box3_end {w W : World} {x y z : Int} (h : Box3 W (w.heap.size + 1) x y z) (hb : Below w.heap.size w W) (r0 r1 r2 : Int) :
    Box3 (((W.setCell ⟨w.heap.size + 1, 0, none⟩ (.int .i64 r0)).setCell ⟨w.heap.size + 1, 1, none⟩ (.int .i64 r1)).setCell ⟨w.heap.size + 1, 2, none⟩ (.int .i64 r2)) (w.heap.size + 1) r0 r1 r2 ∧
    Below w.heap.size w (((W.setCell ⟨w.heap.size + 1, 0, none⟩ (.int .i64 r0)).setCell ⟨w.heap.size + 1, 1, none⟩ (.int .i64 r1)).setCell ⟨w.heap.size + 1, 2, none⟩ (.int .i64 r2)) :=
  ⟨h.sets r0 r1 r2, ((hb.setCell (Nat.le_succ _) _).setCell (Nat.le_succ _) _).setCell (Nat.le_succ _) _⟩

set_option maxHeartbeats 2000000 in
/-- The reference's Checked, where the line is not valid. -/
theorem rchk_no (l : W8) (c : Int) (w : World) (hv : validB l c = false) :
    Calls Tryz.prog 109 #[(.agg #[.int .i64 l.a0, .int .i64 l.a1, .int .i64 l.a2, .int .i64 l.a3, .int .i64 l.a4, .int .i64 l.a5, .int .i64 l.a6, .int .i64 l.a7]), .int .i64 c] w (RetB (.agg #[.int .i64 2, .int .i64 0, .int .i64 0]) w) := by
  have hval := fun W => rvalid_l l c W
  rw [hv] at hval
  clear hv
  have Hb := Lib.hid (Box3.new (w.alloc (.cells #[.int .i64 l.a0, .int .i64 l.a1, .int .i64 l.a2, .int .i64 l.a3, .int .i64 l.a4, .int .i64 l.a5, .int .i64 l.a6, .int .i64 l.a7] 80)) 0 0 0)
  have hbel := ((Below.refl w.heap.size w).alloc (Nat.le_refl _) (.cells #[.int .i64 l.a0, .int .i64 l.a1, .int .i64 l.a2, .int .i64 l.a3, .int .i64 l.a4, .int .i64 l.a5, .int .i64 l.a6, .int .i64 l.a7] 80)).alloc (by simp) (.cells #[.int .i64 0, .int .i64 0, .int .i64 0] 159)
  rw [World.size_alloc] at Hb
  go_enter Tryz.func109, Tryz.ntmps109
  go_wp2_with fail
  generalize (w.alloc (.cells #[.int .i64 l.a0, .int .i64 l.a1, .int .i64 l.a2, .int .i64 l.a3, .int .i64 l.a4, .int .i64 l.a5, .int .i64 l.a6, .int .i64 l.a7] 80)).alloc (.cells #[.int .i64 0, .int .i64 0, .int .i64 0] 159) = W at *
  refine (hval _).mono ?_
  rintro e w1 ⟨rfl, hb1⟩
  have H1 := Lib.hid (Hb.out.below hb1)
  have hbel1 := hbel.trans (hb1.mono hbel.size)
  clear hb1
  obtain ⟨c0, c1, c2⟩ := H1.out.cells
  have hf := H1.out.free
  obtain ⟨h2, hbel2⟩ := box3_end H1.out hbel1 2 0 0
  have H2 := Lib.hid h2
  clear h2
  go_wp2
  generalize ((w1.setCell ⟨w.heap.size + 1, 0, none⟩ (.int .i64 2)).setCell ⟨w.heap.size + 1, 1, none⟩ (.int .i64 0)).setCell ⟨w.heap.size + 1, 2, none⟩ (.int .i64 0) = W9 at *
  obtain ⟨d0, d1, d2⟩ := H2.out.cells
  exact bodyPost_ret (v := .agg #[.int .i64 2, .int .i64 0, .int .i64 0]) (by simp [results, Tryz.results109, go_sem, d0, d1, d2]) rfl ⟨rfl, hbel2⟩

set_option maxHeartbeats 4000000 in
/-- The reference's Checked at a valid line. -/
theorem rchk_yes (l : W8) (n : Nat) (w : World) (hv : validB l n = true) :
    Calls Tryz.prog 109 #[(.agg #[.int .i64 l.a0, .int .i64 l.a1, .int .i64 l.a2, .int .i64 l.a3, .int .i64 l.a4, .int .i64 l.a5, .int .i64 l.a6, .int .i64 l.a7]), .int .i64 n] w (RetB (.agg #[.int .i64 (chk l n).1, .int .i64 (chk l n).2.1, .int .i64 (chk l n).2.2]) w) := by
  have hval := fun W => rvalid_l l n W
  have hsyn := fun W => syndrome_l l n W hv
  rw [hv] at hval
  have hx512 := synC_lt l n
  have hodd : oddC l n = (oddR l n == 1) := rfl
  have hodd2 : oddR l n < 2 := by unfold oddR; omega
  have Hpow := Lib.hid (chk_pow l n hv)
  have Hsome := Lib.hid (chk_some l n hv)
  have Hnone := Lib.hid (chk_none l n hv)
  have He0 : Hid (oddC l n = false → synC l n = 0 → chk l n = (0, 0, 0)) := fun ho h0 => by unfold chk; rw [if_pos hv, ho, if_neg (by simp), if_pos h0]
  have HeN : Hid (oddC l n = false → synC l n ≠ 0 → chk l n = (2, 0, 0)) := fun ho h0 => by unfold chk; rw [if_pos hv, ho, if_neg (by simp), if_neg h0]
  have Ho0 : Hid (oddC l n = true → synC l n = 0 → chk l n = (1, 8, 9)) := fun ho h0 => by unfold chk; rw [if_pos hv, ho, if_pos rfl, if_pos h0]
  clear hv
  have Hodd := Lib.hid hodd
  clear hodd
  generalize synC l n = s at *
  generalize oddC l n = od at *
  generalize oddR l n = p at *
  generalize chk l n = r at *
  have Hb := Lib.hid (Box3.new (w.alloc (.cells #[.int .i64 l.a0, .int .i64 l.a1, .int .i64 l.a2, .int .i64 l.a3, .int .i64 l.a4, .int .i64 l.a5, .int .i64 l.a6, .int .i64 l.a7] 80)) 0 0 0)
  have Hl := Lib.hid ((BoxL.new w l.a0 l.a1 l.a2 l.a3 l.a4 l.a5 l.a6 l.a7).alloc (.cells #[.int .i64 0, .int .i64 0, .int .i64 0] 159))
  have hbel := ((Below.refl w.heap.size w).alloc (Nat.le_refl _) (.cells #[.int .i64 l.a0, .int .i64 l.a1, .int .i64 l.a2, .int .i64 l.a3, .int .i64 l.a4, .int .i64 l.a5, .int .i64 l.a6, .int .i64 l.a7] 80)).alloc (by simp) (.cells #[.int .i64 0, .int .i64 0, .int .i64 0] 159)
  rw [World.size_alloc] at Hb
  go_enter Tryz.func109, Tryz.ntmps109
  go_wp2_with fail
  generalize (w.alloc (.cells #[.int .i64 l.a0, .int .i64 l.a1, .int .i64 l.a2, .int .i64 l.a3, .int .i64 l.a4, .int .i64 l.a5, .int .i64 l.a6, .int .i64 l.a7] 80)).alloc (.cells #[.int .i64 0, .int .i64 0, .int .i64 0] 159) = W at *
  refine (hval _).mono ?_
  rintro e w1 ⟨rfl, hb1⟩
  have H1 := Lib.hid (Hb.out.below hb1)
  have Hl1 : Hid (BoxL w1 w.heap.size l) := Lib.hid (Hl.out.below hb1)
  have hbel1 := hbel.trans (hb1.mono hbel.size)
  clear hb1
  obtain ⟨c0, c1, c2, c3, c4, c5, c6, c7⟩ := Hl1.out.all
  go_wp2_with fail
  refine (hsyn _).mono ?_
  rintro e w2 ⟨rfl, hb2⟩
  have H2 := Lib.hid (H1.out.below hb2)
  have hbel2 := hbel1.trans (hb2.mono hbel1.size)
  clear hb2 c0 c1 c2 c3 c4 c5 c6 c7
  obtain ⟨c0, c1, c2⟩ := H2.out.cells
  have hf := H2.out.free
  by_cases hp : p = 0
  · subst hp
    by_cases hs : s = 0
    · subst hs
      obtain ⟨h3, hbel3⟩ := box3_end H2.out hbel2 0 0 0
      have H3 := Lib.hid h3
      clear h3
      go_wp2
      generalize ((w2.setCell ⟨w.heap.size + 1, 0, none⟩ (.int .i64 0)).setCell ⟨w.heap.size + 1, 1, none⟩ (.int .i64 0)).setCell ⟨w.heap.size + 1, 2, none⟩ (.int .i64 0) = W9 at *
      obtain ⟨d0, d1, d2⟩ := H3.out.cells
      rw [He0.out Hodd.out trivial]
      exact bodyPost_ret (v := .agg #[.int .i64 0, .int .i64 0, .int .i64 0]) (by simp [results, Tryz.results109, go_sem, d0, d1, d2]) rfl ⟨rfl, hbel3⟩
    · have hsb : ((s : Int) == 0) = false := by rw [beq_eq_false_iff_ne]; omega
      obtain ⟨h3, hbel3⟩ := box3_end H2.out hbel2 2 0 0
      have H3 := Lib.hid h3
      clear h3
      go_wp2
      generalize ((w2.setCell ⟨w.heap.size + 1, 0, none⟩ (.int .i64 2)).setCell ⟨w.heap.size + 1, 1, none⟩ (.int .i64 0)).setCell ⟨w.heap.size + 1, 2, none⟩ (.int .i64 0) = W9 at *
      obtain ⟨d0, d1, d2⟩ := H3.out.cells
      rw [HeN.out Hodd.out hs]
      exact bodyPost_ret (v := .agg #[.int .i64 2, .int .i64 0, .int .i64 0]) (by simp [results, Tryz.results109, go_sem, d0, d1, d2]) rfl ⟨rfl, hbel3⟩
  · obtain rfl : p = 1 := by omega
    by_cases hs : s = 0
    · subst hs
      obtain ⟨h3, hbel3⟩ := box3_end H2.out hbel2 1 8 9
      have H3 := Lib.hid h3
      clear h3
      go_wp2
      generalize ((w2.setCell ⟨w.heap.size + 1, 0, none⟩ (.int .i64 1)).setCell ⟨w.heap.size + 1, 1, none⟩ (.int .i64 8)).setCell ⟨w.heap.size + 1, 2, none⟩ (.int .i64 9) = W9 at *
      obtain ⟨d0, d1, d2⟩ := H3.out.cells
      rw [Ho0.out Hodd.out trivial]
      exact bodyPost_ret (v := .agg #[.int .i64 1, .int .i64 8, .int .i64 9]) (by simp [results, Tryz.results109, go_sem, d0, d1, d2]) rfl ⟨rfl, hbel3⟩
    · have hsb : ((s : Int) == 0) = false := by rw [beq_eq_false_iff_ne]; omega
      go_wp2
      go_loop [8] (fun i => ∃ j : Nat, j ≤ 9 ∧ i = .int .i64 j ∧ Hid (∀ k, k < j → s ≠ 2 ^ k)) (fun i => 9 - (intOf i).toNat)
      case atStart => exact ⟨0, by omega, rfl, fun k h => by omega⟩
      case round =>
        obtain ⟨j, hj, rfl, Hj⟩ := hrel
        by_cases hj9 : j < 9
        · obtain ⟨q, hq⟩ : ∃ q, q = 2 ^ j := ⟨_, rfl⟩
          have hq512 : q < 512 := by rw [hq]; exact (pow_two ⟨j, hj9⟩).2.2
          have hw : wrap64 (2 ^ j) = (q : Int) := by
            have e : (2 : Int) ^ j = (q : Int) := by rw [hq]; simp
            rw [e, IntWalk.wrap64_in _ (by omega)]
          have h9b : decide ((j : Int) < 9) = true := by simp; omega
          have Hq := Lib.hid hq
          clear hq
          by_cases hsq : s = q
          · have hsqb : ((s : Int) == (q : Int)) = true := by rw [beq_iff_eq]; omega
            have Hsq := Lib.hid hsq
            clear hsq
            obtain ⟨h3, hbel3⟩ := box3_end H2.out hbel2 1 8 j
            have H3 := Lib.hid h3
            clear h3
            go_wp2
            generalize ((w2.setCell ⟨w.heap.size + 1, 0, none⟩ (.int .i64 1)).setCell ⟨w.heap.size + 1, 1, none⟩ (.int .i64 8)).setCell ⟨w.heap.size + 1, 2, none⟩ (.int .i64 j) = W9 at *
            obtain ⟨d0, d1, d2⟩ := H3.out.cells
            rw [Hpow.out Hodd.out j hj9 (by rw [Hsq.out, Hq.out])]
            exact bodyPost_ret (v := .agg #[.int .i64 1, .int .i64 8, .int .i64 j]) (by simp [results, Tryz.results109, go_sem, d0, d1, d2]) rfl ⟨rfl, hbel3⟩
          · have hsqb : ((s : Int) == (q : Int)) = false := by rw [beq_eq_false_iff_ne]; omega
            have Hsq := Lib.hid hsq
            clear hsq
            go_wp2
            go_round
            case rel => exact ⟨j + 1, by omega, by go_num, fun k hk => by
              rcases (by omega : k < j ∨ k = j) with h | rfl
              · exact Hj.out k h
              · rw [← Hq.out]; exact Hsq.out⟩
            case measure => simp [intOf]; omega
        · obtain rfl : j = 9 := by omega
          rw [show ((9 : Nat) : Int) = (9 : Int) from rfl]
          go_wp2
          go_loop [9] (fun i => ∃ j : Nat, j ≤ 320 ∧ i = .int .i64 j ∧ Hid (∀ k, k < j → posn k ≠ s)) (fun i => 320 - (intOf i).toNat)
          case atStart => exact ⟨0, by omega, rfl, fun k h => by omega⟩
          case round =>
            obtain ⟨i, hi, rfl, Hi⟩ := hrel
            by_cases hi320 : i < 320
            · have hpl := fun W => place_any i W hi320
              have hib : decide ((i : Int) < 320) = true := by simp; omega
              by_cases hsq : posn i = s
              · have hsqb : (((posn i : Nat) : Int) == (s : Int)) = true := by rw [beq_iff_eq]; omega
                have Hsq := Lib.hid hsq
                clear hsq
                obtain ⟨h3, hbel3⟩ := box3_end H2.out hbel2 1 ((i : Int) / 40) ((i : Int) % 40)
                have H3 := Lib.hid h3
                clear h3
                go_wp2_with fail
                refine (hpl _).mono ?_
                rintro e w' ⟨rfl, rfl⟩
                go_wp2
                generalize ((w2.setCell ⟨w.heap.size + 1, 0, none⟩ (.int .i64 1)).setCell ⟨w.heap.size + 1, 1, none⟩ (.int .i64 ((i : Int) / 40))).setCell ⟨w.heap.size + 1, 2, none⟩ (.int .i64 ((i : Int) % 40)) = W9 at *
                obtain ⟨d0, d1, d2⟩ := H3.out.cells
                rw [Hsome.out Hodd.out hs Hj.out i hi320 Hsq.out]
                exact bodyPost_ret (v := .agg #[.int .i64 1, .int .i64 ((i : Int) / 40), .int .i64 ((i : Int) % 40)]) (by simp [results, Tryz.results109, go_sem, d0, d1, d2]) rfl ⟨rfl, hbel3⟩
              · have hsqb : (((posn i : Nat) : Int) == (s : Int)) = false := by rw [beq_eq_false_iff_ne]; omega
                have Hsq := Lib.hid hsq
                clear hsq
                go_wp2_with fail
                refine (hpl _).mono ?_
                rintro e w' ⟨rfl, rfl⟩
                go_wp2
                go_round
                case rel => exact ⟨i + 1, by omega, by go_num, fun k hk => by
                  rcases (by omega : k < i ∨ k = i) with h | rfl
                  · exact Hi.out k h
                  · exact Hsq.out⟩
                case measure => simp [intOf]; omega
            · obtain rfl : i = 320 := by omega
              obtain ⟨h3, hbel3⟩ := box3_end H2.out hbel2 2 0 0
              have H3 := Lib.hid h3
              clear h3
              rw [show ((320 : Nat) : Int) = (320 : Int) from rfl]
              go_wp2
              generalize ((w2.setCell ⟨w.heap.size + 1, 0, none⟩ (.int .i64 2)).setCell ⟨w.heap.size + 1, 1, none⟩ (.int .i64 0)).setCell ⟨w.heap.size + 1, 2, none⟩ (.int .i64 0) = W9 at *
              obtain ⟨d0, d1, d2⟩ := H3.out.cells
              rw [Hnone.out Hodd.out hs Hj.out Hi.out]
              exact bodyPost_ret (v := .agg #[.int .i64 2, .int .i64 0, .int .i64 0]) (by simp [results, Tryz.results109, go_sem, d0, d1, d2]) rfl ⟨rfl, hbel3⟩

/-- The reference's Checked. -/
theorem rChecked_any (l : W8) (c : Int) (w : World) :
    Calls Tryz.prog 109 #[(.agg #[.int .i64 l.a0, .int .i64 l.a1, .int .i64 l.a2, .int .i64 l.a3, .int .i64 l.a4, .int .i64 l.a5, .int .i64 l.a6, .int .i64 l.a7]), .int .i64 c] w (RetB (.agg #[.int .i64 (chk l c).1, .int .i64 (chk l c).2.1, .int .i64 (chk l c).2.2]) w) := by
  cases hv : validB l c with
  | false =>
    have e : chk l c = (2, 0, 0) := by unfold chk; rw [hv]; rfl
    rw [e]; exact rchk_no l c w hv
  | true =>
    obtain ⟨n, rfl, hn⟩ := validB_nat hv
    exact rchk_yes l n w hv

end Go.Proofs.YtlolaieolgmdnaaGreatDoor
