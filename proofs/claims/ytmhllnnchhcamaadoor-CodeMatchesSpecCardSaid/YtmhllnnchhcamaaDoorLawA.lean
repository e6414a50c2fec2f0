/-
  The walk of CodeMatchesSpec: it returns true.
-/
import Derived.Test.YtmhllnnchhcamaaDoorCodeR
import Derived.Lib.QuietBelow
namespace Go.Proofs.YtmhllnnchhcamaaDoor
open Go.RowKit Go.Sort

theorem reg_B {P : Program} {f : FuncId} {args : Array Value} {w : World} {d : Nat} {os : Array Obj} {v : Value} (h : ∀ W, Below w.heap.size w W → Calls P f args W (RetB v W)) :
    Calls P f args (grow (redrawn w d) os) fun e w'' => e = .returned v ∧ ∃ p : Regrown, w'' = grow (redrawn w p.d) p.os := Calls.regrown_of (h _ (below_regrown w d os))
theorem reg_S {P : Program} {f : FuncId} {args : Array Value} {w : World} {d : Nat} {os : Array Obj} {v : Value} (h : ∀ W, Calls P f args W (RetS v W)) :
    Calls P f args (grow (redrawn w d) os) fun e w'' => e = .returned v ∧ ∃ p : Regrown, w'' = grow (redrawn w p.d) p.os := Calls.regrown_of ((h _).mono fun _ _ ⟨h1, h2⟩ => ⟨h1, by rw [h2]; exact Below.refl _ _⟩)

theorem rencode_l (l : W8) (w : World) : Calls Tryd.prog 15 #[(.agg #[.int .i64 l.a0, .int .i64 l.a1, .int .i64 l.a2, .int .i64 l.a3, .int .i64 l.a4, .int .i64 l.a5, .int .i64 l.a6, .int .i64 l.a7])] w (RetB (.int .i64 (enc l)) w) := rencode_any l.a0 l.a1 l.a2 l.a3 l.a4 l.a5 l.a6 l.a7 w

set_option maxRecDepth 100000 in
set_option maxHeartbeats 8000000 in
theorem matches_any (l m : W8) (c d a b : Int) (w : World) (hT : TabIn w) :
    Calls Tryd.prog 3 #[(.agg #[.int .i64 l.a0, .int .i64 l.a1, .int .i64 l.a2, .int .i64 l.a3, .int .i64 l.a4, .int .i64 l.a5, .int .i64 l.a6, .int .i64 l.a7]), .int .i64 c, (.agg #[.int .i64 m.a0, .int .i64 m.a1, .int .i64 m.a2, .int .i64 m.a3, .int .i64 m.a4, .int .i64 m.a5, .int .i64 m.a6, .int .i64 m.a7]), .int .i64 d, .int .i64 a, .int .i64 b] w (RetB (.bool true) w) := by
  have HT := Lib.hid hT
  clear hT
  have Hfix := Lib.hid (fun W hT => Fix_any l c W hT)
  have hrfix := fun W => rFix_any l c W
  have hpos := fun W => Position_any a b W
  have hrpos := fun W => rPosition_any a b W
  have Henc := Lib.hid (fun W hT => encode_l l W hT)
  have hrenc := fun W => rencode_l l W
  have Hchk := Lib.hid (fun W hT => checked_any l c W hT)
  have hrchk := fun W => rChecked_any l c W
  have hdist := fun W => Distance_any l m c d W
  have hrdist := fun W => rDistance_any l m c d W
  have hval := fun W => rvalid_l l c W
  have hflip := fun W => Flip_l l c a b W
  have hrflip := fun W => rFlip_l l c a b W
  generalize fix l c = r at *
  obtain ⟨x, n, e⟩ := r
  simp only at Hfix hrfix
  generalize chk l c = r at *
  obtain ⟨r0, r1, r2⟩ := r
  simp only at Hchk hrchk
  generalize posB a b = p at *
  generalize enc l = ec at *
  generalize dist l c m d = ds at *
  generalize flpL l a b = fl at *
  generalize flpC c a b = fc at *
  unfold arrOf at Hfix hrfix hflip hrflip
  have Hn := Lib.hid (Two.new w l m)
  have hbel := Two.bel w l m
  go_enter Tryd.func3, Tryd.ntmps3
  go_wp2_with fail
  generalize (w.alloc (.cells #[.int .i64 l.a0, .int .i64 l.a1, .int .i64 l.a2, .int .i64 l.a3, .int .i64 l.a4, .int .i64 l.a5, .int .i64 l.a6, .int .i64 l.a7] 22)).alloc (.cells #[.int .i64 m.a0, .int .i64 m.a1, .int .i64 m.a2, .int .i64 m.a3, .int .i64 m.a4, .int .i64 m.a5, .int .i64 m.a6, .int .i64 m.a7] 22) = W at *
  refine (Hfix.out _ (HT.out.below hbel)).mono ?_
  rintro e1 w1 ⟨rfl, hb1⟩
  have H1 := Lib.hid ((Hn.out.under hb1).alloc (.cells #[.int .i64 x.a0, .int .i64 x.a1, .int .i64 x.a2, .int .i64 x.a3, .int .i64 x.a4, .int .i64 x.a5, .int .i64 x.a6, .int .i64 x.a7] 22))
  have X1 : Hid (BoxL (w1.alloc (.cells #[.int .i64 x.a0, .int .i64 x.a1, .int .i64 x.a2, .int .i64 x.a3, .int .i64 x.a4, .int .i64 x.a5, .int .i64 x.a6, .int .i64 x.a7] 22)) w1.heap.size x) := Lib.hid (BoxL.new w1 x.a0 x.a1 x.a2 x.a3 x.a4 x.a5 x.a6 x.a7)
  have hbel1 := (hbel.trans (hb1.mono hbel.size)).alloc (hbel.trans (hb1.mono hbel.size)).size (.cells #[.int .i64 x.a0, .int .i64 x.a1, .int .i64 x.a2, .int .i64 x.a3, .int .i64 x.a4, .int .i64 x.a5, .int .i64 x.a6, .int .i64 x.a7] 22)
  clear hb1
  go_upto_region 2 with (fail)
  generalize w1.alloc (.cells #[.int .i64 x.a0, .int .i64 x.a1, .int .i64 x.a2, .int .i64 x.a3, .int .i64 x.a4, .int .i64 x.a5, .int .i64 x.a6, .int .i64 x.a7] 22) = W1 at *
  generalize w1.heap.size = bx at *
  obtain ⟨c0, c1, c2, c3, c4, c5, c6, c7⟩ := H1.out.fst.all
  go_wp2_with fail
  refine (hrfix _).mono ?_
  rintro e2 w2 ⟨rfl, hb2⟩
  have H2 := Lib.hid ((H1.out.under hb2).alloc (.cells #[.int .i64 x.a0, .int .i64 x.a1, .int .i64 x.a2, .int .i64 x.a3, .int .i64 x.a4, .int .i64 x.a5, .int .i64 x.a6, .int .i64 x.a7] 22))
  have X2 := Lib.hid ((X1.out.below hb2).alloc (.cells #[.int .i64 x.a0, .int .i64 x.a1, .int .i64 x.a2, .int .i64 x.a3, .int .i64 x.a4, .int .i64 x.a5, .int .i64 x.a6, .int .i64 x.a7] 22))
  have Y2 : Hid (BoxL (w2.alloc (.cells #[.int .i64 x.a0, .int .i64 x.a1, .int .i64 x.a2, .int .i64 x.a3, .int .i64 x.a4, .int .i64 x.a5, .int .i64 x.a6, .int .i64 x.a7] 22)) w2.heap.size x) := Lib.hid (BoxL.new w2 x.a0 x.a1 x.a2 x.a3 x.a4 x.a5 x.a6 x.a7)
  have hbel2 := (hbel1.trans (hb2.mono hbel1.size)).alloc (hbel1.trans (hb2.mono hbel1.size)).size (.cells #[.int .i64 x.a0, .int .i64 x.a1, .int .i64 x.a2, .int .i64 x.a3, .int .i64 x.a4, .int .i64 x.a5, .int .i64 x.a6, .int .i64 x.a7] 22)
  clear hb2 c0 c1 c2 c3 c4 c5 c6 c7
  go_upto_region 3 with (fail)
  generalize w2.alloc (.cells #[.int .i64 x.a0, .int .i64 x.a1, .int .i64 x.a2, .int .i64 x.a3, .int .i64 x.a4, .int .i64 x.a5, .int .i64 x.a6, .int .i64 x.a7] 22) = W2 at *
  generalize w2.heap.size = by' at *
  obtain ⟨a0, a1, a2, a3, a4, a5, a6, a7⟩ := H2.out.fst.all
  obtain ⟨b0, b1, b2, b3, b4, b5, b6, b7⟩ := H2.out.snd.all
  obtain ⟨x0, x1, x2, x3, x4, x5, x6, x7⟩ := X2.out.all
  obtain ⟨y0, y1, y2, y3, y4, y5, y6, y7⟩ := Y2.out.all
  have ka0 := cell_regrown a0; have ka1 := cell_regrown a1; have ka2 := cell_regrown a2; have ka3 := cell_regrown a3; have ka4 := cell_regrown a4; have ka5 := cell_regrown a5; have ka6 := cell_regrown a6; have ka7 := cell_regrown a7
  have kb0 := cell_regrown b0; have kb1 := cell_regrown b1; have kb2 := cell_regrown b2; have kb3 := cell_regrown b3; have kb4 := cell_regrown b4; have kb5 := cell_regrown b5; have kb6 := cell_regrown b6; have kb7 := cell_regrown b7
  have kx0 := cell_regrown x0; have kx1 := cell_regrown x1; have kx2 := cell_regrown x2; have kx3 := cell_regrown x3; have kx4 := cell_regrown x4; have kx5 := cell_regrown x5; have kx6 := cell_regrown x6; have kx7 := cell_regrown x7
  have ky0 := cell_regrown y0; have ky1 := cell_regrown y1; have ky2 := cell_regrown y2; have ky3 := cell_regrown y3; have ky4 := cell_regrown y4; have ky5 := cell_regrown y5; have ky6 := cell_regrown y6; have ky7 := cell_regrown y7
  clear a0 a1 a2 a3 a4 a5 a6 a7 b0 b1 b2 b3 b4 b5 b6 b7 x0 x1 x2 x3 x4 x5 x6 x7 y0 y1 y2 y3 y4 y5 y6 y7
  have heq := fun w => eq8 x x w
  rw [eqL_refl] at heq
  have q1 := fun (d : Nat) (os : Array Obj) => reg_S (w := W2) (d := d) (os := os) hpos
  have q2 := fun (d : Nat) (os : Array Obj) => reg_S (w := W2) (d := d) (os := os) hrpos
  have q3 := fun (d : Nat) (os : Array Obj) => reg_B (w := W2) (d := d) (os := os) (fun W h => Henc.out W ((HT.out.below hbel2).below h))
  have q4 := fun (d : Nat) (os : Array Obj) => reg_B (w := W2) (d := d) (os := os) (fun W _ => hrenc W)
  have q5 := fun (d : Nat) (os : Array Obj) => reg_B (w := W2) (d := d) (os := os) (fun W h => Hchk.out W ((HT.out.below hbel2).below h))
  have q6 := fun (d : Nat) (os : Array Obj) => reg_B (w := W2) (d := d) (os := os) (fun W _ => hrchk W)
  have q7 := fun (d : Nat) (os : Array Obj) => reg_B (w := W2) (d := d) (os := os) (fun W _ => hdist W)
  have q8 := fun (d : Nat) (os : Array Obj) => reg_B (w := W2) (d := d) (os := os) (fun W _ => hrdist W)
  go_wp2_with fail
  refine wp_region_quiet_below (by kernel_rfl) (by kernel_rfl) ?_
  repeat (quiet_step (first | exact q1 _ _ | exact q2 _ _ | exact q3 _ _ | exact q4 _ _ | exact q5 _ _ | exact q6 _ _ | exact q7 _ _ | exact q8 _ _))
  refine wpQuiet_nil ?_
  intro _ hw'
  obtain ⟨⟨dq, osq⟩, hw''⟩ := hw'
  subst hw''
  have hb3 := below_regrown W2 dq osq
  generalize grow (redrawn W2 dq) osq = W3 at *
  clear ka0 ka1 ka2 ka3 ka4 ka5 ka6 ka7 kb0 kb1 kb2 kb3 kb4 kb5 kb6 kb7 kx0 kx1 kx2 kx3 kx4 kx5 kx6 kx7 ky0 ky1 ky2 ky3 ky4 ky5 ky6 ky7 q1 q2 q3 q4 q5 q6 q7 q8
  have H3 := Lib.hid (H2.out.under hb3)
  have hbel3 := hbel2.trans (hb3.mono hbel2.size)
  clear hb3 heq
  obtain ⟨c0, c1, c2, c3, c4, c5, c6, c7⟩ := H3.out.fst.all
  go_wp2_with fail
  refine (hval _).mono ?_
  rintro e4 w4 ⟨rfl, hb4⟩
  have H4 := Lib.hid (H3.out.under hb4)
  have hbel4 := hbel3.trans (hb4.mono hbel3.size)
  clear hb4 c0 c1 c2 c3 c4 c5 c6 c7
  generalize validB l c = vb at *
  cases vb with
  | false =>
    have hsan := sanity_any w4 (HT.out.below hbel4)
    go_wp2_with fail
    refine hsan.mono ?_
    rintro e5 w5 ⟨rfl, hb5⟩
    have hbel5 := hbel4.trans (hb5.mono hbel4.size)
    clear hsan hb5
    go_wp2
    go_ret
    exact ⟨rfl, hbel5⟩
  | true =>
    obtain ⟨c0, c1, c2, c3, c4, c5, c6, c7⟩ := H4.out.fst.all
    go_wp2_with fail
    refine (hflip _).mono ?_
    rintro e5 w5 ⟨rfl, hb5⟩
    have H5 := Lib.hid ((H4.out.under hb5).alloc (.cells #[.int .i64 fl.a0, .int .i64 fl.a1, .int .i64 fl.a2, .int .i64 fl.a3, .int .i64 fl.a4, .int .i64 fl.a5, .int .i64 fl.a6, .int .i64 fl.a7] 22))
    have X5 : Hid (BoxL (w5.alloc (.cells #[.int .i64 fl.a0, .int .i64 fl.a1, .int .i64 fl.a2, .int .i64 fl.a3, .int .i64 fl.a4, .int .i64 fl.a5, .int .i64 fl.a6, .int .i64 fl.a7] 22)) w5.heap.size fl) := Lib.hid (BoxL.new w5 fl.a0 fl.a1 fl.a2 fl.a3 fl.a4 fl.a5 fl.a6 fl.a7)
    have hbel5 := (hbel4.trans (hb5.mono hbel4.size)).alloc (hbel4.trans (hb5.mono hbel4.size)).size (.cells #[.int .i64 fl.a0, .int .i64 fl.a1, .int .i64 fl.a2, .int .i64 fl.a3, .int .i64 fl.a4, .int .i64 fl.a5, .int .i64 fl.a6, .int .i64 fl.a7] 22)
    clear hb5 c0 c1 c2 c3 c4 c5 c6 c7
    go_upto_region 9 with (fail)
    generalize w5.alloc (.cells #[.int .i64 fl.a0, .int .i64 fl.a1, .int .i64 fl.a2, .int .i64 fl.a3, .int .i64 fl.a4, .int .i64 fl.a5, .int .i64 fl.a6, .int .i64 fl.a7] 22) = W5 at *
    generalize w5.heap.size = bf at *
    obtain ⟨c0, c1, c2, c3, c4, c5, c6, c7⟩ := H5.out.fst.all
    go_wp2_with fail
    refine (hrflip _).mono ?_
    rintro e6 w6 ⟨rfl, hb6⟩
    have X6 := Lib.hid ((X5.out.below hb6).alloc (.cells #[.int .i64 fl.a0, .int .i64 fl.a1, .int .i64 fl.a2, .int .i64 fl.a3, .int .i64 fl.a4, .int .i64 fl.a5, .int .i64 fl.a6, .int .i64 fl.a7] 22))
    have Y6 : Hid (BoxL (w6.alloc (.cells #[.int .i64 fl.a0, .int .i64 fl.a1, .int .i64 fl.a2, .int .i64 fl.a3, .int .i64 fl.a4, .int .i64 fl.a5, .int .i64 fl.a6, .int .i64 fl.a7] 22)) w6.heap.size fl) := Lib.hid (BoxL.new w6 fl.a0 fl.a1 fl.a2 fl.a3 fl.a4 fl.a5 fl.a6 fl.a7)
    have hbel6 := (hbel5.trans (hb6.mono hbel5.size)).alloc (hbel5.trans (hb6.mono hbel5.size)).size (.cells #[.int .i64 fl.a0, .int .i64 fl.a1, .int .i64 fl.a2, .int .i64 fl.a3, .int .i64 fl.a4, .int .i64 fl.a5, .int .i64 fl.a6, .int .i64 fl.a7] 22)
    clear hb6 c0 c1 c2 c3 c4 c5 c6 c7
    go_upto_region 10 with (fail)
    generalize w6.alloc (.cells #[.int .i64 fl.a0, .int .i64 fl.a1, .int .i64 fl.a2, .int .i64 fl.a3, .int .i64 fl.a4, .int .i64 fl.a5, .int .i64 fl.a6, .int .i64 fl.a7] 22) = W6 at *
    generalize w6.heap.size = bg at *
    have hsan := sanity_any W6 (HT.out.below hbel6)
    have heq := fun w => eq8 fl fl w
    rw [eqL_refl] at heq
    go_wp2_with fail
    refine hsan.mono ?_
    rintro e7 w7 ⟨rfl, hb7⟩
    have X7 := Lib.hid (X6.out.below hb7)
    have Y7 := Lib.hid (Y6.out.below hb7)
    have hbel7 := hbel6.trans (hb7.mono hbel6.size)
    clear hb7 hsan
    obtain ⟨c0, c1, c2, c3, c4, c5, c6, c7⟩ := X7.out.all
    obtain ⟨d0, d1, d2, d3, d4, d5, d6, d7⟩ := Y7.out.all
    go_wp2
    go_ret
    exact ⟨rfl, hbel7⟩

end Go.Proofs.YtmhllnnchhcamaaDoor
