/-
  The walk of Distance.
-/
import Derived.Test.YtmhllnnchhcamaaDoorCodeO
import Derived.Deep.RegionWith
import Derived.StillTailTactics
import Derived.Deep.QuietTactic
import Derived.BigQuiet
namespace Go.Proofs.YtmhllnnchhcamaaDoor
open Go.RowKit

def CntPost (w : World) (B : Nat) (v : Int) (e : Ending) (w' : World) : Prop := e = .returned (.tuple #[]) ∧ w' = (w.setCell ⟨B, 0, none⟩ (.int .i64 v)).drew

set_option maxHeartbeats 1000000 in
theorem count_any (x y : Nat) (hx : x < 1099511627776) (hy : y < 1099511627776) (B : Nat) (n : Int) (hn0 : 0 ≤ n) (hn1 : n ≤ 400) (w : World) (hB : Boxed w B 3 (.int .i64 n)) :
    Calls Tryd.prog 35 #[.int .i64 x, .int .i64 y, .pointer (some ⟨B, 0, none⟩)] w (CntPost w B (n + (pop 40 (x ^^^ y) : Nat))) := by
  have hxor := xor_i64 x y (by omega) (by omega)
  have hlt : x ^^^ y < 1099511627776 := Nat.xor_lt_two_pow (n := 40) hx hy
  have hones := fun W => ones_any (x ^^^ y) hlt W
  have hp := pop_le 40 (x ^^^ y)
  generalize pop 40 (x ^^^ y) = q at *
  generalize x ^^^ y = z at *
  have hwz : IntKind.u64.wrap (z : Int) = (z : Int) := wrap_u64_in _ (by omega) (by omega)
  have hws : IntKind.i64.wrap (n + (q : Int)) = n + (q : Int) := wrap_i64_in _ (by omega) (by omega)
  have c0 := hB.cell
  have f0 := hB.frozen
  have Hb := Lib.hid hB
  clear hB
  go_enter Tryd.func35, Tryd.ntmps35
  go_wp2
  go_region_with (go_at_call 33; refine (hones _).mono ?_; rintro e w' ⟨rfl, rfl⟩)
  all_goals
    go_end0
    exact ⟨rfl, rfl⟩

/-- In how many bits the first k words differ. -/
def dsum (l m : W8) : Nat → Nat
  | 0 => 0
  | k + 1 => dsum l m k + pop 40 (wd l k ^^^ wd m k)
theorem dsum_succ (l m : W8) (k : Nat) : dsum l m (k + 1) = dsum l m k + pop 40 (wd l k ^^^ wd m k) := rfl
theorem dsum_le (l m : W8) (k : Nat) : dsum l m k ≤ 40 * k := by
  induction k with
  | zero => exact Nat.le_refl _
  | succ k ih => rw [dsum_succ]; have := pop_le 40 (wd l k ^^^ wd m k); omega

/-- What Distance answers. -/
def dist (l : W8) (c : Int) (m : W8) (d : Int) : Int := if validB l c && validB m d then ((dsum l m 8 + pop 40 (c.toNat ^^^ d.toNat) : Nat) : Int) else -1

/-- Distance's two lines, in their boxes. -/
structure Two (W : World) (n : Nat) (l m : W8) : Prop where
  fst : BoxL W n l
  snd : BoxL W (n + 1) m
theorem Two.under {W W' : World} {n : Nat} {l m : W8} (h : Two W n l m) (hb : Below W.heap.size W W') : Two W' n l m := ⟨h.fst.below hb, h.snd.below hb⟩
theorem Two.alloc {W : World} {n : Nat} {l m : W8} (h : Two W n l m) (o : Obj) : Two (W.alloc o) n l m := ⟨h.fst.alloc _, h.snd.alloc _⟩
theorem Two.new (w : World) (l m : W8) : Two ((w.alloc (.cells #[.int .i64 l.a0, .int .i64 l.a1, .int .i64 l.a2, .int .i64 l.a3, .int .i64 l.a4, .int .i64 l.a5, .int .i64 l.a6, .int .i64 l.a7] 22)).alloc (.cells #[.int .i64 m.a0, .int .i64 m.a1, .int .i64 m.a2, .int .i64 m.a3, .int .i64 m.a4, .int .i64 m.a5, .int .i64 m.a6, .int .i64 m.a7] 22)) w.heap.size l m :=
  ⟨(BoxL.new w l.a0 l.a1 l.a2 l.a3 l.a4 l.a5 l.a6 l.a7).alloc _, by have := BoxL.new (w.alloc (.cells #[.int .i64 l.a0, .int .i64 l.a1, .int .i64 l.a2, .int .i64 l.a3, .int .i64 l.a4, .int .i64 l.a5, .int .i64 l.a6, .int .i64 l.a7] 22)) m.a0 m.a1 m.a2 m.a3 m.a4 m.a5 m.a6 m.a7; simpa using this⟩
theorem Two.bel (w : World) (l m : W8) : Below w.heap.size w ((w.alloc (.cells #[.int .i64 l.a0, .int .i64 l.a1, .int .i64 l.a2, .int .i64 l.a3, .int .i64 l.a4, .int .i64 l.a5, .int .i64 l.a6, .int .i64 l.a7] 22)).alloc (.cells #[.int .i64 m.a0, .int .i64 m.a1, .int .i64 m.a2, .int .i64 m.a3, .int .i64 m.a4, .int .i64 m.a5, .int .i64 m.a6, .int .i64 m.a7] 22)) := ((Below.refl _ _).alloc (Nat.le_refl _) _).alloc (by simp) _

set_option maxHeartbeats 1000000 in
/-- Distance, where the first line is not valid. -/
theorem dist_no1 (l m : W8) (c d : Int) (w : World) (hv : validB l c = false) :
    Calls Tryd.prog 18 #[(.agg #[.int .i64 l.a0, .int .i64 l.a1, .int .i64 l.a2, .int .i64 l.a3, .int .i64 l.a4, .int .i64 l.a5, .int .i64 l.a6, .int .i64 l.a7]), .int .i64 c, (.agg #[.int .i64 m.a0, .int .i64 m.a1, .int .i64 m.a2, .int .i64 m.a3, .int .i64 m.a4, .int .i64 m.a5, .int .i64 m.a6, .int .i64 m.a7]), .int .i64 d] w (RetB (.int .i64 (-1)) w) := by
  have hval := fun W => valid_l l c W
  rw [hv] at hval
  clear hv
  have Hn := Lib.hid (Two.new w l m)
  have hbel := Two.bel w l m
  go_enter Tryd.func18, Tryd.ntmps18
  go_wp2_with fail
  generalize (w.alloc (.cells #[.int .i64 l.a0, .int .i64 l.a1, .int .i64 l.a2, .int .i64 l.a3, .int .i64 l.a4, .int .i64 l.a5, .int .i64 l.a6, .int .i64 l.a7] 22)).alloc (.cells #[.int .i64 m.a0, .int .i64 m.a1, .int .i64 m.a2, .int .i64 m.a3, .int .i64 m.a4, .int .i64 m.a5, .int .i64 m.a6, .int .i64 m.a7] 22) = W at *
  refine (hval _).mono ?_
  rintro e w1 ⟨rfl, hb1⟩
  have hbel1 := hbel.trans (hb1.mono hbel.size)
  clear hb1
  go_wp2
  go_ret
  exact ⟨rfl, hbel1⟩

set_option maxHeartbeats 1000000 in
/-- Distance, where the second line is not valid. -/
theorem dist_no2 (l m : W8) (c d : Int) (w : World) (hv : validB l c = true) (hv2 : validB m d = false) :
    Calls Tryd.prog 18 #[(.agg #[.int .i64 l.a0, .int .i64 l.a1, .int .i64 l.a2, .int .i64 l.a3, .int .i64 l.a4, .int .i64 l.a5, .int .i64 l.a6, .int .i64 l.a7]), .int .i64 c, (.agg #[.int .i64 m.a0, .int .i64 m.a1, .int .i64 m.a2, .int .i64 m.a3, .int .i64 m.a4, .int .i64 m.a5, .int .i64 m.a6, .int .i64 m.a7]), .int .i64 d] w (RetB (.int .i64 (-1)) w) := by
  have hval := fun W => valid_l l c W
  have hval2 := fun W => valid_l m d W
  rw [hv] at hval
  rw [hv2] at hval2
  clear hv hv2
  have Hn := Lib.hid (Two.new w l m)
  have hbel := Two.bel w l m
  go_enter Tryd.func18, Tryd.ntmps18
  go_wp2_with fail
  generalize (w.alloc (.cells #[.int .i64 l.a0, .int .i64 l.a1, .int .i64 l.a2, .int .i64 l.a3, .int .i64 l.a4, .int .i64 l.a5, .int .i64 l.a6, .int .i64 l.a7] 22)).alloc (.cells #[.int .i64 m.a0, .int .i64 m.a1, .int .i64 m.a2, .int .i64 m.a3, .int .i64 m.a4, .int .i64 m.a5, .int .i64 m.a6, .int .i64 m.a7] 22) = W at *
  refine (hval _).mono ?_
  rintro e w1 ⟨rfl, hb1⟩
  have H1 := Lib.hid (Hn.out.under hb1)
  have hbel1 := hbel.trans (hb1.mono hbel.size)
  clear hb1
  obtain ⟨c0, c1, c2, c3, c4, c5, c6, c7⟩ := H1.out.snd.all
  go_wp2_with fail
  refine (hval2 _).mono ?_
  rintro e w2 ⟨rfl, hb2⟩
  have hbel2 := hbel1.trans (hb2.mono hbel1.size)
  clear hb2 c0 c1 c2 c3 c4 c5 c6 c7
  go_wp2
  go_ret
  exact ⟨rfl, hbel2⟩

set_option maxHeartbeats 2000000 in
/-- Distance of two valid lines. -/
theorem dist_yes (l m : W8) (c d : Nat) (w : World) (hv : validB l c = true) (hv2 : validB m d = true) :
    Calls Tryd.prog 18 #[(.agg #[.int .i64 l.a0, .int .i64 l.a1, .int .i64 l.a2, .int .i64 l.a3, .int .i64 l.a4, .int .i64 l.a5, .int .i64 l.a6, .int .i64 l.a7]), .int .i64 c, (.agg #[.int .i64 m.a0, .int .i64 m.a1, .int .i64 m.a2, .int .i64 m.a3, .int .i64 m.a4, .int .i64 m.a5, .int .i64 m.a6, .int .i64 m.a7]), .int .i64 d] w (RetB (.int .i64 ((dsum l m 8 + pop 40 (c ^^^ d) : Nat) : Int)) w) := by
  have hval := fun W => valid_l l c W
  have hval2 := fun W => valid_l m d W
  rw [hv] at hval
  rw [hv2] at hval2
  have hcd : c < 1024 ∧ d < 1024 := by
    have h1 := (validB_iff.1 hv).2
    have h2 := (validB_iff.1 hv2).2
    omega
  have Hv := Lib.hid hv
  have Hv2 := Lib.hid hv2
  clear hv hv2
  have hmf : ∀ (fn : Fn) (first cap : Array Value) (w : World), (Instr.makeFunc fn first cap).run Tryd.prog w = .ok (.func fn first cap) w := fun _ _ _ _ => rfl
  have Hn := Lib.hid (Two.new w l m)
  have hbel := Two.bel w l m
  go_enter Tryd.func18, Tryd.ntmps18
  go_wp2_with fail
  generalize (w.alloc (.cells #[.int .i64 l.a0, .int .i64 l.a1, .int .i64 l.a2, .int .i64 l.a3, .int .i64 l.a4, .int .i64 l.a5, .int .i64 l.a6, .int .i64 l.a7] 22)).alloc (.cells #[.int .i64 m.a0, .int .i64 m.a1, .int .i64 m.a2, .int .i64 m.a3, .int .i64 m.a4, .int .i64 m.a5, .int .i64 m.a6, .int .i64 m.a7] 22) = W at *
  refine (hval _).mono ?_
  rintro e w1 ⟨rfl, hb1⟩
  have H1 := Lib.hid (Hn.out.under hb1)
  have hbel1 := hbel.trans (hb1.mono hbel.size)
  clear hb1
  obtain ⟨c0, c1, c2, c3, c4, c5, c6, c7⟩ := H1.out.snd.all
  go_wp2_with fail
  refine (hval2 _).mono ?_
  rintro e w2 ⟨rfl, hb2⟩
  have H2 := Lib.hid (H1.out.under hb2)
  have hbel2 := hbel1.trans (hb2.mono hbel1.size)
  clear hb2 c0 c1 c2 c3 c4 c5 c6 c7
  have hsz := H2.out.snd.lt
  have H3 := Lib.hid (H2.out.alloc (.cells #[.int .i64 0] 3))
  have B3 := Lib.hid (Boxed.new w2 3 (.int .i64 0))
  have hbel3 := hbel2.alloc hbel2.size (.cells #[.int .i64 0] 3)
  go_wp2
  generalize w2.alloc (.cells #[.int .i64 0] 3) = W3 at *
  generalize w2.heap.size = b at *
  go_loopw [23] (fun i wr => ∃ k : Nat, k ≤ 8 ∧ i = .int .i64 k ∧ Hid (Two wr w.heap.size l m) ∧ Hid (Boxed wr b 3 (.int .i64 (dsum l m k : Nat))) ∧ Below w.heap.size w wr) (fun i _ => 8 - (intOf i).toNat)
  case atStart => exact ⟨0, by omega, rfl, H3, B3, hbel3⟩
  case round =>
    obtain ⟨k, hk, rfl, H4, B4, hbel4⟩ := hrel
    by_cases hlt : k < 8
    · have h8 : decide ((k : Int) < 8) = true := by simp; omega
      obtain ⟨hx, hxe⟩ := wd_lt Hv.out k hlt
      obtain ⟨hy, hye⟩ := wd_lt Hv2.out k hlt
      have hc1 := H4.out.fst.cell k hlt
      have hc2 := H4.out.snd.cell k hlt
      rw [← hxe] at hc1
      rw [← hye] at hc2
      have hds := dsum_le l m k
      have hct := fun W hB => count_any (wd l k) (wd m k) hx hy b (dsum l m k : Nat) (by omega) (by omega) W hB
      have Hct := Lib.hid hct
      have Hs := Lib.hid (dsum_succ l m k)
      clear hct hxe hye
      have k0 : (0 : Int) ≤ (k : Int) := by omega
      have ki : (k : Int) < 8 := by omega
      have B5 : Hid (Boxed (wr.setCell ⟨b, 0, none⟩ (.int .i64 (((dsum l m k : Nat) : Int) + ((pop 40 (wd l k ^^^ wd m k) : Nat) : Int)))).drew.drew b 3 (.int .i64 (((dsum l m k : Nat) : Int) + ((pop 40 (wd l k ^^^ wd m k) : Nat) : Int)))) := Lib.hid (Boxed.set _ B4.out)
      have H5 : Hid (Two (wr.setCell ⟨b, 0, none⟩ (.int .i64 (((dsum l m k : Nat) : Int) + ((pop 40 (wd l k ^^^ wd m k) : Nat) : Int)))).drew.drew w.heap.size l m) := Lib.hid ⟨BoxL.setOther (W := wr) H4.out.fst (by omega) 0 _, BoxL.setOther (W := wr) H4.out.snd (by omega) 0 _⟩
      have hbel5 : Below w.heap.size w (wr.setCell ⟨b, 0, none⟩ (.int .i64 (((dsum l m k : Nat) : Int) + ((pop 40 (wd l k ^^^ wd m k) : Nat) : Int)))).drew.drew := (hbel4.setCell (by simp; omega) _).drew.drew
      go_wp2
      go_region_with (go_at_call 35; refine (Hct.out wr.drew B4.out).mono ?_; rintro e w5 ⟨rfl, rfl⟩)
      all_goals
        generalize (wr.setCell ⟨b, 0, none⟩ (.int .i64 (((dsum l m k : Nat) : Int) + ((pop 40 (wd l k ^^^ wd m k) : Nat) : Int)))).drew.drew = W5 at *
        clear hc1 hc2
        go_wp2
        go_roundw
        case rel => exact ⟨k + 1, by omega, by go_num, H5, Lib.hid (by rw [Hs.out]; simpa using B5.out), hbel5⟩
        case measure => simp [intOf]; omega
    · obtain rfl : k = 8 := by omega
      rw [show ((8 : Nat) : Int) = (8 : Int) from rfl]
      have hct := fun W hB => count_any c d (by omega) (by omega) b (dsum l m 8 : Nat) (by omega) (by have := dsum_le l m 8; omega) W hB
      go_wp2_with fail
      refine (hct _ B4.out).mono ?_
      rintro e w5 ⟨rfl, rfl⟩
      have B5 := (B4.out.set (.int .i64 (((dsum l m 8 : Nat) : Int) + ((pop 40 (c ^^^ d) : Nat) : Int)))).cell
      go_wp2
      go_ret
      exact ⟨ret_int (by omega), (hbel4.setCell (by simp; omega) _).drew⟩

theorem Distance_any (l m : W8) (c d : Int) (w : World) :
    Calls Tryd.prog 18 #[(.agg #[.int .i64 l.a0, .int .i64 l.a1, .int .i64 l.a2, .int .i64 l.a3, .int .i64 l.a4, .int .i64 l.a5, .int .i64 l.a6, .int .i64 l.a7]), .int .i64 c, (.agg #[.int .i64 m.a0, .int .i64 m.a1, .int .i64 m.a2, .int .i64 m.a3, .int .i64 m.a4, .int .i64 m.a5, .int .i64 m.a6, .int .i64 m.a7]), .int .i64 d] w (RetB (.int .i64 (dist l c m d)) w) := by
  cases hv : validB l c with
  | false =>
    have e : dist l c m d = -1 := by unfold dist; rw [hv]; rfl
    rw [e]; exact dist_no1 l m c d w hv
  | true =>
    cases hv2 : validB m d with
    | false =>
      have e : dist l c m d = -1 := by unfold dist; rw [hv, hv2]; rfl
      rw [e]; exact dist_no2 l m c d w hv hv2
    | true =>
      obtain ⟨n, rfl, hn⟩ := validB_nat hv
      obtain ⟨k, rfl, hk⟩ := validB_nat hv2
      have e : dist l n m k = ((dsum l m 8 + pop 40 (n ^^^ k) : Nat) : Int) := by unfold dist; rw [hv, hv2, Int.toNat_natCast, Int.toNat_natCast]; rfl
      rw [e]; exact dist_yes l m n k w hv hv2

end Go.Proofs.YtmhllnnchhcamaaDoor
