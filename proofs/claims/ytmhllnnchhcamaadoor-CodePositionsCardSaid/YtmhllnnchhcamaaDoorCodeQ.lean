/-
  The walk of the reference's Distance.
-/
import Derived.Test.YtmhllnnchhcamaaDoorCodeP
namespace Go.Proofs.YtmhllnnchhcamaaDoor
open Go.RowKit

/-- A bit of a line or of its code. -/
def bt (l : W8) (c k j : Nat) : Bool := if k = 8 then c.testBit j else (wd l k).testBit j

theorem one_l (l : W8) (c k j : Nat) (w : World) (hv : validB l c = true) (hx : exB k j = true) :
    Calls Tryd.prog 36 #[(.agg #[.int .i64 l.a0, .int .i64 l.a1, .int .i64 l.a2, .int .i64 l.a3, .int .i64 l.a4, .int .i64 l.a5, .int .i64 l.a6, .int .i64 l.a7]), .int .i64 c, .int .i64 k, .int .i64 j] w (RetB (.bool (bt l c k j)) w) := by
  have h := exB_iff.1 hx
  unfold bt
  by_cases hk : k = 8
  · subst hk
    rw [if_pos rfl]
    have := one_code l.a0 l.a1 l.a2 l.a3 l.a4 l.a5 l.a6 l.a7 c j (by omega) w hv
    rw [Int.toNat_natCast] at this
    exact this
  · rw [if_neg hk]
    exact one_word l.a0 l.a1 l.a2 l.a3 l.a4 l.a5 l.a6 l.a7 c k j (by omega) (by omega) w hv

/-- How many of the bits ahead of bit j of word k differ. -/
def nR (l m : W8) (c d k j : Nat) : Nat := if k < 8 then dsum l m k + pop j (wd l k ^^^ wd m k) else dsum l m 8 + pop (min j 10) (c ^^^ d)
theorem nR_step (l m : W8) (c d k j : Nat) (hx : exB k j = true) : nR l m c d k (j + 1) = nR l m c d k j + (if bt l c k j != bt m d k j then 1 else 0) := by
  have h := exB_iff.1 hx
  unfold nR bt
  by_cases hk : k = 8
  · subst hk
    rw [if_neg (by omega), if_neg (by omega), if_pos rfl, if_pos rfl, show min (j + 1) 10 = j + 1 from by omega, show min j 10 = j from by omega, pop_succ, Nat.testBit_xor]
    cases c.testBit j <;> cases d.testBit j <;> rfl
  · rw [if_pos (by omega), if_pos (by omega), if_neg hk, if_neg hk, pop_succ, Nat.testBit_xor]
    cases (wd l k).testBit j <;> cases (wd m k).testBit j <;> rfl
theorem nR_skip (l m : W8) (c d k j : Nat) (hk : k ≤ 8) (hj : j < 40) (hx : exB k j = false) : nR l m c d k (j + 1) = nR l m c d k j := by
  have h : ¬ _ := fun hh => by rw [exB_iff.2 hh] at hx; cases hx
  unfold nR
  rw [if_neg (by omega), if_neg (by omega), show min (j + 1) 10 = 10 from by omega, show min j 10 = 10 from by omega]
theorem nR_zero (l m : W8) (c d k : Nat) (hk : k ≤ 8) : nR l m c d k 0 = dsum l m k := by
  unfold nR
  split
  · rfl
  · obtain rfl : k = 8 := by omega
    rfl
theorem nR_end (l m : W8) (c d k : Nat) (hk : k < 8) : nR l m c d k 40 = dsum l m (k + 1) := by
  unfold nR; rw [if_pos hk]; rfl
theorem nR_last (l m : W8) (c d : Nat) (hc : c < 1024) (hd : d < 1024) : nR l m c d 8 40 = dsum l m 8 + pop 40 (c ^^^ d) := by
  unfold nR; rw [if_neg (by omega), pop_code _ (Nat.xor_lt_two_pow (n := 10) hc hd)]; rfl
theorem nR_le (l m : W8) (c d k j : Nat) (hk : k ≤ 8) (hj : j ≤ 40) : nR l m c d k j ≤ 360 := by
  unfold nR
  split
  · have := dsum_le l m k; have := pop_le j (wd l k ^^^ wd m k); omega
  · have := dsum_le l m 8; have := pop_le (min j 10) (c ^^^ d); omega

def total (l m : W8) (c d k : Nat) : Nat := if k ≤ 8 then dsum l m k else dsum l m 8 + pop 40 (c ^^^ d)

set_option maxHeartbeats 1000000 in
/-- The reference's Distance, where a line is not valid. -/
theorem rdist_no (l m : W8) (c d : Int) (w : World) (hv : (validB l c && validB m d) = false) :
    Calls Tryd.prog 19 #[(.agg #[.int .i64 l.a0, .int .i64 l.a1, .int .i64 l.a2, .int .i64 l.a3, .int .i64 l.a4, .int .i64 l.a5, .int .i64 l.a6, .int .i64 l.a7]), .int .i64 c, (.agg #[.int .i64 m.a0, .int .i64 m.a1, .int .i64 m.a2, .int .i64 m.a3, .int .i64 m.a4, .int .i64 m.a5, .int .i64 m.a6, .int .i64 m.a7]), .int .i64 d] w (RetB (.int .i64 (-1)) w) := by
  have hval := fun W => rvalid_l l c W
  have hval2 := fun W => rvalid_l m d W
  generalize validB l c = v1 at *
  generalize validB m d = v2 at *
  have Hv := Lib.hid hv
  clear hv
  have Hn := Lib.hid (Two.new w l m)
  have hbel := Two.bel w l m
  go_enter Tryd.func19, Tryd.ntmps19
  go_wp2_with fail
  generalize (w.alloc (.cells #[.int .i64 l.a0, .int .i64 l.a1, .int .i64 l.a2, .int .i64 l.a3, .int .i64 l.a4, .int .i64 l.a5, .int .i64 l.a6, .int .i64 l.a7] 22)).alloc (.cells #[.int .i64 m.a0, .int .i64 m.a1, .int .i64 m.a2, .int .i64 m.a3, .int .i64 m.a4, .int .i64 m.a5, .int .i64 m.a6, .int .i64 m.a7] 22) = W at *
  refine (hval _).mono ?_
  rintro e w1 ⟨rfl, hb1⟩
  have H1 := Lib.hid (Hn.out.under hb1)
  have hbel1 := hbel.trans (hb1.mono hbel.size)
  clear hb1
  obtain ⟨c0, c1, c2, c3, c4, c5, c6, c7⟩ := H1.out.snd.all
  go_wp2_with fail
  refine (hval2 _).mono ?_
  rintro e w2 ⟨rfl, hb2⟩
  have hbel2 := hbel1.trans (hb2.mono hbel1.size)
  clear hb2 c0 c1 c2 c3 c4 c5 c6 c7
  cases v1 with
  | false =>
    go_wp2
    go_ret
    exact ⟨rfl, hbel2⟩
  | true =>
    cases v2 with
    | false =>
      go_wp2
      go_ret
      exact ⟨rfl, hbel2⟩
    | true => exact absurd Hv.out (by simp)

set_option maxHeartbeats 4000000 in
/-- The reference's Distance of two valid lines. -/
theorem rdist_yes (l m : W8) (c d : Nat) (w : World) (hv : validB l c = true) (hv2 : validB m d = true) :
    Calls Tryd.prog 19 #[(.agg #[.int .i64 l.a0, .int .i64 l.a1, .int .i64 l.a2, .int .i64 l.a3, .int .i64 l.a4, .int .i64 l.a5, .int .i64 l.a6, .int .i64 l.a7]), .int .i64 c, (.agg #[.int .i64 m.a0, .int .i64 m.a1, .int .i64 m.a2, .int .i64 m.a3, .int .i64 m.a4, .int .i64 m.a5, .int .i64 m.a6, .int .i64 m.a7]), .int .i64 d] w (RetB (.int .i64 ((dsum l m 8 + pop 40 (c ^^^ d) : Nat) : Int)) w) := by
  have hval := fun W => rvalid_l l c W
  have hval2 := fun W => rvalid_l m d W
  rw [hv] at hval
  rw [hv2] at hval2
  have hcd : c < 1024 ∧ d < 1024 := by
    have h1 := (validB_iff.1 hv).2
    have h2 := (validB_iff.1 hv2).2
    omega
  have Hone1 := Lib.hid (fun k j W hx => one_l l c k j W hv hx)
  have Hone2 := Lib.hid (fun k j W hx => one_l m d k j W hv2 hx)
  clear hv hv2
  have Hn := Lib.hid (Two.new w l m)
  have hbel := Two.bel w l m
  go_enter Tryd.func19, Tryd.ntmps19
  go_wp2_with fail
  generalize (w.alloc (.cells #[.int .i64 l.a0, .int .i64 l.a1, .int .i64 l.a2, .int .i64 l.a3, .int .i64 l.a4, .int .i64 l.a5, .int .i64 l.a6, .int .i64 l.a7] 22)).alloc (.cells #[.int .i64 m.a0, .int .i64 m.a1, .int .i64 m.a2, .int .i64 m.a3, .int .i64 m.a4, .int .i64 m.a5, .int .i64 m.a6, .int .i64 m.a7] 22) = W at *
  refine (hval _).mono ?_
  rintro e w1 ⟨rfl, hb1⟩
  have H1 := Lib.hid (Hn.out.under hb1)
  have hbel1 := hbel.trans (hb1.mono hbel.size)
  clear hb1
  obtain ⟨c0, c1, c2, c3, c4, c5, c6, c7⟩ := H1.out.snd.all
  go_wp2_with fail
  refine (hval2 _).mono ?_
  rintro e w2 ⟨rfl, hb2⟩
  have H2 := Lib.hid (H1.out.under hb2)
  have hbel2 := hbel1.trans (hb2.mono hbel1.size)
  clear hb2 c0 c1 c2 c3 c4 c5 c6 c7
  go_wp2
  go_loopw [11, 12] (fun n i wr => ∃ k : Nat, k ≤ 9 ∧ i = .int .i64 k ∧ n = .int .i64 (total l m c d k : Nat) ∧ Hid (Two wr w.heap.size l m) ∧ Below w.heap.size w wr) (fun _ i _ => 9 - (intOf i).toNat)
  case atStart => exact ⟨0, by omega, rfl, rfl, H2, hbel2⟩
  case round =>
    obtain ⟨k, hk, rfl, rfl, H3, hbel3⟩ := hrel
    by_cases hlt : k < 9
    · have h9 : decide ((k : Int) < 9) = true := by simp; omega
      obtain ⟨wo, rfl⟩ : ∃ wo : World, wo = wr := ⟨_, rfl⟩
      have ht : total l m c d k = nR l m c d k 0 := by rw [nR_zero _ _ _ _ _ (by omega)]; unfold total; rw [if_pos (by omega)]
      have hte : nR l m c d k 40 = total l m c d (k + 1) := by
        unfold total
        by_cases hk8 : k < 8
        · rw [if_pos (by omega), nR_end _ _ _ _ _ hk8]
        · obtain rfl : k = 8 := by omega
          rw [if_neg (by omega), nR_last _ _ _ _ hcd.1 hcd.2]
      have Hte := Lib.hid hte
      rw [ht]
      clear ht hte
      go_wp2
      go_loopw [11, 13] (fun n i wr => ∃ j : Nat, j ≤ 40 ∧ i = .int .i64 j ∧ n = .int .i64 (nR l m c d k j : Nat) ∧ Hid (Two wr w.heap.size l m) ∧ Below w.heap.size w wr) (fun _ i _ => 40 - (intOf i).toNat)
      case atStart => exact ⟨0, by omega, rfl, rfl, H3, hbel3⟩
      case round =>
        obtain ⟨j, hj, rfl, rfl, H4, hbel4⟩ := hrel
        by_cases hj40 : j < 40
        · have h40 : decide ((j : Int) < 40) = true := by simp; omega
          have hex := fun W => rexists_any (k : Int) (j : Int) W
          have Hskip := Lib.hid (nR_skip l m c d k j (by omega) hj40)
          have Hstep := Lib.hid (nR_step l m c d k j)
          have ho1 := fun hx W => Hone1.out k j W hx
          have ho2 := fun hx W => Hone2.out k j W hx
          have hnle := nR_le l m c d k j (by omega) (by omega)
          generalize exB (k : Int) (j : Int) = x at *
          cases x with
          | false =>
            clear ho1 ho2
            go_wp2_with fail
            refine (hex _).mono ?_
            rintro e w' ⟨rfl, rfl⟩
            go_wp2
            go_roundw
            case rel => exact ⟨j + 1, by omega, by go_num, by rw [Hskip.out trivial], H4, hbel4⟩
            case measure => simp [intOf]; omega
          | true =>
            replace ho1 := ho1 rfl
            replace ho2 := ho2 rfl
            generalize bt l c k j = b1 at *
            generalize bt m d k j = b2 at *
            obtain ⟨c0, c1, c2, c3, c4, c5, c6, c7⟩ := H4.out.fst.all
            go_wp2_with fail
            refine (hex _).mono ?_
            rintro e w' ⟨rfl, rfl⟩
            go_wp2_with fail
            refine (ho1 _).mono ?_
            rintro e w5 ⟨rfl, hb5⟩
            have H5 := Lib.hid (H4.out.under hb5)
            have hbel5 := hbel4.trans (hb5.mono hbel4.size)
            clear hb5 c0 c1 c2 c3 c4 c5 c6 c7
            obtain ⟨c0, c1, c2, c3, c4, c5, c6, c7⟩ := H5.out.snd.all
            go_wp2_with fail
            refine (ho2 _).mono ?_
            rintro e w6 ⟨rfl, hb6⟩
            have H6 := Lib.hid (H5.out.under hb6)
            have hbel6 := hbel5.trans (hb6.mono hbel5.size)
            clear hb6 c0 c1 c2 c3 c4 c5 c6 c7
            cases b1 <;> cases b2
            all_goals
              go_wp2
              go_roundw
              case rel => exact ⟨j + 1, by omega, by go_num, by rw [Hstep.out trivial]; simp, H6, hbel6⟩
              case measure => simp [intOf]; omega
        · obtain rfl : j = 40 := by omega
          rw [show ((40 : Nat) : Int) = (40 : Int) from rfl]
          go_wp2
          go_roundw
          case rel => exact ⟨k + 1, by omega, by go_num, by rw [Hte.out], H4, hbel4⟩
          case measure => simp [intOf]; omega
    · obtain rfl : k = 9 := by omega
      rw [show ((9 : Nat) : Int) = (9 : Int) from rfl]
      go_wp2
      go_ret
      exact ⟨rfl, hbel3⟩

theorem rDistance_any (l m : W8) (c d : Int) (w : World) :
    Calls Tryd.prog 19 #[(.agg #[.int .i64 l.a0, .int .i64 l.a1, .int .i64 l.a2, .int .i64 l.a3, .int .i64 l.a4, .int .i64 l.a5, .int .i64 l.a6, .int .i64 l.a7]), .int .i64 c, (.agg #[.int .i64 m.a0, .int .i64 m.a1, .int .i64 m.a2, .int .i64 m.a3, .int .i64 m.a4, .int .i64 m.a5, .int .i64 m.a6, .int .i64 m.a7]), .int .i64 d] w (RetB (.int .i64 (dist l c m d)) w) := by
  cases hv : validB l c && validB m d with
  | false =>
    have e : dist l c m d = -1 := by unfold dist; rw [hv]; rfl
    rw [e]; exact rdist_no l m c d w hv
  | true =>
    rw [Bool.and_eq_true] at hv
    obtain ⟨n, rfl, hn⟩ := validB_nat hv.1
    obtain ⟨k, rfl, hk⟩ := validB_nat hv.2
    have e : dist l n m k = ((dsum l m 8 + pop 40 (n ^^^ k) : Nat) : Int) := by unfold dist; rw [hv.1, hv.2, Int.toNat_natCast, Int.toNat_natCast]; rfl
    rw [e]; exact rdist_yes l m n k w hv.1 hv.2

end Go.Proofs.YtmhllnnchhcamaaDoor
