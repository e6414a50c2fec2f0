/-
  The walks of Flip (both).
-/
import Derived.Test.YtlolaieolgmdnaaGreatDoorCodeG
namespace Go.Proofs.YtlolaieolgmdnaaGreatDoor
open Go.RowKit
set_option maxRecDepth 100000

/-- What Flip answers. -/
def flpL (l : W8) (a b : Int) : W8 := if exB a b then (if a = 8 then l else l.set a.toNat (bits .xor .i64 (l.get a.toNat) (2 ^ b.toNat))) else l
def flpC (c a b : Int) : Int := if exB a b then (if a = 8 then bits .xor .i64 c (2 ^ b.toNat) else c) else c

set_option maxHeartbeats 2000000 in
theorem Flip_any (a0 a1 a2 a3 a4 a5 a6 a7 c a b : Int) (w : World) :
    Calls Tryz.prog 110 #[(.agg #[.int .i64 a0, .int .i64 a1, .int .i64 a2, .int .i64 a3, .int .i64 a4, .int .i64 a5, .int .i64 a6, .int .i64 a7]), .int .i64 c, .int .i64 a, .int .i64 b] w (RetB (.tuple #[arrOf (flpL (⟨a0, a1, a2, a3, a4, a5, a6, a7⟩ : W8) a b), .int .i64 (flpC c a b)]) w) := by
  have hex := fun W => exists_any a b W
  have Hiff := Lib.hid (@exB_iff a b)
  have Hb := Lib.hid ((BoxL.new w a0 a1 a2 a3 a4 a5 a6 a7).alloc (.cells #[.int .i64 0, .int .i64 0, .int .i64 0, .int .i64 0, .int .i64 0, .int .i64 0, .int .i64 0, .int .i64 0] 80))
  have Hz : Hid (BoxL ((w.alloc (.cells #[.int .i64 a0, .int .i64 a1, .int .i64 a2, .int .i64 a3, .int .i64 a4, .int .i64 a5, .int .i64 a6, .int .i64 a7] 80)).alloc (.cells #[.int .i64 0, .int .i64 0, .int .i64 0, .int .i64 0, .int .i64 0, .int .i64 0, .int .i64 0, .int .i64 0] 80)) (w.heap.size + 1) ⟨0, 0, 0, 0, 0, 0, 0, 0⟩) :=
    Lib.hid (by have := BoxL.new (w.alloc (.cells #[.int .i64 a0, .int .i64 a1, .int .i64 a2, .int .i64 a3, .int .i64 a4, .int .i64 a5, .int .i64 a6, .int .i64 a7] 80)) 0 0 0 0 0 0 0 0; simpa using this)
  have hbel := ((Below.refl w.heap.size w).alloc (Nat.le_refl _) (.cells #[.int .i64 a0, .int .i64 a1, .int .i64 a2, .int .i64 a3, .int .i64 a4, .int .i64 a5, .int .i64 a6, .int .i64 a7] 80)).alloc (by simp) (.cells #[.int .i64 0, .int .i64 0, .int .i64 0, .int .i64 0, .int .i64 0, .int .i64 0, .int .i64 0, .int .i64 0] 80)
  generalize hl : (⟨a0, a1, a2, a3, a4, a5, a6, a7⟩ : W8) = l at *
  clear hl
  generalize hx : exB a b = x at *
  have Hx := Lib.hid hx
  clear hx
  cases x with
  | false =>
    have HL := Lib.hid (show flpL l a b = l from by unfold flpL; rw [Hx.out]; rfl)
    have HC := Lib.hid (show flpC c a b = c from by unfold flpC; rw [Hx.out]; rfl)
    go_enter Tryz.func110, Tryz.ntmps110
    go_wp2_with fail
    refine (hex _).mono ?_
    rintro e w' ⟨rfl, rfl⟩
    generalize (w.alloc (.cells #[.int .i64 a0, .int .i64 a1, .int .i64 a2, .int .i64 a3, .int .i64 a4, .int .i64 a5, .int .i64 a6, .int .i64 a7] 80)).alloc (.cells #[.int .i64 0, .int .i64 0, .int .i64 0, .int .i64 0, .int .i64 0, .int .i64 0, .int .i64 0, .int .i64 0] 80) = W at *
    obtain ⟨c0, c1, c2, c3, c4, c5, c6, c7⟩ := Hb.out.all
    obtain ⟨d0, d1, d2, d3, d4, d5, d6, d7⟩ := Hz.out.all
    have hblt := Hb.out.lt
    have hzlt := Hz.out.lt
    have f0 := Hz.out.free
    have Hr := Lib.hid (Hz.out.store8 l)
    have hbel9 := below_store8 hbel (Nat.le_succ _) (.int .i64 l.a0) (.int .i64 l.a1) (.int .i64 l.a2) (.int .i64 l.a3) (.int .i64 l.a4) (.int .i64 l.a5) (.int .i64 l.a6) (.int .i64 l.a7)
    clear Hb
    go_wp2
    clear c0 c1 c2 c3 c4 c5 c6 c7 d0 d1 d2 d3 d4 d5 d6 d7 f0
    generalize ((((((((W.setCell ⟨w.heap.size + 1, 0, none⟩ (.int .i64 l.a0)).setCell ⟨w.heap.size + 1, 1, none⟩ (.int .i64 l.a1)).setCell ⟨w.heap.size + 1, 2, none⟩ (.int .i64 l.a2)).setCell ⟨w.heap.size + 1, 3, none⟩ (.int .i64 l.a3)).setCell ⟨w.heap.size + 1, 4, none⟩ (.int .i64 l.a4)).setCell ⟨w.heap.size + 1, 5, none⟩ (.int .i64 l.a5)).setCell ⟨w.heap.size + 1, 6, none⟩ (.int .i64 l.a6)).setCell ⟨w.heap.size + 1, 7, none⟩ (.int .i64 l.a7)) = W9 at *
    obtain ⟨d0, d1, d2, d3, d4, d5, d6, d7⟩ := Hr.out.all
    refine bodyPost_ret (v := .tuple #[arrOf l, .int .i64 (c)]) (by simp [results, Tryz.results110, go_sem, d0, d1, d2, d3, d4, d5, d6, d7, arrOf]) rfl ⟨by rw [HL.out, HC.out], hbel9⟩
  | true =>
    have hr := Hiff.out.1 rfl
    by_cases ha : a = 8
    · subst ha
      obtain ⟨j, hj⟩ : ∃ j : Nat, b = j := ⟨b.toNat, by omega⟩
      subst hj
      have hj10 : j < 10 := by omega
      obtain ⟨p, hp⟩ : ∃ p, p = 2 ^ j := ⟨_, rfl⟩
      have hw : wrap64 (2 ^ j) = (p : Int) := by
        have e : (2 : Int) ^ j = (p : Int) := by rw [hp]; simp
        have h2 : 2 ^ j ≤ 2 ^ 9 := Nat.pow_le_pow_right (by decide) (by omega)
        rw [e, IntWalk.wrap64_in _ (by omega)]
      have HL := Lib.hid (show flpL l 8 j = l from by unfold flpL; rw [Hx.out]; rfl)
      have HC := Lib.hid (show flpC c 8 j = bits .xor .i64 c p from by unfold flpC; rw [Hx.out, if_pos rfl, if_pos rfl, Int.toNat_natCast, hp]; simp)
      clear hp hr
      go_enter Tryz.func110, Tryz.ntmps110
      go_wp2_with fail
      refine (hex _).mono ?_
      rintro e w' ⟨rfl, rfl⟩
      generalize (w.alloc (.cells #[.int .i64 a0, .int .i64 a1, .int .i64 a2, .int .i64 a3, .int .i64 a4, .int .i64 a5, .int .i64 a6, .int .i64 a7] 80)).alloc (.cells #[.int .i64 0, .int .i64 0, .int .i64 0, .int .i64 0, .int .i64 0, .int .i64 0, .int .i64 0, .int .i64 0] 80) = W at *
      obtain ⟨c0, c1, c2, c3, c4, c5, c6, c7⟩ := Hb.out.all
      obtain ⟨d0, d1, d2, d3, d4, d5, d6, d7⟩ := Hz.out.all
      have hblt := Hb.out.lt
      have hzlt := Hz.out.lt
      have f0 := Hz.out.free
      have Hr := Lib.hid (Hz.out.store8 l)
      have hbel9 := below_store8 hbel (Nat.le_succ _) (.int .i64 l.a0) (.int .i64 l.a1) (.int .i64 l.a2) (.int .i64 l.a3) (.int .i64 l.a4) (.int .i64 l.a5) (.int .i64 l.a6) (.int .i64 l.a7)
      clear Hb
      go_wp2
      clear c0 c1 c2 c3 c4 c5 c6 c7 d0 d1 d2 d3 d4 d5 d6 d7 f0
      generalize ((((((((W.setCell ⟨w.heap.size + 1, 0, none⟩ (.int .i64 l.a0)).setCell ⟨w.heap.size + 1, 1, none⟩ (.int .i64 l.a1)).setCell ⟨w.heap.size + 1, 2, none⟩ (.int .i64 l.a2)).setCell ⟨w.heap.size + 1, 3, none⟩ (.int .i64 l.a3)).setCell ⟨w.heap.size + 1, 4, none⟩ (.int .i64 l.a4)).setCell ⟨w.heap.size + 1, 5, none⟩ (.int .i64 l.a5)).setCell ⟨w.heap.size + 1, 6, none⟩ (.int .i64 l.a6)).setCell ⟨w.heap.size + 1, 7, none⟩ (.int .i64 l.a7)) = W9 at *
      obtain ⟨d0, d1, d2, d3, d4, d5, d6, d7⟩ := Hr.out.all
      refine bodyPost_ret (v := .tuple #[arrOf l, .int .i64 (bits .xor .i64 c p)]) (by simp [results, Tryz.results110, go_sem, d0, d1, d2, d3, d4, d5, d6, d7, arrOf]) rfl ⟨by rw [HL.out, HC.out], hbel9⟩
    · have ha8 : (a == 8) = false := by rw [beq_eq_false_iff_ne]; exact ha
      obtain ⟨k, hk⟩ : ∃ k : Nat, a = k := ⟨a.toNat, by omega⟩
      subst hk
      obtain ⟨j, hj⟩ : ∃ j : Nat, b = j := ⟨b.toNat, by omega⟩
      subst hj
      have hk8 : k < 8 := by omega
      have hj40 : j < 40 := by omega
      obtain ⟨p, hp⟩ : ∃ p, p = 2 ^ j := ⟨_, rfl⟩
      have hw : wrap64 (2 ^ j) = (p : Int) := by
        have e : (2 : Int) ^ j = (p : Int) := by rw [hp]; simp
        have h2 : 2 ^ j ≤ 2 ^ 40 := Nat.pow_le_pow_right (by decide) (by omega)
        rw [e, IntWalk.wrap64_in _ (by omega)]
      have HL := Lib.hid (show flpL l k j = l.set k (bits .xor .i64 (l.get k) p) from by unfold flpL; rw [Hx.out, if_pos rfl, if_neg ha, Int.toNat_natCast, Int.toNat_natCast, hp]; simp)
      have HC := Lib.hid (show flpC c k j = c from by unfold flpC; rw [Hx.out, if_pos rfl, if_neg ha])
      have Hp := Lib.hid hp
      clear hp hr ha
      go_enter Tryz.func110, Tryz.ntmps110
      go_wp2_with fail
      refine (hex _).mono ?_
      rintro e w' ⟨rfl, rfl⟩
      generalize (w.alloc (.cells #[.int .i64 a0, .int .i64 a1, .int .i64 a2, .int .i64 a3, .int .i64 a4, .int .i64 a5, .int .i64 a6, .int .i64 a7] 80)).alloc (.cells #[.int .i64 0, .int .i64 0, .int .i64 0, .int .i64 0, .int .i64 0, .int .i64 0, .int .i64 0, .int .i64 0] 80) = W at *
      have hblt := Hb.out.lt
      have hzlt := Hz.out.lt
      have hc := Hb.out.cell k hk8
      have hf := Hb.out.free k
      go_wp2
      go_region
      have Hb1 := Lib.hid (Hb.out.set k hk8 (bits .xor .i64 (l.get k) p))
      have Hz1 := Lib.hid (Hz.out.setOther (c := w.heap.size) (by omega) k (.int .i64 (bits .xor .i64 (l.get k) p)))
      have hbel1 := hbel.setCell (p := ⟨w.heap.size, k, none⟩) (Nat.le_refl _) (.int .i64 (bits .xor .i64 (l.get k) p))
      generalize l.set k (bits .xor .i64 (l.get k) p) = m at *
      generalize hW1 : W.setCell ⟨w.heap.size, k, none⟩ (.int .i64 (bits .xor .i64 (l.get k) p)) = W1 at *
      clear hf hc
      obtain ⟨c0, c1, c2, c3, c4, c5, c6, c7⟩ := Hb1.out.all
      obtain ⟨d0, d1, d2, d3, d4, d5, d6, d7⟩ := Hz1.out.all
      have f0 := Hz1.out.free
      clear hW1
      have Hr := Lib.hid (Hz1.out.store8 m)
      have hbel9 := below_store8 hbel1 (Nat.le_succ _) (.int .i64 m.a0) (.int .i64 m.a1) (.int .i64 m.a2) (.int .i64 m.a3) (.int .i64 m.a4) (.int .i64 m.a5) (.int .i64 m.a6) (.int .i64 m.a7)
      go_wp2
      clear c0 c1 c2 c3 c4 c5 c6 c7 d0 d1 d2 d3 d4 d5 d6 d7 f0
      generalize ((((((((W1.setCell ⟨w.heap.size + 1, 0, none⟩ (.int .i64 m.a0)).setCell ⟨w.heap.size + 1, 1, none⟩ (.int .i64 m.a1)).setCell ⟨w.heap.size + 1, 2, none⟩ (.int .i64 m.a2)).setCell ⟨w.heap.size + 1, 3, none⟩ (.int .i64 m.a3)).setCell ⟨w.heap.size + 1, 4, none⟩ (.int .i64 m.a4)).setCell ⟨w.heap.size + 1, 5, none⟩ (.int .i64 m.a5)).setCell ⟨w.heap.size + 1, 6, none⟩ (.int .i64 m.a6)).setCell ⟨w.heap.size + 1, 7, none⟩ (.int .i64 m.a7)) = W9 at *
      obtain ⟨d0, d1, d2, d3, d4, d5, d6, d7⟩ := Hr.out.all
      refine bodyPost_ret (v := .tuple #[arrOf m, .int .i64 (c)]) (by simp [results, Tryz.results110, go_sem, d0, d1, d2, d3, d4, d5, d6, d7, arrOf]) rfl ⟨by rw [HL.out, HC.out], hbel9.drew⟩

set_option maxHeartbeats 2000000 in
theorem rFlip_any (a0 a1 a2 a3 a4 a5 a6 a7 c a b : Int) (w : World) :
    Calls Tryz.prog 113 #[(.agg #[.int .i64 a0, .int .i64 a1, .int .i64 a2, .int .i64 a3, .int .i64 a4, .int .i64 a5, .int .i64 a6, .int .i64 a7]), .int .i64 c, .int .i64 a, .int .i64 b] w (RetB (.tuple #[arrOf (flpL (⟨a0, a1, a2, a3, a4, a5, a6, a7⟩ : W8) a b), .int .i64 (flpC c a b)]) w) := by
  have hex := fun W => rexists_any a b W
  have Hiff := Lib.hid (@exB_iff a b)
  have Hb := Lib.hid ((BoxL.new w a0 a1 a2 a3 a4 a5 a6 a7).alloc (.cells #[.int .i64 0, .int .i64 0, .int .i64 0, .int .i64 0, .int .i64 0, .int .i64 0, .int .i64 0, .int .i64 0] 80))
  have Hz : Hid (BoxL ((w.alloc (.cells #[.int .i64 a0, .int .i64 a1, .int .i64 a2, .int .i64 a3, .int .i64 a4, .int .i64 a5, .int .i64 a6, .int .i64 a7] 80)).alloc (.cells #[.int .i64 0, .int .i64 0, .int .i64 0, .int .i64 0, .int .i64 0, .int .i64 0, .int .i64 0, .int .i64 0] 80)) (w.heap.size + 1) ⟨0, 0, 0, 0, 0, 0, 0, 0⟩) :=
    Lib.hid (by have := BoxL.new (w.alloc (.cells #[.int .i64 a0, .int .i64 a1, .int .i64 a2, .int .i64 a3, .int .i64 a4, .int .i64 a5, .int .i64 a6, .int .i64 a7] 80)) 0 0 0 0 0 0 0 0; simpa using this)
  have hbel := ((Below.refl w.heap.size w).alloc (Nat.le_refl _) (.cells #[.int .i64 a0, .int .i64 a1, .int .i64 a2, .int .i64 a3, .int .i64 a4, .int .i64 a5, .int .i64 a6, .int .i64 a7] 80)).alloc (by simp) (.cells #[.int .i64 0, .int .i64 0, .int .i64 0, .int .i64 0, .int .i64 0, .int .i64 0, .int .i64 0, .int .i64 0] 80)
  generalize hl : (⟨a0, a1, a2, a3, a4, a5, a6, a7⟩ : W8) = l at *
  clear hl
  generalize hx : exB a b = x at *
  have Hx := Lib.hid hx
  clear hx
  cases x with
  | false =>
    have HL := Lib.hid (show flpL l a b = l from by unfold flpL; rw [Hx.out]; rfl)
    have HC := Lib.hid (show flpC c a b = c from by unfold flpC; rw [Hx.out]; rfl)
    go_enter Tryz.func113, Tryz.ntmps113
    go_wp2_with fail
    refine (hex _).mono ?_
    rintro e w' ⟨rfl, rfl⟩
    generalize (w.alloc (.cells #[.int .i64 a0, .int .i64 a1, .int .i64 a2, .int .i64 a3, .int .i64 a4, .int .i64 a5, .int .i64 a6, .int .i64 a7] 80)).alloc (.cells #[.int .i64 0, .int .i64 0, .int .i64 0, .int .i64 0, .int .i64 0, .int .i64 0, .int .i64 0, .int .i64 0] 80) = W at *
    obtain ⟨c0, c1, c2, c3, c4, c5, c6, c7⟩ := Hb.out.all
    obtain ⟨d0, d1, d2, d3, d4, d5, d6, d7⟩ := Hz.out.all
    have hblt := Hb.out.lt
    have hzlt := Hz.out.lt
    have f0 := Hz.out.free
    have Hr := Lib.hid (Hz.out.store8 l)
    have hbel9 := below_store8 hbel (Nat.le_succ _) (.int .i64 l.a0) (.int .i64 l.a1) (.int .i64 l.a2) (.int .i64 l.a3) (.int .i64 l.a4) (.int .i64 l.a5) (.int .i64 l.a6) (.int .i64 l.a7)
    clear Hb
    go_wp2
    clear c0 c1 c2 c3 c4 c5 c6 c7 d0 d1 d2 d3 d4 d5 d6 d7 f0
    generalize ((((((((W.setCell ⟨w.heap.size + 1, 0, none⟩ (.int .i64 l.a0)).setCell ⟨w.heap.size + 1, 1, none⟩ (.int .i64 l.a1)).setCell ⟨w.heap.size + 1, 2, none⟩ (.int .i64 l.a2)).setCell ⟨w.heap.size + 1, 3, none⟩ (.int .i64 l.a3)).setCell ⟨w.heap.size + 1, 4, none⟩ (.int .i64 l.a4)).setCell ⟨w.heap.size + 1, 5, none⟩ (.int .i64 l.a5)).setCell ⟨w.heap.size + 1, 6, none⟩ (.int .i64 l.a6)).setCell ⟨w.heap.size + 1, 7, none⟩ (.int .i64 l.a7)) = W9 at *
    obtain ⟨d0, d1, d2, d3, d4, d5, d6, d7⟩ := Hr.out.all
    refine bodyPost_ret (v := .tuple #[arrOf l, .int .i64 (c)]) (by simp [results, Tryz.results113, go_sem, d0, d1, d2, d3, d4, d5, d6, d7, arrOf]) rfl ⟨by rw [HL.out, HC.out], hbel9⟩
  | true =>
    have hr := Hiff.out.1 rfl
    by_cases ha : a = 8
    · subst ha
      obtain ⟨j, hj⟩ : ∃ j : Nat, b = j := ⟨b.toNat, by omega⟩
      subst hj
      have hj10 : j < 10 := by omega
      obtain ⟨p, hp⟩ : ∃ p, p = 2 ^ j := ⟨_, rfl⟩
      have hw : wrap64 (2 ^ j) = (p : Int) := by
        have e : (2 : Int) ^ j = (p : Int) := by rw [hp]; simp
        have h2 : 2 ^ j ≤ 2 ^ 9 := Nat.pow_le_pow_right (by decide) (by omega)
        rw [e, IntWalk.wrap64_in _ (by omega)]
      have HL := Lib.hid (show flpL l 8 j = l from by unfold flpL; rw [Hx.out]; rfl)
      have HC := Lib.hid (show flpC c 8 j = bits .xor .i64 c p from by unfold flpC; rw [Hx.out, if_pos rfl, if_pos rfl, Int.toNat_natCast, hp]; simp)
      clear hp hr
      go_enter Tryz.func113, Tryz.ntmps113
      go_wp2_with fail
      refine (hex _).mono ?_
      rintro e w' ⟨rfl, rfl⟩
      generalize (w.alloc (.cells #[.int .i64 a0, .int .i64 a1, .int .i64 a2, .int .i64 a3, .int .i64 a4, .int .i64 a5, .int .i64 a6, .int .i64 a7] 80)).alloc (.cells #[.int .i64 0, .int .i64 0, .int .i64 0, .int .i64 0, .int .i64 0, .int .i64 0, .int .i64 0, .int .i64 0] 80) = W at *
      obtain ⟨c0, c1, c2, c3, c4, c5, c6, c7⟩ := Hb.out.all
      obtain ⟨d0, d1, d2, d3, d4, d5, d6, d7⟩ := Hz.out.all
      have hblt := Hb.out.lt
      have hzlt := Hz.out.lt
      have f0 := Hz.out.free
      have Hr := Lib.hid (Hz.out.store8 l)
      have hbel9 := below_store8 hbel (Nat.le_succ _) (.int .i64 l.a0) (.int .i64 l.a1) (.int .i64 l.a2) (.int .i64 l.a3) (.int .i64 l.a4) (.int .i64 l.a5) (.int .i64 l.a6) (.int .i64 l.a7)
      clear Hb
      go_wp2
      go_region
      go_wp2
      clear c0 c1 c2 c3 c4 c5 c6 c7 d0 d1 d2 d3 d4 d5 d6 d7 f0
      generalize ((((((((W.setCell ⟨w.heap.size + 1, 0, none⟩ (.int .i64 l.a0)).setCell ⟨w.heap.size + 1, 1, none⟩ (.int .i64 l.a1)).setCell ⟨w.heap.size + 1, 2, none⟩ (.int .i64 l.a2)).setCell ⟨w.heap.size + 1, 3, none⟩ (.int .i64 l.a3)).setCell ⟨w.heap.size + 1, 4, none⟩ (.int .i64 l.a4)).setCell ⟨w.heap.size + 1, 5, none⟩ (.int .i64 l.a5)).setCell ⟨w.heap.size + 1, 6, none⟩ (.int .i64 l.a6)).setCell ⟨w.heap.size + 1, 7, none⟩ (.int .i64 l.a7)) = W9 at *
      obtain ⟨d0, d1, d2, d3, d4, d5, d6, d7⟩ := Hr.out.all
      refine bodyPost_ret (v := .tuple #[arrOf l, .int .i64 (bits .xor .i64 c p)]) (by simp [results, Tryz.results113, go_sem, d0, d1, d2, d3, d4, d5, d6, d7, arrOf]) rfl ⟨by rw [HL.out, HC.out], hbel9.drew⟩
    · have ha8 : (a == 8) = false := by rw [beq_eq_false_iff_ne]; exact ha
      obtain ⟨k, hk⟩ : ∃ k : Nat, a = k := ⟨a.toNat, by omega⟩
      subst hk
      obtain ⟨j, hj⟩ : ∃ j : Nat, b = j := ⟨b.toNat, by omega⟩
      subst hj
      have hk8 : k < 8 := by omega
      have hj40 : j < 40 := by omega
      obtain ⟨p, hp⟩ : ∃ p, p = 2 ^ j := ⟨_, rfl⟩
      have hw : wrap64 (2 ^ j) = (p : Int) := by
        have e : (2 : Int) ^ j = (p : Int) := by rw [hp]; simp
        have h2 : 2 ^ j ≤ 2 ^ 40 := Nat.pow_le_pow_right (by decide) (by omega)
        rw [e, IntWalk.wrap64_in _ (by omega)]
      have HL := Lib.hid (show flpL l k j = l.set k (bits .xor .i64 (l.get k) p) from by unfold flpL; rw [Hx.out, if_pos rfl, if_neg ha, Int.toNat_natCast, Int.toNat_natCast, hp]; simp)
      have HC := Lib.hid (show flpC c k j = c from by unfold flpC; rw [Hx.out, if_pos rfl, if_neg ha])
      have Hp := Lib.hid hp
      clear hp hr ha
      go_enter Tryz.func113, Tryz.ntmps113
      go_wp2_with fail
      refine (hex _).mono ?_
      rintro e w' ⟨rfl, rfl⟩
      generalize (w.alloc (.cells #[.int .i64 a0, .int .i64 a1, .int .i64 a2, .int .i64 a3, .int .i64 a4, .int .i64 a5, .int .i64 a6, .int .i64 a7] 80)).alloc (.cells #[.int .i64 0, .int .i64 0, .int .i64 0, .int .i64 0, .int .i64 0, .int .i64 0, .int .i64 0, .int .i64 0] 80) = W at *
      have hblt := Hb.out.lt
      have hzlt := Hz.out.lt
      have hc := Hb.out.cell k hk8
      have hf := Hb.out.free k
      go_wp2
      go_region
      have Hb1 := Lib.hid (Hb.out.set k hk8 (bits .xor .i64 (l.get k) p))
      have Hz1 := Lib.hid (Hz.out.setOther (c := w.heap.size) (by omega) k (.int .i64 (bits .xor .i64 (l.get k) p)))
      have hbel1 := hbel.setCell (p := ⟨w.heap.size, k, none⟩) (Nat.le_refl _) (.int .i64 (bits .xor .i64 (l.get k) p))
      generalize l.set k (bits .xor .i64 (l.get k) p) = m at *
      generalize hW1 : W.setCell ⟨w.heap.size, k, none⟩ (.int .i64 (bits .xor .i64 (l.get k) p)) = W1 at *
      clear hf hc
      obtain ⟨c0, c1, c2, c3, c4, c5, c6, c7⟩ := Hb1.out.all
      obtain ⟨d0, d1, d2, d3, d4, d5, d6, d7⟩ := Hz1.out.all
      have f0 := Hz1.out.free
      clear hW1
      have Hr := Lib.hid (Hz1.out.store8 m)
      have hbel9 := below_store8 hbel1 (Nat.le_succ _) (.int .i64 m.a0) (.int .i64 m.a1) (.int .i64 m.a2) (.int .i64 m.a3) (.int .i64 m.a4) (.int .i64 m.a5) (.int .i64 m.a6) (.int .i64 m.a7)
      go_wp2
      clear c0 c1 c2 c3 c4 c5 c6 c7 d0 d1 d2 d3 d4 d5 d6 d7 f0
      generalize ((((((((W1.setCell ⟨w.heap.size + 1, 0, none⟩ (.int .i64 m.a0)).setCell ⟨w.heap.size + 1, 1, none⟩ (.int .i64 m.a1)).setCell ⟨w.heap.size + 1, 2, none⟩ (.int .i64 m.a2)).setCell ⟨w.heap.size + 1, 3, none⟩ (.int .i64 m.a3)).setCell ⟨w.heap.size + 1, 4, none⟩ (.int .i64 m.a4)).setCell ⟨w.heap.size + 1, 5, none⟩ (.int .i64 m.a5)).setCell ⟨w.heap.size + 1, 6, none⟩ (.int .i64 m.a6)).setCell ⟨w.heap.size + 1, 7, none⟩ (.int .i64 m.a7)) = W9 at *
      obtain ⟨d0, d1, d2, d3, d4, d5, d6, d7⟩ := Hr.out.all
      refine bodyPost_ret (v := .tuple #[arrOf m, .int .i64 (c)]) (by simp [results, Tryz.results113, go_sem, d0, d1, d2, d3, d4, d5, d6, d7, arrOf]) rfl ⟨by rw [HL.out, HC.out], hbel9.drew⟩

end Go.Proofs.YtlolaieolgmdnaaGreatDoor
