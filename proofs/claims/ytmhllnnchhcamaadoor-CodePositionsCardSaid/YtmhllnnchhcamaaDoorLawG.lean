/-
  The walk of CodePositions: it returns true.
-/
import Derived.Test.YtmhllnnchhcamaaDoorLawZ
namespace Go.Proofs.YtmhllnnchhcamaaDoor
open Go.RowKit Go.Sort

theorem posI (i : Nat) (hi : i < 330) : posB (wI i) (bI i) = ((PP i : Nat) : Int) := by
  have hx := ex_I i hi
  by_cases h : 320 ≤ i
  · have hw : wI i = 8 := by unfold wI; rw [if_pos h]
    have hb : bI i = (i : Int) - 320 := by unfold bI; rw [if_pos h]
    rw [hw, hb] at hx ⊢
    rw [posB_code hx]
    by_cases h9 : i < 329
    · rw [show PP i = 2 ^ (i - 320) from by unfold PP; rw [if_neg (by omega), if_pos h9], if_neg (by omega), show ((i : Int) - 320).toNat = i - 320 from by omega]; simp
    · rw [show PP i = 0 from by unfold PP; rw [if_neg (by omega), if_neg h9], if_pos (by omega)]; rfl
  · have hw : wI i = (i : Int) / 40 := by unfold wI; rw [if_neg h]
    have hb : bI i = (i : Int) % 40 := by unfold bI; rw [if_neg h]
    rw [posB_data hx (by omega), hw, hb, show (40 * ((i : Int) / 40) + (i : Int) % 40).toNat = i from by omega]
    unfold PP
    rw [if_pos (by omega)]

theorem PP_le (i : Nat) : PP i ≤ 329 := by
  unfold PP
  split
  · have := posn_bound ⟨i, by assumption⟩; simp only at this; omega
  · split
    · have : 2 ^ (i - 320) ≤ 2 ^ 8 := Nat.pow_le_pow_right (by decide) (by omega)
      omega
    · omega

theorem PP_zero (i : Nat) (hi : i < 330) : (PP i = 0) ↔ i = 329 := by
  constructor
  · intro h
    by_cases h9 : i < 329
    · exact absurd h ((PP_tab ⟨i, hi⟩).2.1 h9)
    · omega
  · rintro rfl; exact PP_last

structure PosFacts (i j m n p q : Int) : Prop where
  lo : decide (p < 0) = false
  hi : decide (p > 329) = false
  last : (decide (i = 8) && decide (j = 9)) = decide (p = 0)
  nopow : i < 8 → bits .and .i64 p (wrap64 (p - 1)) ≠ 0
  ord : i < 8 → m < 8 → decide (wrap64 (wrap64 (40 * i) + j) < wrap64 (wrap64 (40 * m) + n)) = decide (p < q)
  eq : decide (p = q) = (decide (i = m) && decide (j = n))

theorem wI_data (i : Nat) (h : i < 320) : wI i = (i : Int) / 40 := by unfold wI; rw [if_neg (by omega)]
theorem bI_data (i : Nat) (h : i < 320) : bI i = (i : Int) % 40 := by unfold bI; rw [if_neg (by omega)]
theorem wI_code (i : Nat) (h : 320 ≤ i) : wI i = 8 := by unfold wI; rw [if_pos h]
theorem bI_code (i : Nat) (h : 320 ≤ i) : bI i = (i : Int) - 320 := by unfold bI; rw [if_pos h]
theorem wI_lt (i : Nat) (h : wI i < 8) : i < 320 := by
  by_cases g : i < 320
  · exact g
  · rw [wI_code i (by omega)] at h; omega
theorem wI_line (i : Nat) (h : i < 320) : wrap64 (wrap64 (40 * wI i) + bI i) = (i : Int) := by
  rw [wI_data i h, bI_data i h]; simp only [wrap64]; omega
theorem wI_inj (i m : Nat) (hi : i < 330) (hm : m < 330) (a : wI i = wI m) (b : bI i = bI m) : i = m := by
  by_cases h : i < 320 <;> by_cases g : m < 320
  · rw [wI_data i h, wI_data m g] at a; rw [bI_data i h, bI_data m g] at b; omega
  · rw [wI_data i h, wI_code m (by omega)] at a; omega
  · rw [wI_data m g, wI_code i (by omega)] at a; omega
  · rw [bI_code i (by omega), bI_code m (by omega)] at b; omega
theorem PP_data (i : Nat) (h : i < 320) : PP i = posn i := by unfold PP; rw [if_pos h]
theorem PP_nopow (i : Nat) (h : i < 320) : bits .and .i64 (((PP i : Nat) : Int)) (wrap64 (((PP i : Nat) : Int) - 1)) ≠ 0 := by
  have hb := posn_bound ⟨i, h⟩
  have hn := posn_nopow ⟨i, h⟩
  rw [PP_data i h]
  simp only at hb hn
  generalize posn i = z at *
  rw [show wrap64 ((z : Int) - 1) = ((z - 1 : Nat) : Int) from by simp only [wrap64]; omega, and_i64 _ _ (by omega) (by omega)]
  generalize z &&& (z - 1) = y at *
  omega
theorem PP_lt (i m : Nat) (h : i < 320) (g : m < 320) : (i : Int) < (m : Int) ↔ ((PP i : Nat) : Int) < ((PP m : Nat) : Int) := by
  have h1 : i < m → posn i < posn m := fun k => posn_mono k g
  have h2 : m < i → posn m < posn i := fun k => posn_mono k h
  have h3 : i = m → posn i = posn m := fun k => by rw [k]
  rw [PP_data i h, PP_data m g]
  generalize posn i = x at *
  generalize posn m = y at *
  omega
theorem wI_last (i : Nat) (hi : i < 330) : (wI i = 8 ∧ bI i = 9) ↔ i = 329 := by
  by_cases h : i < 320
  · rw [wI_data i h]; omega
  · rw [wI_code i (by omega), bI_code i (by omega)]; omega

theorem pos_facts (i m : Nat) (hi : i < 330) (hm : m < 330) : PosFacts (wI i) (bI i) (wI m) (bI m) (posB (wI i) (bI i)) (posB (wI m) (bI m)) := by
  rw [posI i hi, posI m hm]
  have h1 := PP_le i
  refine ⟨?_, ?_, ?_, ?_, ?_, ?_⟩
  · generalize PP i = x at *; simp
  · generalize PP i = x at *; simp; omega
  · rw [Bool.eq_iff_iff, Bool.and_eq_true, decide_eq_true_iff, decide_eq_true_iff, decide_eq_true_iff, wI_last i hi, ← PP_zero i hi]
    generalize PP i = x at *
    omega
  · intro h8; exact PP_nopow i (wI_lt i h8)
  · intro h8 g8
    rw [wI_line i (wI_lt i h8), wI_line m (wI_lt m g8), Bool.eq_iff_iff, decide_eq_true_iff, decide_eq_true_iff]
    exact PP_lt i m (wI_lt i h8) (wI_lt m g8)
  · rw [Bool.eq_iff_iff, Bool.and_eq_true, decide_eq_true_iff, decide_eq_true_iff, decide_eq_true_iff]
    constructor
    · intro h
      obtain rfl := PP_inj hi hm (Int.ofNat.inj h)
      exact ⟨rfl, rfl⟩
    · rintro ⟨a, b⟩
      rw [wI_inj i m hi hm a b]

theorem PosFacts.cases {i j m n p q : Int} (h : PosFacts i j m n p q) :
    ((i == 8) = false ∧ decide (i < 8) = true ∧ (p == 0) = false ∧ (bits .and .i64 p (wrap64 (p - 1)) == 0) = false ∧ (decide (m < 8) = false ∨ (decide (m < 8) = true ∧ ((decide (wrap64 (wrap64 (40 * i) + j) < wrap64 (wrap64 (40 * m) + n)) = true ∧ decide (p < q) = true) ∨ (decide (wrap64 (wrap64 (40 * i) + j) < wrap64 (wrap64 (40 * m) + n)) = false ∧ decide (p < q) = false))))) ∨
    (decide (i < 8) = false ∧ (((i == 8) = false ∧ (p == 0) = false) ∨ ((i == 8) = true ∧ (j == 9) = true ∧ (p == 0) = true) ∨ ((i == 8) = true ∧ (j == 9) = false ∧ (p == 0) = false))) := by
  obtain ⟨_, _, hla, hno, hor, _⟩ := h
  by_cases h8 : i < 8
  · left
    have h8' : i ≠ 8 := by omega
    have hp : p ≠ 0 := by simpa [h8'] using hla
    refine ⟨beq_eq_false_iff_ne.2 h8', decide_eq_true h8, beq_eq_false_iff_ne.2 hp, beq_eq_false_iff_ne.2 (hno h8), ?_⟩
    by_cases g8 : m < 8
    · right
      refine ⟨decide_eq_true g8, ?_⟩
      have := hor h8 g8
      rw [this]
      cases decide (p < q)
      · exact Or.inr ⟨rfl, rfl⟩
      · exact Or.inl ⟨rfl, rfl⟩
    · exact Or.inl (decide_eq_false g8)
  · right
    refine ⟨decide_eq_false h8, ?_⟩
    by_cases e8 : i = 8
    · right
      by_cases e9 : j = 9
      · left
        have hp : p = 0 := by simpa [e8, e9] using hla
        exact ⟨beq_iff_eq.2 e8, beq_iff_eq.2 e9, beq_iff_eq.2 hp⟩
      · right
        have hp : p ≠ 0 := by simpa [e8, e9] using hla
        exact ⟨beq_iff_eq.2 e8, beq_eq_false_iff_ne.2 e9, beq_eq_false_iff_ne.2 hp⟩
    · left
      have hp : p ≠ 0 := by simpa [e8] using hla
      exact ⟨beq_eq_false_iff_ne.2 e8, beq_eq_false_iff_ne.2 hp⟩

theorem PosFacts.same {i j m n p q : Int} (h : PosFacts i j m n p q) :
    ((i == m) = false ∧ (p == q) = false) ∨ ((i == m) = true ∧ (j == n) = false ∧ (p == q) = false) ∨ ((i == m) = true ∧ (j == n) = true ∧ (p == q) = true) := by
  have heq := h.eq
  by_cases a : i = m
  · right
    by_cases b : j = n
    · right
      have : p = q := by simpa [a, b] using heq
      exact ⟨beq_iff_eq.2 a, beq_iff_eq.2 b, beq_iff_eq.2 this⟩
    · left
      have : p ≠ q := by simpa [a, b] using heq
      exact ⟨beq_iff_eq.2 a, beq_eq_false_iff_ne.2 b, beq_eq_false_iff_ne.2 this⟩
  · left
    have : p ≠ q := by simpa [a] using heq
    exact ⟨beq_eq_false_iff_ne.2 a, beq_eq_false_iff_ne.2 this⟩

set_option maxRecDepth 100000 in
set_option maxHeartbeats 4000000 in
theorem positions_law (o r : Int) (w : World) (hT : TabIn w) (h0 : 0 ≤ o) (h1 : o ≤ 65535) (h2 : 0 ≤ r) (h3 : r ≤ 65535) :
    Calls Tryd.prog 9 #[.int .u16 o, .int .u16 r] w (RetB (.bool true) w) := by
  have HT := Lib.hid hT
  clear hT
  have Hbit := Lib.hid (fun W => Bit_any o W h0 h1)
  have Hbit2 := Lib.hid (fun W => Bit_any r W h2 h3)
  obtain ⟨a, ha, ea, fa⟩ := bit_I o
  obtain ⟨b, hb, eb, fb⟩ := bit_I r
  rw [ea, fa] at Hbit
  rw [eb, fb] at Hbit2
  have hf := pos_facts a b ha hb
  have Hpos := Lib.hid (fun W => Position_any (wI a) (bI a) W)
  have Hpos2 := Lib.hid (fun W => Position_any (wI b) (bI b) W)
  clear ea fa eb fb h0 h1 h2 h3 ha hb
  generalize posB (wI a) (bI a) = p at *
  generalize posB (wI b) (bI b) = q at *
  generalize wI a = i at *
  generalize bI a = j at *
  generalize wI b = m at *
  generalize bI b = n at *
  clear a b
  have HF := Lib.hid hf
  clear hf
  obtain ⟨w0, Hw0⟩ : ∃ w0, Hid (w0 = w) := ⟨w, rfl⟩
  go_enter Tryd.func9, Tryd.ntmps9
  go_wp2_with fail
  refine (Hbit.out _).mono ?_
  rintro e w' ⟨rfl, rfl⟩
  go_wp2_with fail
  refine (Hbit2.out _).mono ?_
  rintro e w' ⟨rfl, rfl⟩
  go_wp2_with fail
  refine (Hpos.out _).mono ?_
  rintro e w' ⟨rfl, rfl⟩
  go_wp2_with fail
  refine (Hpos2.out _).mono ?_
  rintro e w' ⟨rfl, rfl⟩
  have hlo := HF.out.lo
  have hhi := HF.out.hi
  have Hs := Lib.hid HF.out.same
  rcases HF.out.cases with ⟨t1, t2, t3, t4, t5 | ⟨t5, ⟨t6, t7⟩ | ⟨t6, t7⟩⟩⟩ | ⟨t1, ⟨t2, t3⟩ | ⟨t2, t3, t4⟩ | ⟨t2, t3, t4⟩⟩ <;> clear HF
  all_goals
    go_wp2_with fail
    refine (sanity_any _ HT.out).mono ?_
    rintro e w' ⟨rfl, hb⟩
    rcases Hs.out with ⟨u1, u2⟩ | ⟨u1, u2, u3⟩ | ⟨u1, u2, u3⟩ <;> clear Hs
    all_goals
      go_wp2
      go_ret
      exact ⟨rfl, hb⟩

end Go.Proofs.YtmhllnnchhcamaaDoor
