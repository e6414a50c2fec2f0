/-
  Numbers alone, no program: a line with its code as 330 bits; flipping bits; what Check answers then.
-/
import Derived.Test.YtmhllnnchhcamaaDoorCodeQ
namespace Go.Proofs.YtmhllnnchhcamaaDoor

/-- Bit i of a line with its code. -/
def cb (l : W8) (c : Nat) (i : Nat) : Bool := if i < 320 then lb l i else c.testBit (i - 320)
/-- The position of bit i; the last bit has none. -/
def PP (i : Nat) : Nat := if i < 320 then posn i else if i < 329 then 2 ^ (i - 320) else 0

theorem PP_tab : ∀ i : Fin 330, PP i.val < 512 ∧ (i.val < 329 → PP i.val ≠ 0) ∧ (320 ≤ i.val → i.val < 329 → PP i.val &&& (PP i.val - 1) = 0) := by decide +kernel
theorem PP_last : PP 329 = 0 := by decide +kernel
theorem pow_inj9 : ∀ i j : Fin 9, 2 ^ i.val = 2 ^ j.val → i.val = j.val := by decide +kernel

theorem PP_inj {i j : Nat} (hi : i < 330) (hj : j < 330) (h : PP i = PP j) : i = j := by
  obtain ⟨_, ni, pi⟩ := PP_tab ⟨i, hi⟩
  obtain ⟨_, nj, pj⟩ := PP_tab ⟨j, hj⟩
  simp only at ni pi nj pj
  by_cases i9 : i = 329
  · subst i9
    rw [PP_last] at h
    by_cases j9 : j = 329
    · exact j9.symm
    · exact absurd h.symm (nj (by omega))
  · by_cases j9 : j = 329
    · subst j9; rw [PP_last] at h; exact absurd h (ni (by omega))
    · by_cases i3 : i < 320
      · have hip := posn_nopow ⟨i, i3⟩
        have ei : PP i = posn i := by unfold PP; rw [if_pos i3]
        by_cases j3 : j < 320
        · have ej : PP j = posn j := by unfold PP; rw [if_pos j3]
          exact posn_inj i3 j3 (by rw [← ei, ← ej, h])
        · have := pj (by omega) (by omega)
          rw [← h, ei] at this
          exact absurd this hip
      · by_cases j3 : j < 320
        · have hjp := posn_nopow ⟨j, j3⟩
          have ej : PP j = posn j := by unfold PP; rw [if_pos j3]
          have := pi (by omega) (by omega)
          rw [h, ej] at this
          exact absurd this hjp
        · have ei : PP i = 2 ^ (i - 320) := by unfold PP; rw [if_neg i3, if_pos (by omega)]
          have ej : PP j = 2 ^ (j - 320) := by unfold PP; rw [if_neg j3, if_pos (by omega)]
          have := pow_inj9 ⟨i - 320, by omega⟩ ⟨j - 320, by omega⟩ (by simp only; rw [← ei, ← ej, h])
          simp only at this
          omega

theorem xs_code (c : Nat) : xs (fun j => c.testBit j) (fun j => 2 ^ j) 9 = c % 512 := by
  have h : ∀ n, n ≤ 9 → xs (fun j => c.testBit j) (fun j => 2 ^ j) n = cs c n := by
    intro n
    induction n with
    | zero => intro _; rw [cs_zero]; rfl
    | succ n ih => intro hn; rw [xs_succ, ih (by omega), cs_step c n (by omega)]
  rw [h 9 (by omega), ← cs_last, cs_ten]

theorem synC_bits (l : W8) (c : Nat) : synC l c = xs (cb l c) PP 330 := by
  have e0 : xs (cb l c) PP 330 = xs (cb l c) PP 320 ^^^ xs (fun i => cb l c (320 + i)) (fun i => PP (320 + i)) 10 := xs_add _ _ 320 10
  have e3 : xs (fun i => cb l c (320 + i)) (fun i => PP (320 + i)) 10 = xs (fun i => cb l c (320 + i)) (fun i => PP (320 + i)) 9 ^^^ (if cb l c (320 + 9) then PP (320 + 9) else 0) := xs_succ _ _ 9
  rw [e0, e3]
  have e1 : xs (cb l c) PP 320 = syn l := by
    unfold syn
    rw [xs_congr (cb l c) (lb l) PP 320 fun i hi => by unfold cb; rw [if_pos hi]]
    exact xs_ext _ _ _ _ fun i hi => by unfold PP; rw [if_pos hi]
  have e2 : xs (fun i => cb l c (320 + i)) (fun i => PP (320 + i)) 9 = c % 512 := by
    rw [← xs_code]
    rw [xs_congr (fun i => cb l c (320 + i)) (fun j => c.testBit j) _ 9 fun i hi => by unfold cb; rw [if_neg (by omega), Nat.add_sub_cancel_left]]
    exact xs_ext _ _ _ _ fun i hi => by simp only [PP]; rw [if_neg (by omega), if_pos (by omega), Nat.add_sub_cancel_left]
  rw [e1, e2, show PP (320 + 9) = 0 from PP_last]
  unfold synC
  rw [Int.toNat_natCast]
  simp

theorem cnt_bits (l : W8) (c : Nat) (hc : c < 1024) : cnt l + pop 40 c = cn (cb l c) 330 := by
  rw [show (330 : Nat) = 320 + 10 from rfl, cn_add, pop_code c hc]
  have e1 : cn (cb l c) 320 = cnt l := cn_congr _ _ _ fun i hi => by unfold cb; rw [if_pos hi]
  have e2 : cn (fun i => cb l c (320 + i)) 10 = pop 10 c := cn_congr _ _ _ fun i hi => by unfold cb; rw [if_neg (by omega), Nat.add_sub_cancel_left]
  rw [e1, e2]

theorem oddC_bits (l : W8) (c : Nat) (hc : c < 1024) : oddC l c = (cn (cb l c) 330 % 2 == 1) := by
  unfold oddC; rw [Int.toNat_natCast, cnt_bits l c hc]

theorem dsum_bits (l m : W8) (k : Nat) : dsum l m k = cn (fun i => lb l i != lb m i) (40 * k) := by
  induction k with
  | zero => rfl
  | succ k ih =>
    rw [dsum_succ, ih, Nat.mul_add, cn_add]
    congr 1
    unfold pop
    exact cn_congr _ _ _ fun i hi => by
      rw [lb_at l k i (by omega), lb_at m k i (by omega), Nat.testBit_xor]

theorem dist_bits (l m : W8) (c d : Nat) (hv : validB l c = true) (hv2 : validB m d = true) : dist l c m d = ((cn (fun i => cb l c i != cb m d i) 330 : Nat) : Int) := by
  have hc := (validB_iff.1 hv).2
  have hd := (validB_iff.1 hv2).2
  unfold dist
  rw [hv, hv2, Bool.and_self, if_pos rfl, Int.toNat_natCast, Int.toNat_natCast, dsum_bits, pop_code _ (Nat.xor_lt_two_pow (n := 10) (by omega) (by omega))]
  have e0 : cn (fun i => cb l c i != cb m d i) 330 = cn (fun i => cb l c i != cb m d i) 320 + cn (fun i => cb l c (320 + i) != cb m d (320 + i)) 10 := cn_add _ 320 10
  have e1 : cn (fun i => cb l c i != cb m d i) 320 = cn (fun i => lb l i != lb m i) (40 * 8) := cn_congr _ _ _ fun i hi => by unfold cb; rw [if_pos (by omega), if_pos (by omega)]
  have e2 : cn (fun i => cb l c (320 + i) != cb m d (320 + i)) 10 = pop 10 (c ^^^ d) := by
    unfold pop
    exact cn_congr _ _ _ fun i hi => by unfold cb; rw [if_neg (by omega), if_neg (by omega), Nat.add_sub_cancel_left, Nat.testBit_xor]
  rw [e0, e1, e2]

/-- The bits tell the line and its code. -/
theorem bits_ext (l m : W8) (c d : Nat) (hv : validB l c = true) (hv2 : validB m d = true) (h : ∀ i, i < 330 → cb l c i = cb m d i) : l = m ∧ c = d := by
  have hc := (validB_iff.1 hv).2
  have hd := (validB_iff.1 hv2).2
  refine ⟨W8.ext_get fun k hk => ?_, ?_⟩
  · obtain ⟨h1, e1⟩ := wd_lt hv k hk
    obtain ⟨h2, e2⟩ := wd_lt hv2 k hk
    rw [← e1, ← e2]
    congr 1
    apply Nat.eq_of_testBit_eq
    intro j
    by_cases hj : j < 40
    · have := h (40 * k + j) (by omega)
      unfold cb at this
      rw [if_pos (by omega), if_pos (by omega), lb_at l k j hj, lb_at m k j hj] at this
      exact this
    · have hp : 2 ^ 40 ≤ 2 ^ j := Nat.pow_le_pow_right (by decide) (by omega)
      rw [Nat.testBit_lt_two_pow (by omega), Nat.testBit_lt_two_pow (by omega)]
  · apply Nat.eq_of_testBit_eq
    intro j
    by_cases hj : j < 10
    · have := h (320 + j) (by omega)
      unfold cb at this
      rw [if_neg (by omega), if_neg (by omega), Nat.add_sub_cancel_left] at this
      exact this
    · have hp : 2 ^ 10 ≤ 2 ^ j := Nat.pow_le_pow_right (by decide) (by omega)
      rw [Nat.testBit_lt_two_pow (by omega), Nat.testBit_lt_two_pow (by omega)]

/-- The word and the bit that have number i. -/
def wI (i : Nat) : Int := if 320 ≤ i then 8 else (i : Int) / 40
def bI (i : Nat) : Int := if 320 ≤ i then (i : Int) - 320 else (i : Int) % 40
theorem ex_I (i : Nat) (h : i < 330) : exB (wI i) (bI i) = true := by
  rw [exB_iff]; unfold wI bI
  split <;> omega

/-- A line, its code, with bit i inverted. -/
def flL (l : W8) (i : Nat) : W8 := flpL l (wI i) (bI i)
def flC (c : Nat) (i : Nat) : Nat := if 320 ≤ i then c ^^^ 2 ^ (i - 320) else c

theorem two_lt (n j k : Nat) (hn : n < 2 ^ k) (hj : j < k) : n ^^^ 2 ^ j < 2 ^ k := Nat.xor_lt_two_pow hn (Nat.pow_lt_pow_right (by decide) hj)

theorem flC_is (c i : Nat) (hc : c < 1024) (hi : i < 330) : flpC c (wI i) (bI i) = ((flC c i : Nat) : Int) := by
  unfold flpC flC
  rw [ex_I i hi, if_pos rfl]
  unfold wI bI
  by_cases h : 320 ≤ i
  · rw [if_pos h, if_pos h, if_pos rfl, if_pos h]
    have e : ((i : Int) - 320).toNat = i - 320 := by omega
    have hp : 2 ^ (i - 320) < 2 ^ 10 := Nat.pow_lt_pow_right (by decide) (by omega)
    rw [e, show (2 : Int) ^ (i - 320) = ((2 ^ (i - 320) : Nat) : Int) from by simp, xor_i64 _ _ (by omega) (by omega)]
  · rw [if_neg h, if_neg h, if_neg (by omega), if_neg h]

theorem flL_code (l : W8) (i : Nat) (h : 320 ≤ i) : flL l i = l := by
  unfold flL flpL wI bI
  rw [if_pos h, if_pos h]
  split <;> rfl

theorem flL_get (l : W8) (i : Nat) (hi : i < 320) (k : Nat) : (flL l i).get k = if k = i / 40 then bits .xor .i64 (l.get (i / 40)) ((2 ^ (i % 40) : Nat) : Int) else l.get k := by
  unfold flL flpL
  rw [ex_I i (by omega), if_pos rfl]
  unfold wI bI
  rw [if_neg (by omega), if_neg (by omega), if_neg (by omega)]
  have e1 : ((i : Int) / 40).toNat = i / 40 := by omega
  have e2 : ((i : Int) % 40).toNat = i % 40 := by omega
  rw [e1, e2, W8.get_set _ _ _ _ (by omega)]
  simp

theorem wd_flL (l : W8) (c i : Nat) (hv : validB l c = true) (hi : i < 320) (k : Nat) (hk : k < 8) :
    (flL l i).get k = (((if k = i / 40 then wd l k ^^^ 2 ^ (i % 40) else wd l k) : Nat) : Int) ∧ (if k = i / 40 then wd l k ^^^ 2 ^ (i % 40) else wd l k) < 1099511627776 := by
  rw [flL_get l i hi k]
  obtain ⟨h1, e1⟩ := wd_lt hv k hk
  by_cases h : k = i / 40
  · subst h
    rw [if_pos rfl, if_pos rfl, ← e1]
    have hp : 2 ^ (i % 40) < 2 ^ 40 := Nat.pow_lt_pow_right (by decide) (by omega)
    exact ⟨xor_i64 _ _ (by omega) (by omega), two_lt _ _ 40 h1 (by omega)⟩
  · rw [if_neg h, if_neg h]
    exact ⟨e1.symm, h1⟩

theorem flC_lt (c i : Nat) (hc : c < 1024) (hi : i < 330) : flC c i < 1024 := by
  unfold flC
  split
  · exact two_lt _ _ 10 hc (by omega)
  · exact hc

theorem fl_valid (l : W8) (c i : Nat) (hv : validB l c = true) (hi : i < 330) : validB (flL l i) (flC c i : Nat) = true := by
  have hc := (validB_iff.1 hv).2
  have h2 := flC_lt c i (by omega) hi
  refine validB_yes (fun k hk => ?_) (by omega) (by omega)
  by_cases h : 320 ≤ i
  · rw [flL_code l i h]; exact (validB_iff.1 hv).1 k hk
  · obtain ⟨h1, h3⟩ := wd_flL l c i hv (by omega) k hk
    rw [h1]; omega

/-- Inverting bit i inverts bit i alone. -/
theorem fl_bits (l : W8) (c i : Nat) (hv : validB l c = true) (hi : i < 330) (j : Nat) (hj : j < 330) : cb (flL l i) (flC c i) j = (cb l c j != (i == j)) := by
  unfold cb
  by_cases h : 320 ≤ i
  · rw [flL_code l i h]
    by_cases hj3 : j < 320
    · rw [if_pos hj3, if_pos hj3]
      have : (i == j) = false := by rw [beq_eq_false_iff_ne]; omega
      rw [this]; simp
    · rw [if_neg hj3, if_neg hj3]
      unfold flC
      rw [if_pos h, Nat.testBit_xor, Nat.testBit_two_pow]
      have : (i == j) = decide (i - 320 = j - 320) := by
        rw [Bool.eq_iff_iff, beq_iff_eq, decide_eq_true_iff]; omega
      rw [this]
  · have ec : flC c i = c := by unfold flC; rw [if_neg h]
    rw [ec]
    by_cases hj3 : j < 320
    · rw [if_pos hj3, if_pos hj3]
      obtain ⟨h1, _⟩ := wd_flL l c i hv (by omega) (j / 40) (by omega)
      have e : wd (flL l i) (j / 40) = if j / 40 = i / 40 then wd l (j / 40) ^^^ 2 ^ (i % 40) else wd l (j / 40) := by
        show ((flL l i).get (j / 40)).toNat = _
        rw [h1, Int.toNat_natCast]
      have e2 : lb (flL l i) j = (wd (flL l i) (j / 40)).testBit (j % 40) := rfl
      have e3 : lb l j = (wd l (j / 40)).testBit (j % 40) := rfl
      rw [e2, e3, e]
      clear e2 e3 e h1
      generalize wd l (j / 40) = x
      by_cases hq : j / 40 = i / 40
      · rw [if_pos hq, Nat.testBit_xor, Nat.testBit_two_pow]
        have : (i == j) = decide (i % 40 = j % 40) := by
          rw [Bool.eq_iff_iff, beq_iff_eq, decide_eq_true_iff]; omega
        rw [this]
      · rw [if_neg hq]
        have : (i == j) = false := by rw [beq_eq_false_iff_ne]; intro hh; subst hh; exact hq rfl
        rw [this]; simp
    · rw [if_neg hj3, if_neg hj3]
      have : (i == j) = false := by rw [beq_eq_false_iff_ne]; omega
      rw [this]; simp

end Go.Proofs.YtmhllnnchhcamaaDoor
