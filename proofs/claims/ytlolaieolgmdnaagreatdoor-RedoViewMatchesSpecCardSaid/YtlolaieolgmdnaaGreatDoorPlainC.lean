/-
  Numbers alone, no program: taking the lowest one out of a word, and sums over the words of a line.
-/
import Derived.Test.YtlolaieolgmdnaaGreatDoorPlainB
namespace Go.Proofs.YtlolaieolgmdnaaGreatDoor

theorem xs_ext (f : Nat → Bool) (p q : Nat → Nat) (n : Nat) (h : ∀ i, i < n → p i = q i) : xs f p n = xs f q n := by
  induction n with
  | zero => rfl
  | succ n ih => rw [xs_succ, xs_succ, ih (fun i hi => h i (by omega)), h n (by omega)]

theorem xs_add (f : Nat → Bool) (p : Nat → Nat) (m n : Nat) : xs f p (m + n) = xs f p m ^^^ xs (fun i => f (m + i)) (fun i => p (m + i)) n := by
  induction n with
  | zero => simp [xs]
  | succ n ih => rw [← Nat.add_assoc, xs_succ, xs_succ, ih, Nat.xor_assoc]

theorem xs_none (f : Nat → Bool) (p : Nat → Nat) (n : Nat) (h : ∀ i, i < n → f i = false) : xs f p n = 0 := by
  induction n with
  | zero => rfl
  | succ n ih => rw [xs_succ, ih (fun i hi => h i (by omega)), h n (by omega)]; simp

theorem cn_none (f : Nat → Bool) (n : Nat) (h : ∀ i, i < n → f i = false) : cn f n = 0 := by
  induction n with
  | zero => rfl
  | succ n ih => rw [cn_succ, ih (fun i hi => h i (by omega)), h n (by omega)]; simp

/-- One of the ones taken out. -/
theorem xs_take (f g : Nat → Bool) (p : Nat → Nat) (t : Nat) (ht : f t = true) (hg : ∀ i, g i = (f i && i != t)) (n : Nat) :
    xs f p n = (if t < n then p t else 0) ^^^ xs g p n := by
  induction n with
  | zero => simp [xs]
  | succ n ih =>
    rw [xs_succ, xs_succ, ih, hg n]
    by_cases hn : n = t
    · subst hn
      simp [ht, Nat.xor_comm]
    · by_cases hlt : t < n
      · simp [hn, hlt, Nat.lt_succ_of_lt hlt, Nat.xor_assoc]
      · have h2 : ¬ t < n + 1 := by omega
        simp [hn, hlt, h2]

theorem cn_take (f g : Nat → Bool) (t : Nat) (ht : f t = true) (hg : ∀ i, g i = (f i && i != t)) (n : Nat) :
    cn f n = (if t < n then 1 else 0) + cn g n := by
  induction n with
  | zero => simp [cn]
  | succ n ih =>
    rw [cn_succ, cn_succ, ih, hg n]
    by_cases hn : n = t
    · subst hn
      simp [ht]; omega
    · by_cases hlt : t < n
      · simp [hn, hlt, Nat.lt_succ_of_lt hlt]; omega
      · have h2 : ¬ t < n + 1 := by omega
        simp [hn, hlt, h2]

/-- The lowest one of a number: it is a bit of it; 'x & (x - 1)' has all its other bits. -/
theorem low_one (x : Nat) (hx : x < 1099511627776) (h0 : x ≠ 0) :
    Lib.ctz 64 x < 40 ∧ x.testBit (Lib.ctz 64 x) = true ∧ (∀ i, (x &&& (x - 1)).testBit i = (x.testBit i && i != Lib.ctz 64 x)) ∧ x &&& (x - 1) < x := by
  have e : Lib.ctz 64 x = Lib.ctzFrom 64 x := by unfold Lib.ctz; rw [if_neg h0]
  rw [e]
  obtain ⟨m, hm, hk⟩ := Lib.ctzFrom_spec 64 x (by omega) (by omega)
  generalize Lib.ctzFrom 64 x = t at *
  have hp : 0 < 2 ^ t := Nat.two_pow_pos t
  have h40 : t < 40 := by
    apply Nat.lt_of_not_le
    intro hle
    have h1 : 2 ^ 40 ≤ 2 ^ t := Nat.pow_le_pow_right (by decide) hle
    have h2 : 2 ^ t ≤ 2 ^ t * (2 * m + 1) := Nat.le_mul_of_pos_right _ (by omega)
    omega
  have hx1 : x - 1 = 2 ^ t * (2 * m) + (2 ^ t - 1) := by
    rw [hm, Nat.mul_add, Nat.mul_one]; omega
  have ht : ∀ i, x.testBit i = (decide (t ≤ i) && (2 * m + 1).testBit (i - t)) := fun i => by
    rw [hm, Nat.mul_comm, Nat.testBit_mul_two_pow]
  have hb : ∀ i, (x - 1).testBit i = if i < t then true else (2 * m).testBit (i - t) := fun i => by
    have hlt : 2 ^ t - 1 < 2 ^ t := by omega
    rw [hx1, Nat.testBit_two_pow_mul_add _ hlt]
    split
    · rename_i hi
      rw [Nat.testBit_two_pow_sub_one]; simp [hi]
    · rfl
  have hbit : ∀ i, (x &&& (x - 1)).testBit i = (x.testBit i && i != t) := fun i => by
    rw [Nat.testBit_and, ht, hb]
    by_cases hi : i < t
    · have : ¬ t ≤ i := by omega
      simp [this]
    · rcases (by omega : i = t ∨ t < i) with rfl | hti
      · simp [Nat.testBit_zero]
      · obtain ⟨j, rfl⟩ : ∃ j, i = t + (j + 1) := ⟨i - t - 1, by omega⟩
        have e3 : t + (j + 1) - t = j + 1 := by omega
        rw [e3]
        have d1 : (2 * m + 1) / 2 = m := by omega
        have d2 : (2 * m) / 2 = m := by omega
        have n1 : ¬ t + (j + 1) < t := by omega
        have n2 : t ≤ t + (j + 1) := by omega
        have n3 : (t + (j + 1) != t) = true := by rw [bne_iff_ne]; omega
        rw [if_neg n1, n3, Nat.testBit_succ, Nat.testBit_succ, d1, d2]
        simp [n2]
  refine ⟨h40, by rw [ht]; simp, hbit, ?_⟩
  have hle : x &&& (x - 1) ≤ x - 1 := Nat.and_le_right
  omega

/-- What the ones of word k give. -/
def wx (k x : Nat) : Nat := xs (fun j => x.testBit j) (fun j => posn (40 * k + j)) 40

theorem wx_step (k x : Nat) (hx : x < 1099511627776) (h0 : x ≠ 0) : wx k x = posn (40 * k + Lib.ctz 64 x) ^^^ wx k (x &&& (x - 1)) := by
  obtain ⟨h40, ht, hg, _⟩ := low_one x hx h0
  unfold wx
  rw [xs_take _ _ _ _ ht hg 40, if_pos h40]

theorem pop_step (x : Nat) (hx : x < 1099511627776) (h0 : x ≠ 0) : pop 40 x = 1 + pop 40 (x &&& (x - 1)) := by
  obtain ⟨h40, ht, hg, _⟩ := low_one x hx h0
  unfold pop
  rw [cn_take _ _ _ ht hg 40, if_pos h40]

theorem wx_zero (k : Nat) : wx k 0 = 0 := xs_none _ _ _ fun i _ => by simp

theorem lb_at (l : W8) (k j : Nat) (hj : j < 40) : lb l (40 * k + j) = (wd l k).testBit j := by
  unfold lb
  rw [show (40 * k + j) / 40 = k from by omega, show (40 * k + j) % 40 = j from by omega]

theorem syn_word (l : W8) (k : Nat) : xs (lb l) posn (40 * (k + 1)) = xs (lb l) posn (40 * k) ^^^ wx k (wd l k) := by
  rw [Nat.mul_add, xs_add]
  congr 1
  exact xs_congr _ _ _ _ fun i hi => lb_at l k i (by omega)

theorem cnt_word (l : W8) (k : Nat) : cn (lb l) (40 * (k + 1)) = cn (lb l) (40 * k) + pop 40 (wd l k) := by
  rw [Nat.mul_add, cn_add]
  congr 1
  exact cn_congr _ _ _ fun i hi => lb_at l k i (by omega)

theorem xs_lt (f : Nat → Bool) (p : Nat → Nat) (n : Nat) (h : ∀ i, i < n → p i < 512) : xs f p n < 512 := by
  induction n with
  | zero => exact (by decide : (0 : Nat) < 512)
  | succ n ih =>
    rw [xs_succ]
    have h1 := ih (fun i hi => h i (by omega))
    have h2 : (if f n = true then p n else 0) < 512 := by have := h n (by omega); split <;> omega
    exact Nat.xor_lt_two_pow (n := 9) h1 h2

theorem posn_lt (i : Nat) (h : i < 320) : posn i < 512 := by have := posn_bound ⟨i, h⟩; simp only at this; omega
theorem syn_part_lt (l : W8) (n : Nat) (h : n ≤ 320) : xs (lb l) posn n < 512 := xs_lt _ _ _ fun i hi => posn_lt i (by omega)
theorem syn_lt (l : W8) : syn l < 512 := syn_part_lt l 320 (by omega)
theorem wx_lt (k x : Nat) (hk : k < 8) : wx k x < 512 := xs_lt _ _ _ fun i hi => posn_lt _ (by omega)
theorem cnt_le (l : W8) : cnt l ≤ 320 := cn_le _ _

theorem wd_lt {l : W8} {c : Int} (hv : validB l c = true) (k : Nat) (hk : k < 8) : wd l k < 1099511627776 ∧ ((wd l k : Nat) : Int) = l.get k := by
  have := (validB_iff.1 hv).1 k hk
  unfold wd; omega

/-- From bit j of word k on there is no one. -/
theorem syn_rest (l : W8) (k j : Nat) (hj : j ≤ 40) (h : ∀ i, j ≤ i → i < 40 → (wd l k).testBit i = false) :
    xs (lb l) posn (40 * k + j) = xs (lb l) posn (40 * (k + 1)) ∧ cn (lb l) (40 * k + j) = cn (lb l) (40 * (k + 1)) := by
  have e : 40 * (k + 1) = (40 * k + j) + (40 - j) := by omega
  have hf : ∀ i, i < 40 - j → lb l (40 * k + j + i) = false := fun i hi => by
    rw [Nat.add_assoc, lb_at l k (j + i) (by omega)]; exact h _ (by omega) (by omega)
  rw [e, xs_add (lb l) posn (40 * k + j) (40 - j), cn_add (lb l) (40 * k + j) (40 - j), xs_none _ _ _ hf, cn_none _ _ hf]
  simp

/-- The bits of a code that have positions, below j. -/
def cs (n j : Nat) : Nat := n % 2 ^ min j 9

theorem cs_step (n j : Nat) (hj : j < 9) : cs n (j + 1) = cs n j ^^^ (if n.testBit j then 2 ^ j else 0) := by
  unfold cs
  rw [show min (j + 1) 9 = j + 1 from by omega, show min j 9 = j from by omega]
  apply Nat.eq_of_testBit_eq
  intro i
  rw [Nat.testBit_xor, Nat.testBit_mod_two_pow, Nat.testBit_mod_two_pow]
  cases hb : n.testBit j with
  | false =>
    simp only [Bool.false_eq_true, if_false, Nat.zero_testBit, Bool.xor_false]
    rcases (by omega : i < j ∨ i = j ∨ j < i) with h | rfl | h
    · simp [h, Nat.lt_succ_of_lt h]
    · simp [hb]
    · have h1 : ¬ i < j := by omega
      have h2 : ¬ i < j + 1 := by omega
      simp [h1, h2]
  | true =>
    simp only [if_true, Nat.testBit_two_pow]
    rcases (by omega : i < j ∨ i = j ∨ j < i) with h | rfl | h
    · have h1 : ¬ j = i := by omega
      simp [h, Nat.lt_succ_of_lt h, h1]
    · simp [hb]
    · have h1 : ¬ i < j := by omega
      have h2 : ¬ i < j + 1 := by omega
      have h3 : ¬ j = i := by omega
      simp [h1, h2, h3]

theorem xor_lt512 {a b : Nat} (ha : a < 512) (hb : b < 512) : a ^^^ b < 512 := Nat.xor_lt_two_pow (n := 9) ha hb
theorem lt63 {a : Nat} (ha : a ≤ 512) : a < 9223372036854775808 := by omega
theorem cs_last (n : Nat) : cs n 10 = cs n 9 := rfl
theorem cs_zero (n : Nat) : cs n 0 = 0 := by unfold cs; simp [Nat.mod_one]
theorem cs_ten (n : Nat) : cs n 10 = n % 512 := rfl
theorem cs_lt (n j : Nat) : cs n j < 512 := by
  unfold cs
  have h1 : n % 2 ^ min j 9 < 2 ^ min j 9 := Nat.mod_lt _ (Nat.two_pow_pos _)
  have h2 : 2 ^ min j 9 ≤ 2 ^ 9 := Nat.pow_le_pow_right (by decide) (by omega)
  omega
theorem pop_succ (j n : Nat) : pop (j + 1) n = pop j n + (if n.testBit j then 1 else 0) := rfl
theorem pop_le (j n : Nat) : pop j n ≤ j := cn_le _ _
theorem pop_code (n : Nat) (h : n < 1024) : pop 40 n = pop 10 n := by
  unfold pop
  rw [show (40 : Nat) = 10 + 30 from rfl, cn_add, cn_none (fun i => n.testBit (10 + i)) 30 fun i _ => Nat.testBit_lt_two_pow (Nat.lt_of_lt_of_le h (by
    rw [show (1024 : Nat) = 2 ^ 10 from rfl]; exact Nat.pow_le_pow_right (by decide) (by omega)))]
  rfl

end Go.Proofs.YtlolaieolgmdnaaGreatDoor
