/-
  Numbers alone, no program: the code corrects one bit and finds two; its distance is four.
-/
import Derived.Test.YtmhllnnchhcamaaDoorPlainD
namespace Go.Proofs.YtmhllnnchhcamaaDoor

theorem xs_xor (f g : Nat → Bool) (p : Nat → Nat) (n : Nat) : xs (fun j => f j != g j) p n = xs f p n ^^^ xs g p n := by
  induction n with
  | zero => simp [xs]
  | succ n ih =>
    rw [xs_succ, xs_succ, xs_succ, ih]
    cases f n <;> cases g n
    · simp
    · simp [Nat.xor_assoc]
    · simp only [bne_iff_ne, ne_eq, Bool.true_eq_false, not_false_eq_true, if_true, Bool.false_eq_true, if_false, Nat.xor_zero]
      rw [Nat.xor_assoc, Nat.xor_assoc, Nat.xor_comm (xs g p n)]
    · simp only [bne_self_eq_false, Bool.false_eq_true, if_false, if_true, Nat.xor_zero]
      rw [Nat.xor_assoc, Nat.xor_comm (p n), Nat.xor_assoc, Nat.xor_self, Nat.xor_zero]

theorem cn_xor (f g : Nat → Bool) (n : Nat) : cn (fun j => f j != g j) n % 2 = (cn f n + cn g n) % 2 := by
  induction n with
  | zero => rfl
  | succ n ih =>
    rw [cn_succ, cn_succ, cn_succ]
    cases f n <;> cases g n <;> simp <;> omega

theorem xs_at (i n : Nat) (p : Nat → Nat) : xs (fun j => i == j) p n = if i < n then p i else 0 := by
  induction n with
  | zero => simp [xs]
  | succ n ih =>
    rw [xs_succ, ih]
    by_cases h : i = n
    · subst h; simp
    · have hb : (i == n) = false := by rw [beq_eq_false_iff_ne]; exact h
      by_cases h2 : i < n
      · simp [hb, h2, Nat.lt_succ_of_lt h2]
      · have h3 : ¬ i < n + 1 := by omega
        simp [hb, h2, h3]

theorem cn_at (i n : Nat) : cn (fun j => i == j) n = if i < n then 1 else 0 := by
  induction n with
  | zero => simp [cn]
  | succ n ih =>
    rw [cn_succ, ih]
    by_cases h : i = n
    · subst h; simp
    · have hb : (i == n) = false := by rw [beq_eq_false_iff_ne]; exact h
      by_cases h2 : i < n
      · simp [hb, h2, Nat.lt_succ_of_lt h2]
      · have h3 : ¬ i < n + 1 := by omega
        simp [hb, h2, h3]

/-- The code of a line, as a natural number. -/
def encN (l : W8) : Nat := syn l + 512 * ((cnt l + pop 40 (syn l)) % 2)
theorem encN_lt (l : W8) : encN l < 1024 := by have := syn_lt l; unfold encN; omega
theorem enc_is (l : W8) (hv : validB l 0 = true) : enc l = ((encN l : Nat) : Int) := by unfold enc encN; rw [if_pos hv]

theorem pop_split (s b : Nat) (hs : s < 512) (hb : b < 2) : pop 40 (s + 512 * b) = pop 40 s + b := by
  have e : s + 512 * b = 2 ^ 9 * b + s := by omega
  have h9 : s < 2 ^ 9 := by omega
  have h1 : pop 40 (s + 512 * b) = pop 9 s + b := by
    rw [pop_code _ (by omega), show (10 : Nat) = 9 + 1 from rfl, pop_succ, e]
    have e2 : pop 9 (2 ^ 9 * b + s) = pop 9 s := cn_congr _ _ _ fun i hi => by rw [Nat.testBit_two_pow_mul_add _ h9, if_pos hi]
    have e3 : (2 ^ 9 * b + s).testBit 9 = decide (b = 1) := by
      rw [Nat.testBit_two_pow_mul_add _ h9, if_neg (by omega)]
      rcases (by omega : b = 0 ∨ b = 1) with rfl | rfl <;> rfl
    rw [e2, e3]
    rcases (by omega : b = 0 ∨ b = 1) with rfl | rfl <;> simp
  have h2 : pop 40 s = pop 9 s := by
    rw [pop_code _ (by omega), show (10 : Nat) = 9 + 1 from rfl, pop_succ, Nat.testBit_lt_two_pow h9]; simp
  rw [h1, h2]

theorem synC_nat (l : W8) (n : Nat) : synC l n = syn l ^^^ (n % 512) := by unfold synC; rw [Int.toNat_natCast]
theorem oddC_nat (l : W8) (n : Nat) : oddC l n = ((cnt l + pop 40 n) % 2 == 1) := by unfold oddC; rw [Int.toNat_natCast]

theorem encN_syn (l : W8) : synC l (encN l) = 0 := by
  have hs := syn_lt l
  rw [synC_nat, show encN l % 512 = syn l from by unfold encN; omega, Nat.xor_self]
theorem encN_odd (l : W8) : oddC l (encN l) = false := by
  rw [oddC_nat]
  unfold encN
  rw [pop_split _ _ (syn_lt l) (by omega), beq_eq_false_iff_ne]
  omega

theorem xor_zero_eq {a b : Nat} (h : a ^^^ b = 0) : a = b := by
  have : (a ^^^ b) ^^^ b = b := by rw [h, Nat.zero_xor]
  rwa [Nat.xor_assoc, Nat.xor_self, Nat.xor_zero] at this

/-- It is the only code with which the line is clean. -/
theorem encN_only (l : W8) (c : Nat) (hc : c < 1024) (h0 : synC l c = 0) (h1 : oddC l c = false) : c = encN l := by
  have hs := syn_lt l
  rw [synC_nat] at h0
  have hm := xor_zero_eq h0
  rw [oddC_nat] at h1
  have ec : c = syn l + 512 * (c / 512) := by omega
  rw [ec, pop_split _ _ hs (by omega), beq_eq_false_iff_ne] at h1
  unfold encN
  omega

theorem chk_clean (l : W8) (c : Nat) (hv : validB l c = true) : (chk l c).1 = 0 ↔ (synC l c = 0 ∧ oddC l c = false) := by
  unfold chk
  rw [if_pos hv]
  cases ho : oddC l c with
  | false =>
    rw [if_neg (by simp)]
    by_cases h0 : synC l c = 0
    · rw [if_pos h0]; simp [h0]
    · rw [if_neg h0]; simp [h0]
  | true =>
    rw [if_pos rfl]
    by_cases h0 : synC l c = 0
    · rw [if_pos h0]; simp
    · rw [if_neg h0]
      by_cases hp : synC l c &&& (synC l c - 1) = 0
      · rw [if_pos hp]; simp
      · rw [if_neg hp]
        cases findP (synC l c) <;> simp

theorem chk_is_clean (l : W8) (c : Nat) (hv : validB l c = true) (h0 : synC l c = 0) (h1 : oddC l c = false) : chk l c = (0, 0, 0) := by
  unfold chk; rw [if_pos hv, h1, if_neg (by simp), if_pos h0]

theorem chk_enc (l : W8) (hv : validB l (encN l) = true) : chk l (encN l) = (0, 0, 0) := chk_is_clean l _ hv (encN_syn l) (encN_odd l)

theorem valid_enc (l : W8) (hv : validB l 0 = true) : validB l (encN l) = true :=
  validB_yes (validB_iff.1 hv).1 (by omega) (by have := encN_lt l; omega)

theorem clean_iff (l : W8) (c : Nat) (hv : validB l c = true) : (chk l c).1 = 0 ↔ c = encN l := by
  have hc := (validB_iff.1 hv).2
  rw [chk_clean l c hv]
  constructor
  · rintro ⟨h0, h1⟩; exact encN_only l c (by omega) h0 h1
  · rintro rfl; exact ⟨encN_syn l, encN_odd l⟩

theorem fix_clean_is (l : W8) (c : Nat) (hv : validB l c = true) (h : chk l c = (0, 0, 0)) : fix l c = (l, ((c : Nat) : Int), 0) := by
  unfold fix; rw [if_pos hv, h]; rfl
theorem fix_rot_is (l : W8) (c : Nat) (hv : validB l c = true) (h : chk l c = (2, 0, 0)) : fix l c = (zer, 0, 9) := by
  unfold fix; rw [if_pos hv, h]; rfl
theorem fix_one_is (l : W8) (c i : Nat) (hv : validB l c = true) (hi : i < 330) (h : chk l c = (1, wI i, bI i)) : fix l c = (flL l i, ((flC c i : Nat) : Int), 0) := by
  have hc := (validB_iff.1 hv).2
  unfold fix
  rw [if_pos hv, h]
  show (flpL l (wI i) (bI i), flpC c (wI i) (bI i), (0 : Int)) = _
  rw [flC_is c i (by omega) hi]
  rfl

theorem fl_syn (l : W8) (c i : Nat) (hv : validB l c = true) (hi : i < 330) : synC (flL l i) (flC c i) = synC l c ^^^ PP i := by
  rw [synC_bits, synC_bits, xs_congr _ _ _ _ fun j hj => fl_bits l c i hv hi j hj, xs_xor, xs_at, if_pos hi]
theorem fl_odd (l : W8) (c i : Nat) (hv : validB l c = true) (hi : i < 330) : oddC (flL l i) (flC c i) = !oddC l c := by
  have hc := (validB_iff.1 hv).2
  rw [oddC_bits _ _ (flC_lt c i (by omega) hi), oddC_bits _ _ (by omega), cn_congr _ _ _ fun j hj => fl_bits l c i hv hi j hj, cn_xor, cn_at, if_pos hi, Bool.eq_iff_iff]
  simp
  omega

theorem fl_dist (l : W8) (c i : Nat) (hv : validB l c = true) (hi : i < 330) : dist l c (flL l i) (flC c i : Nat) = 1 := by
  rw [dist_bits l _ c _ hv (fl_valid l c i hv hi), cn_congr (fun j => cb l c j != cb (flL l i) (flC c i) j) (fun j => i == j) 330 fun j hj => by
    rw [fl_bits l c i hv hi j hj]; cases cb l c j <;> cases i == j <;> rfl, cn_at, if_pos hi]
  rfl

theorem fl_fl (l : W8) (c i : Nat) (hv : validB l c = true) (hi : i < 330) : flL (flL l i) i = l ∧ flC (flC c i) i = c := by
  have h1 := fl_valid l c i hv hi
  have h2 := fl_valid _ _ i h1 hi
  refine bits_ext _ _ _ _ h2 hv fun j hj => ?_
  rw [fl_bits _ _ i h1 hi j hj, fl_bits l c i hv hi j hj]
  cases cb l c j <;> cases i == j <;> rfl

/-- An odd line whose syndrome is a position: Check names the bit. -/
theorem chk_pos (l : W8) (c i : Nat) (hv : validB l c = true) (ho : oddC l c = true) (hi : i < 330) (hs : synC l c = PP i) : chk l c = (1, wI i, bI i) := by
  by_cases h9 : i = 329
  · subst h9
    rw [PP_last] at hs
    unfold chk
    rw [if_pos hv, ho, if_pos rfl, if_pos hs]
    rfl
  · by_cases h3 : i < 320
    · have ei : PP i = posn i := by unfold PP; rw [if_pos h3]
      have hnp := posn_nopow ⟨i, h3⟩
      have hb := posn_bound ⟨i, h3⟩
      simp only at hnp hb
      have h0 : synC l c ≠ 0 := by rw [hs, ei]; omega
      have := chk_some l c hv ho h0 (fun k hk e => by
        have h2 := (pow_two ⟨k, hk⟩).1
        simp only at h2
        rw [← e, hs, ei] at h2
        exact hnp h2) i h3 (by rw [hs, ei])
      rw [this]
      unfold wI bI
      rw [if_neg (by omega), if_neg (by omega)]
    · have ei : PP i = 2 ^ (i - 320) := by unfold PP; rw [if_neg h3, if_pos (by omega)]
      rw [chk_pow l c hv ho (i - 320) (by omega) (by rw [hs, ei])]
      unfold wI bI
      rw [if_pos (by omega), if_pos (by omega), Int.natCast_sub (by omega)]
      rfl

/-- An odd line whose syndrome is no position is rotten. -/
theorem chk_nopos (l : W8) (c : Nat) (hv : validB l c = true) (ho : oddC l c = true) (hs : ∀ i, i < 330 → synC l c ≠ PP i) : chk l c = (2, 0, 0) := by
  have h0 : synC l c ≠ 0 := by have := hs 329 (by omega); rwa [PP_last] at this
  refine chk_none l c hv ho h0 (fun k hk e => hs (320 + k) (by omega) ?_) (fun i hi e => hs i (by omega) ?_)
  · rw [e]; unfold PP; rw [if_neg (by omega), if_pos (by omega), Nat.add_sub_cancel_left]
  · rw [← e]; unfold PP; rw [if_pos hi]

theorem chk_evenN (l : W8) (c : Nat) (hv : validB l c = true) (ho : oddC l c = false) (h0 : synC l c ≠ 0) : chk l c = (2, 0, 0) := by
  unfold chk; rw [if_pos hv, ho, if_neg (by simp), if_neg h0]

/-- ONE BIT: Check names it, Fix restores. -/
theorem one_bit (l : W8) (i : Nat) (hv : validB l (encN l) = true) (hi : i < 330) :
    dist l (encN l) (flL l i) (flC (encN l) i : Nat) = 1 ∧ chk (flL l i) (flC (encN l) i : Nat) = (1, wI i, bI i) ∧ fix (flL l i) (flC (encN l) i : Nat) = (l, ((encN l : Nat) : Int), 0) := by
  have h1 := fl_valid l _ i hv hi
  have hs : synC (flL l i) (flC (encN l) i) = PP i := by rw [fl_syn l _ i hv hi, encN_syn, Nat.zero_xor]
  have ho : oddC (flL l i) (flC (encN l) i) = true := by rw [fl_odd l _ i hv hi, encN_odd]; rfl
  have hc := chk_pos _ _ i h1 ho hi hs
  refine ⟨fl_dist l _ i hv hi, hc, ?_⟩
  rw [fix_one_is _ _ i h1 hi hc]
  obtain ⟨e1, e2⟩ := fl_fl l _ i hv hi
  rw [e1, e2]

/-- TWO BITS: the line is rotten. -/
theorem two_bits (l : W8) (i j : Nat) (hv : validB l (encN l) = true) (hi : i < 330) (hj : j < 330) (hij : i ≠ j) :
    dist l (encN l) (flL (flL l i) j) (flC (flC (encN l) i) j : Nat) = 2 ∧ chk (flL (flL l i) j) (flC (flC (encN l) i) j : Nat) = (2, 0, 0) ∧ fix (flL (flL l i) j) (flC (flC (encN l) i) j : Nat) = (zer, 0, 9) := by
  have h1 := fl_valid l _ i hv hi
  have h2 := fl_valid _ _ j h1 hj
  have hs : synC (flL (flL l i) j) (flC (flC (encN l) i) j) = PP i ^^^ PP j := by rw [fl_syn _ _ j h1 hj, fl_syn l _ i hv hi, encN_syn, Nat.zero_xor]
  have ho : oddC (flL (flL l i) j) (flC (flC (encN l) i) j) = false := by rw [fl_odd _ _ j h1 hj, fl_odd l _ i hv hi, encN_odd]; rfl
  have h0 : synC (flL (flL l i) j) (flC (flC (encN l) i) j) ≠ 0 := by
    rw [hs]; intro h; exact hij (PP_inj hi hj (xor_zero_eq h))
  have hc := chk_evenN _ _ h2 ho h0
  refine ⟨?_, hc, fix_rot_is _ _ h2 hc⟩
  rw [dist_bits _ _ _ _ hv h2]
  have e : cn (fun k => cb l (encN l) k != cb (flL (flL l i) j) (flC (flC (encN l) i) j) k) 330 = cn (fun k => (i == k) != (j == k)) 330 := cn_congr _ _ _ fun k hk => by
    rw [fl_bits _ _ j h1 hj k hk, fl_bits l _ i hv hi k hk]
    cases cb l (encN l) k <;> cases i == k <;> cases j == k <;> rfl
  rw [e]
  have ht : (fun k => (i == k) != (j == k)) i = true := by
    have : (j == i) = false := by rw [beq_eq_false_iff_ne]; exact fun h => hij h.symm
    simp [this]
  have ht2 : cn (fun k => (i == k) != (j == k)) 330 = (if i < 330 then 1 else 0) + cn (fun k => j == k) 330 := cn_take _ _ i ht (fun k => by
    by_cases h : i = k
    · subst h
      have : (j == i) = false := by rw [beq_eq_false_iff_ne]; exact fun h => hij h.symm
      simp [this]
    · have h1 : (i == k) = false := by rw [beq_eq_false_iff_ne]; exact h
      have h2 : (k != i) = true := by rw [bne_iff_ne]; exact fun e => h e.symm
      rw [h1, h2]; cases j == k <;> rfl) 330
  rw [ht2, cn_at, if_pos hi, if_pos hj]
  rfl

theorem cn_some (f : Nat → Bool) (n : Nat) (h : 0 < cn f n) : ∃ i, i < n ∧ f i = true := by
  induction n with
  | zero => simp [cn] at h
  | succ n ih =>
    cases hf : f n with
    | true => exact ⟨n, by omega, hf⟩
    | false =>
      rw [cn_succ, hf] at h
      obtain ⟨i, hi, hfi⟩ := ih (by simpa using h)
      exact ⟨i, by omega, hfi⟩

theorem cn_zero_all (f : Nat → Bool) (n : Nat) (h : cn f n = 0) (i : Nat) (hi : i < n) : f i = false := by
  cases hf : f i with
  | false => rfl
  | true =>
    have := cn_take f (fun k => f k && k != i) i hf (fun _ => rfl) n
    rw [if_pos hi] at this
    omega

/-- No word of the code has two ones. -/
theorem no_two (f : Nat → Bool) (h0 : xs f PP 330 = 0) : cn f 330 ≠ 2 := by
  intro h2
  obtain ⟨i, hi, hfi⟩ := cn_some f 330 (by omega)
  have c1 := cn_take f (fun k => f k && k != i) i hfi (fun _ => rfl) 330
  have x1 := xs_take f (fun k => f k && k != i) PP i hfi (fun _ => rfl) 330
  rw [if_pos hi] at c1 x1
  obtain ⟨j, hj, hfj⟩ := cn_some (fun k => f k && k != i) 330 (by omega)
  have c2 := cn_take (fun k => f k && k != i) (fun k => (f k && k != i) && k != j) j hfj (fun _ => rfl) 330
  have x2 := xs_take (fun k => f k && k != i) (fun k => (f k && k != i) && k != j) PP j hfj (fun _ => rfl) 330
  rw [if_pos hj] at c2 x2
  have hz := xs_none (fun k => (f k && k != i) && k != j) PP 330 (cn_zero_all _ _ (by omega))
  rw [hz, Nat.xor_zero] at x2
  rw [x2, h0] at x1
  have e := PP_inj hi hj (xor_zero_eq x1.symm)
  subst e
  simp at hfj

/-- THE DISTANCE IS FOUR. -/
theorem far (l m : W8) (hv : validB l (encN l) = true) (hv2 : validB m (encN m) = true) :
    4 ≤ dist l (encN l) m (encN m) ∨ dist l (encN l) m (encN m) = 0 ∧ l = m := by
  rw [dist_bits _ _ _ _ hv hv2]
  have hx : xs (fun i => cb l (encN l) i != cb m (encN m) i) PP 330 = 0 := by
    rw [xs_xor, ← synC_bits, ← synC_bits, encN_syn, encN_syn]; rfl
  have hp : cn (fun i => cb l (encN l) i != cb m (encN m) i) 330 % 2 = 0 := by
    have h1 := encN_odd l
    have h2 := encN_odd m
    rw [oddC_bits _ _ (encN_lt _), beq_eq_false_iff_ne] at h1 h2
    rw [cn_xor]; omega
  have h2 := no_two _ hx
  by_cases h : cn (fun i => cb l (encN l) i != cb m (encN m) i) 330 = 0
  · right
    refine ⟨by rw [h]; rfl, (bits_ext l m _ _ hv hv2 fun i hi => ?_).1⟩
    have := cn_zero_all _ _ h i hi
    simpa using this
  · left; omega

/-- The exclusive or of two lines, word by word. -/
def xorW (l m : W8) : W8 := ⟨bits .xor .i64 l.a0 m.a0, bits .xor .i64 l.a1 m.a1, bits .xor .i64 l.a2 m.a2, bits .xor .i64 l.a3 m.a3, bits .xor .i64 l.a4 m.a4, bits .xor .i64 l.a5 m.a5, bits .xor .i64 l.a6 m.a6, bits .xor .i64 l.a7 m.a7⟩
theorem xorW_get (l m : W8) (k : Nat) (hk : k < 8) : (xorW l m).get k = bits .xor .i64 (l.get k) (m.get k) := by
  rcases lt8 hk with rfl | rfl | rfl | rfl | rfl | rfl | rfl | rfl <;> rfl

theorem xorW_wd (l m : W8) (c d : Nat) (hv : validB l c = true) (hv2 : validB m d = true) (k : Nat) (hk : k < 8) : (xorW l m).get k = ((wd l k ^^^ wd m k : Nat) : Int) ∧ wd l k ^^^ wd m k < 1099511627776 := by
  obtain ⟨h1, e1⟩ := wd_lt hv k hk
  obtain ⟨h2, e2⟩ := wd_lt hv2 k hk
  rw [xorW_get l m k hk, ← e1, ← e2]
  exact ⟨xor_i64 _ _ (by omega) (by omega), Nat.xor_lt_two_pow (n := 40) h1 h2⟩

theorem xorW_valid (l m : W8) (c d : Nat) (hv : validB l c = true) (hv2 : validB m d = true) : validB (xorW l m) 0 = true :=
  validB_yes (fun k hk => by obtain ⟨h1, h2⟩ := xorW_wd l m c d hv hv2 k hk; rw [h1]; omega) (by omega) (by omega)

theorem xorW_lb (l m : W8) (c d : Nat) (hv : validB l c = true) (hv2 : validB m d = true) (i : Nat) (hi : i < 320) : lb (xorW l m) i = (lb l i != lb m i) := by
  obtain ⟨h1, _⟩ := xorW_wd l m c d hv hv2 (i / 40) (by omega)
  show ((xorW l m).get (i / 40)).toNat.testBit (i % 40) = _
  rw [h1, Int.toNat_natCast, Nat.testBit_xor]
  rfl

/-- The code of the exclusive or is the exclusive or of the codes. -/
theorem enc_xor (l m : W8) (hv : validB l (encN l) = true) (hv2 : validB m (encN m) = true) : encN (xorW l m) = encN l ^^^ encN m := by
  have hx : ∀ i, i < 330 → cb (xorW l m) (encN l ^^^ encN m) i = (cb l (encN l) i != cb m (encN m) i) := fun i hi => by
    unfold cb
    by_cases h : i < 320
    · rw [if_pos h, if_pos h, if_pos h, xorW_lb l m _ _ hv hv2 i h]
    · rw [if_neg h, if_neg h, if_neg h, Nat.testBit_xor]
  have hlt : encN l ^^^ encN m < 1024 := Nat.xor_lt_two_pow (n := 10) (encN_lt l) (encN_lt m)
  refine (encN_only _ _ hlt ?_ ?_).symm
  · rw [synC_bits, xs_congr _ _ _ _ hx, xs_xor, ← synC_bits, ← synC_bits, encN_syn, encN_syn]; rfl
  · have h1 := encN_odd l
    have h2 := encN_odd m
    rw [oddC_bits _ _ (encN_lt _), beq_eq_false_iff_ne] at h1 h2
    rw [oddC_bits _ _ hlt, cn_congr _ _ _ hx, beq_eq_false_iff_ne, cn_xor]
    omega

/-- What Fix returns is the nearest. -/
theorem nearest (l : W8) (c : Nat) (hv : validB l c = true) :
    (∃ (m : W8) (d : Nat), fix l c = (m, ((d : Nat) : Int), 0) ∧ validB m d = true ∧ chk m d = (0, 0, 0) ∧ (dist l c m d = 0 ∨ dist l c m d = 1)) ∨
    (fix l c = (zer, 0, 9) ∧ encN l ≠ c ∧ ∀ k, k < 330 → encN (flL l k) ≠ flC c k) := by
  have hc := (validB_iff.1 hv).2
  have rot : chk l c = (2, 0, 0) → (∀ k, k < 330 → ¬ (synC l c = PP k ∧ oddC l c = true)) → (synC l c ≠ 0 ∨ oddC l c = true) →
      (fix l c = (zer, 0, 9) ∧ encN l ≠ c ∧ ∀ k, k < 330 → encN (flL l k) ≠ flC c k) := fun h hk h0 => by
    refine ⟨fix_rot_is l c hv h, fun e => ?_, fun k hk330 e => ?_⟩
    · have := (clean_iff l c hv).2 e.symm
      rw [h] at this; cases this
    · have h1 := fl_valid l c k hv hk330
      have h2 := (chk_clean _ _ h1).1 ((clean_iff _ _ h1).2 e.symm)
      rw [fl_syn l c k hv hk330, fl_odd l c k hv hk330] at h2
      exact hk k hk330 ⟨xor_zero_eq h2.1, by simpa using h2.2⟩
  cases ho : oddC l c with
  | false =>
    by_cases h0 : synC l c = 0
    · left
      have h := chk_is_clean l c hv h0 ho
      refine ⟨l, c, fix_clean_is l c hv h, hv, h, .inl ?_⟩
      rw [dist_bits _ _ _ _ hv hv, cn_none _ _ fun i _ => by simp]; rfl
    · right
      exact rot (chk_evenN l c hv ho h0) (fun k _ h => by rw [ho] at h; exact absurd h.2 (by simp)) (.inl h0)
  | true =>
    by_cases hs : ∃ i, i < 330 ∧ synC l c = PP i
    · obtain ⟨i, hi, hs⟩ := hs
      left
      have h := chk_pos l c i hv ho hi hs
      have h1 := fl_valid l c i hv hi
      refine ⟨flL l i, flC c i, fix_one_is l c i hv hi h, h1, ?_, .inr (fl_dist l c i hv hi)⟩
      exact chk_is_clean _ _ h1 (by rw [fl_syn l c i hv hi, hs, Nat.xor_self]) (by rw [fl_odd l c i hv hi, ho]; rfl)
    · right
      have hn : ∀ i, i < 330 → synC l c ≠ PP i := fun i hi e => hs ⟨i, hi, e⟩
      exact rot (chk_nopos l c hv ho hn) (fun k hk h => hn k hk h.1) (.inr ho)

end Go.Proofs.YtmhllnnchhcamaaDoor
