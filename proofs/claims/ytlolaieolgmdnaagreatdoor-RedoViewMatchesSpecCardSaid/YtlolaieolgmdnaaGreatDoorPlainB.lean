/-
  Numbers alone, no program: lines of eight words, the positions of their bits, syndromes, and what the functions of layer 3 answer.
-/
import Derived.Lib.BitFns
import Derived.Lib.TrailingZeros
import Derived.Test.YtlolaieolgmdnaaGreatDoorPlainA
namespace Go.Proofs.YtlolaieolgmdnaaGreatDoor

/-- A line: eight words. -/
structure W8 where
  a0 : Int
  a1 : Int
  a2 : Int
  a3 : Int
  a4 : Int
  a5 : Int
  a6 : Int
  a7 : Int

def W8.get (l : W8) : Nat → Int
  | 0 => l.a0
  | 1 => l.a1
  | 2 => l.a2
  | 3 => l.a3
  | 4 => l.a4
  | 5 => l.a5
  | 6 => l.a6
  | 7 => l.a7
  | _ => 0

def W8.set (l : W8) (k : Nat) (v : Int) : W8 :=
  ⟨if k = 0 then v else l.a0, if k = 1 then v else l.a1, if k = 2 then v else l.a2, if k = 3 then v else l.a3,
    if k = 4 then v else l.a4, if k = 5 then v else l.a5, if k = 6 then v else l.a6, if k = 7 then v else l.a7⟩

theorem lt8 {k : Nat} (h : k < 8) : k = 0 ∨ k = 1 ∨ k = 2 ∨ k = 3 ∨ k = 4 ∨ k = 5 ∨ k = 6 ∨ k = 7 := by omega

theorem W8.get_set (l : W8) (k j : Nat) (v : Int) (hk : k < 8) : (l.set k v).get j = if j = k then v else l.get j := by
  rcases lt8 hk with rfl | rfl | rfl | rfl | rfl | rfl | rfl | rfl <;>
    (match j with
      | 0 | 1 | 2 | 3 | 4 | 5 | 6 | 7 => rfl
      | j + 8 => rw [if_neg (by omega)]; rfl)

theorem W8.ext_get {l m : W8} (h : ∀ k, k < 8 → l.get k = m.get k) : l = m := by
  cases l; cases m
  have h0 := h 0 (by omega); have h1 := h 1 (by omega); have h2 := h 2 (by omega); have h3 := h 3 (by omega)
  have h4 := h 4 (by omega); have h5 := h 5 (by omega); have h6 := h 6 (by omega); have h7 := h 7 (by omega)
  simp only [W8.get] at h0 h1 h2 h3 h4 h5 h6 h7
  subst h0 h1 h2 h3 h4 h5 h6 h7
  rfl

/-- A word. -/
def okW (x : Int) : Bool := decide (0 ≤ x ∧ x ≤ 1099511627775)
/-- A valid line with a code. -/
def validB (l : W8) (c : Int) : Bool := (List.range 8).all (fun k => okW (l.get k)) && decide (0 ≤ c ∧ c ≤ 1023)

theorem okW_iff {x : Int} : okW x = true ↔ 0 ≤ x ∧ x ≤ 1099511627775 := by unfold okW; simp
theorem validB_iff {l : W8} {c : Int} : validB l c = true ↔ (∀ k, k < 8 → 0 ≤ l.get k ∧ l.get k ≤ 1099511627775) ∧ 0 ≤ c ∧ c ≤ 1023 := by
  unfold validB
  rw [Bool.and_eq_true, List.all_eq_true, decide_eq_true_iff]
  constructor
  · rintro ⟨h1, h2⟩
    exact ⟨fun k hk => okW_iff.1 (h1 k (List.mem_range.2 hk)), h2⟩
  · rintro ⟨h1, h2⟩
    exact ⟨fun k hk => okW_iff.2 (h1 k (List.mem_range.1 hk)), h2⟩
theorem validB_no {l : W8} {k : Nat} (hk : k < 8) (h : l.get k < 0 ∨ 1099511627775 < l.get k) (c : Int) : validB l c = false := by
  rw [← Bool.not_eq_true, validB_iff]
  intro hv; have := hv.1 k hk; omega
theorem validB_code {l : W8} {c : Int} (h : c < 0 ∨ 1023 < c) : validB l c = false := by
  rw [← Bool.not_eq_true, validB_iff]
  intro hv; omega
theorem validB_yes {l : W8} {c : Int} (h : ∀ k, k < 8 → 0 ≤ l.get k ∧ l.get k ≤ 1099511627775) (h0 : 0 ≤ c) (h1 : c ≤ 1023) : validB l c = true := validB_iff.2 ⟨h, h0, h1⟩

/-- There is a bit. -/
def exB (a b : Int) : Bool := decide (0 ≤ a ∧ a < 8 ∧ 0 ≤ b ∧ b < 40 ∨ a = 8 ∧ 0 ≤ b ∧ b < 10)

/-- The position of data bit i (below 320). -/
def posn (i : Nat) : Nat :=
  let n := i + 1 + Lib.bitLen (i + 1)
  if Lib.bitLen n > Lib.bitLen (i + 1) then n + 1 else n

theorem posn_bound : ∀ i : Fin 320, 3 ≤ posn i.val ∧ posn i.val ≤ 329 ∧ posn i.val ≤ i.val + 10 ∧ i.val + 3 ≤ posn i.val := by decide +kernel
theorem posn_step : ∀ i : Fin 319, posn i.val < posn (i.val + 1) := by decide +kernel
theorem posn_nopow : ∀ i : Fin 320, (posn i.val &&& (posn i.val - 1)) ≠ 0 := by decide +kernel

theorem posn_mono {i j : Nat} (h : i < j) (hj : j < 320) : posn i < posn j := by
  induction j with
  | zero => omega
  | succ j ih =>
    have hs := posn_step ⟨j, by omega⟩
    simp only at hs
    rcases (by omega : i = j ∨ i < j) with rfl | h'
    · exact hs
    · have := ih h' (by omega); omega

theorem posn_inj {i j : Nat} (hi : i < 320) (hj : j < 320) (h : posn i = posn j) : i = j := by
  rcases (by omega : i < j ∨ i = j ∨ j < i) with h' | h' | h'
  · have := posn_mono h' hj; omega
  · exact h'
  · have := posn_mono h' hi; omega

/-- Position, of any two numbers. -/
def posB (a b : Int) : Int :=
  if exB a b then (if a = 8 then (if b = 9 then 0 else 2 ^ b.toNat) else (posn (40 * a + b).toNat : Nat)) else 0

/-- Word k of a line, as a natural number. -/
def wd (l : W8) (k : Nat) : Nat := (l.get k).toNat
/-- Data bit i of a line. -/
def lb (l : W8) (i : Nat) : Bool := (wd l (i / 40)).testBit (i % 40)
/-- The syndrome of the data bits. -/
def syn (l : W8) : Nat := xs (lb l) posn 320
/-- How many data bits are 1. -/
def cnt (l : W8) : Nat := cn (lb l) 320

def enc (l : W8) : Int := if validB l 0 then ((syn l + 512 * ((cnt l + pop 40 (syn l)) % 2) : Nat) : Int) else -1

/-- The data bit at a position. -/
def findP (s : Nat) : Option Nat := (List.range 320).find? fun i => posn i == s

/-- The syndrome of a line with a code. -/
def synC (l : W8) (c : Int) : Nat := syn l ^^^ (c.toNat % 512)
/-- Whether the number of ones is odd. -/
def oddC (l : W8) (c : Int) : Bool := (cnt l + pop 40 c.toNat) % 2 == 1

/-- What Check answers: state, word, bit. -/
def chk (l : W8) (c : Int) : Int × Int × Int :=
  if validB l c then
    (if oddC l c then
      (if synC l c = 0 then (1, 8, 9)
       else if synC l c &&& (synC l c - 1) = 0 then (1, 8, (Lib.ctz 64 (synC l c) : Nat))
       else match findP (synC l c) with
         | some i => (1, ((i / 40 : Nat) : Int), ((i % 40 : Nat) : Int))
         | none => (2, 0, 0))
     else (if synC l c = 0 then (0, 0, 0) else (2, 0, 0)))
  else (2, 0, 0)

theorem findP_some {s i : Nat} (hi : i < 320) (h : posn i = s) : findP s = some i := by
  unfold findP
  rw [List.find?_eq_some_iff_append]
  refine ⟨by simp [h], List.range i, (List.range' (i + 1) (320 - i - 1)), ?_, ?_⟩
  · rw [List.range_eq_range', List.range_eq_range', show List.range' 0 320 = List.range' 0 (i + (320 - i)) from by rw [show i + (320 - i) = 320 from by omega]]
    rw [← List.range'_append_1]
    congr 1
    rw [show 320 - i = (320 - i - 1) + 1 from by omega, List.range'_succ]
    simp
  · intro a ha
    rw [List.mem_range] at ha
    have := posn_mono ha hi
    simp; omega

theorem findP_none {s : Nat} (h : ∀ i, i < 320 → posn i ≠ s) : findP s = none := by
  unfold findP
  rw [List.find?_eq_none]
  intro i hi
  rw [List.mem_range] at hi
  simpa using h i hi

end Go.Proofs.YtlolaieolgmdnaaGreatDoor
