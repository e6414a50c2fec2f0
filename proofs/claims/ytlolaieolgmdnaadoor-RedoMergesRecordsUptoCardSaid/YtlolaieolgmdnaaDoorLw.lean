/-
  The operations' laws: what each yields, as the shallow reading wants it.
-/
import Derived.Test.YtlolaieolgmdnaaDoorSL
import Derived.Laws.MakeOwn
namespace Go.Proofs.YtlolaieolgmdnaaDoor
open Go.RowKit
set_option linter.unusedVariables false
set_option linter.unusedSimpArgs false

/-! ### What is known of types -/

def fieldO (P : Program) (s i : Nat) : Option Nat :=
  match P.underlying s with
  | some (.struct fs) =>
    match fs[i]? with
    | some f =>
      match P.info? f.type with
      | some inf => if inf.size = 0 then none else some f.offset
      | none => none
    | none => none
  | _ => none

class FieldO (P : Program) (s i : Nat) (off : outParam Nat) : Prop where
  is : fieldO P s i = some off

/-- A type's cells: 'none': one cell; 'some n': an aggregate of n. -/
def cellsT (P : Program) (t : Nat) : Option (Option Nat) :=
  match P.underlying t, P.info? t with
  | some (.struct _), some inf => some (some inf.size)
  | some (.array _ _), some inf => some (some inf.size)
  | some _, some inf => if inf.size = 1 then some none else none
  | _, _ => none

class Sca (P : Program) (t : Nat) : Prop where
  is : cellsT P t = some none
class Agg (P : Program) (t : Nat) (n : outParam Nat) : Prop where
  is : cellsT P t = some (some n)

def zeroT (P : Program) (t : Nat) : Option (List Value) :=
  match P.info? t with
  | some inf => inf.zero.map fun v => v.cells.toList
  | none => none
class Zero (P : Program) (t : Nat) (z : outParam (List Value)) : Prop where
  is : zeroT P t = some z

def sliceT (P : Program) (t : Nat) : Option (Nat × Nat × Nat × List Value) :=
  match P.underlying t with
  | some (.slice e) =>
    match P.info? e with
    | some inf => inf.zero.map fun v => (e, inf.size, inf.bytes, v.cells.toList)
    | none => none
  | _ => none
/-- A slice type: its element's type, size in cells, size in bytes. -/
class Slc (P : Program) (t : Nat) (e n b : outParam Nat) : Prop where
  is : ∃ z, sliceT P t = some (e, n, b, z) ∧ z.length = n

def arrayT (P : Program) (t : Nat) : Option (Nat × Nat × Nat) :=
  match P.underlying t with
  | some (.array len e) => (P.info? e).map fun inf => (len, e, inf.size)
  | _ => none
class Arr (P : Program) (t : Nat) (len e n : outParam Nat) : Prop where
  is : arrayT P t = some (len, e, n)

/-! ### What only reckons -/

section
variable {P : Program} {K : Value → Prop} {w : World}

theorem pu_nil {a : Addr} (h : K (.pointer (some a))) : Pu P (nilC (.pointer (some a))) K := ⟨_, fun _ => rfl, h⟩

theorem fieldO_spec {s i off : Nat} (h : fieldO P s i = some off) : ∃ fs f inf, P.underlying s = some (.struct fs) ∧ fs[i]? = some f ∧ P.info? f.type = some inf ∧ inf.size ≠ 0 ∧ f.offset = off := by
  unfold fieldO at h
  split at h
  · rename_i fs hu
    split at h
    · rename_i f hf
      split at h
      · rename_i inf hi
        split at h
        · cases h
        · rename_i hn
          cases h
          exact ⟨fs, f, inf, hu, hf, hi, hn, rfl⟩
      · cases h
    · cases h
  · cases h

theorem add_none (b o n : Nat) : (⟨b, o, none⟩ : Addr).add n = ⟨b, o + n, none⟩ := by unfold Addr.add; split <;> simp_all

theorem pu_field {s i off b o : Nat} [hf : FieldO P s i off] (h : K (.pointer (some ⟨b, o + off, none⟩))) : Pu P (Instr.fieldAt s (.pointer (some ⟨b, o, none⟩)) i) K := by
  refine ⟨_, fun w => ?_, h⟩
  obtain ⟨fs, f, inf, hu, hfi, hi, hn, rfl⟩ := fieldO_spec hf.is
  simp [Instr.fieldAt, run_underlying hu, hfi, Instr.sureAddr, fieldPlace, sizeOf, typeInfo, hi, hn, add_none]

theorem pu_fieldZ {s i b o : Nat} [hf : FieldO P s i 0] (h : K (.pointer (some ⟨b, o, none⟩))) : Pu P (Instr.fieldAt s (.pointer (some ⟨b, o, none⟩)) i) K := pu_field (off := 0) (by rw [Nat.add_zero]; exact h)
theorem pu_field0 {s i off b : Nat} [hf : FieldO P s i off] (h : K (.pointer (some ⟨b, off, none⟩))) : Pu P (Instr.fieldAt s (.pointer (some ⟨b, 0, none⟩)) i) K := pu_field (by rw [Nat.zero_add]; exact h)

theorem pu_ext {vs : Array Value} {i : Nat} {v : Value} (hv : vs[i]? = some v) (h : K v) : Pu P (Instr.extract (.tuple vs) i) K := ⟨v, fun w => by simp [Instr.extract, hv], h⟩
theorem pu_ext0 {v : Value} {l : List Value} (h : K v) : Pu P (Instr.extract (.tuple (v :: l).toArray) 0) K := pu_ext (by simp) h
theorem pu_ext1 {u v : Value} {l : List Value} (h : K v) : Pu P (Instr.extract (.tuple (u :: v :: l).toArray) 1) K := pu_ext (by simp) h
theorem pu_ext2 {t u v : Value} {l : List Value} (h : K v) : Pu P (Instr.extract (.tuple (t :: u :: v :: l).toArray) 2) K := pu_ext (by simp) h

theorem pu_fn {fn : Fn} {a b : Array Value} (h : K (.func fn a b)) : Pu P (Instr.makeFunc fn a b) K := ⟨_, fun _ => rfl, h⟩

theorem pu_not {b : Bool} (h : K (.bool (!b))) : Pu P (Op.unary .not (.bool b)) K := ⟨_, fun _ => rfl, h⟩

theorem pu_pickT {a b : Value} (h : K a) : pickK P (.bool true) a b K := h
theorem pu_pickF {a b : Value} (h : K b) : pickK P (.bool false) a b K := h

theorem eqGuard_int (op : BinOp) (t : TypeId) (x y : Operand) (k k' : IntKind) (a b : Int) (w : World) : (eqGuard op t x y (.int k a) (.int k' b)).run P w = .ok () w := by
  unfold eqGuard
  split <;> rfl

theorem pu_lss {t : TypeId} {x y : Operand} {k : IntKind} {a b : Int} (h : K (.bool (decide (a < b)))) : Pu P (bopS .lss t x y (.int k a) (.int k b)) K :=
  ⟨_, fun w => by unfold bopS; rw [Sem.run_bind, eqGuard_int]; simp [binOp, Op.intCmp], h⟩
theorem pu_leq {t : TypeId} {x y : Operand} {k : IntKind} {a b : Int} (h : K (.bool (decide (a ≤ b)))) : Pu P (bopS .leq t x y (.int k a) (.int k b)) K :=
  ⟨_, fun w => by unfold bopS; rw [Sem.run_bind, eqGuard_int]; simp [binOp, Op.intCmp], h⟩
theorem pu_gtr {t : TypeId} {x y : Operand} {k : IntKind} {a b : Int} (h : K (.bool (decide (b < a)))) : Pu P (bopS .gtr t x y (.int k a) (.int k b)) K :=
  ⟨_, fun w => by unfold bopS; rw [Sem.run_bind, eqGuard_int]; simp [binOp, Op.intCmp], h⟩
theorem pu_geq {t : TypeId} {x y : Operand} {k : IntKind} {a b : Int} (h : K (.bool (decide (b ≤ a)))) : Pu P (bopS .geq t x y (.int k a) (.int k b)) K :=
  ⟨_, fun w => by unfold bopS; rw [Sem.run_bind, eqGuard_int]; simp [binOp, Op.intCmp], h⟩
theorem pu_eql {t : TypeId} {x y : Operand} {k : IntKind} {a b : Int} (h : K (.bool (decide (a = b)))) : Pu P (bopS .eql t x y (.int k a) (.int k b)) K :=
  ⟨_, fun w => by unfold bopS; rw [Sem.run_bind, eqGuard_int]; simp only [Result.andThen_ok, binOp, ne_eq, not_true_eq_false, if_false, Op.intCmp, Sem.run_pure]; congr 2, h⟩
theorem pu_neq {t : TypeId} {x y : Operand} {k : IntKind} {a b : Int} (h : K (.bool (!decide (a = b)))) : Pu P (bopS .neq t x y (.int k a) (.int k b)) K :=
  ⟨_, fun w => by unfold bopS; rw [Sem.run_bind, eqGuard_int]; simp only [Result.andThen_ok, binOp, ne_eq, not_true_eq_false, if_false, Op.intCmp, Sem.run_pure]; congr 2, h⟩

/-- A number that an int bears. -/
def i64 (n : Int) : Prop := -9223372036854775808 ≤ n ∧ n ≤ 9223372036854775807

theorem wrap_i64 {n : Int} (h : i64 n) : IntKind.i64.wrap n = n := by
  obtain ⟨h1, h2⟩ := h
  exact IntWalk.i64_in n (by omega)

theorem pu_add {t : TypeId} {x y : Operand} {a b : Int} (hr : i64 (a + b)) (h : K (.int .i64 (a + b))) : Pu P (bopS .add t x y (.int .i64 a) (.int .i64 b)) K :=
  ⟨_, fun w => by unfold bopS; rw [Sem.run_bind, eqGuard_int]; simp only [Result.andThen_ok, binOp, ne_eq, not_true_eq_false, if_false, Op.intArith, wrap_i64 hr, Sem.run_pure], h⟩
theorem pu_sub {t : TypeId} {x y : Operand} {a b : Int} (hr : i64 (a - b)) (h : K (.int .i64 (a - b))) : Pu P (bopS .sub t x y (.int .i64 a) (.int .i64 b)) K :=
  ⟨_, fun w => by unfold bopS; rw [Sem.run_bind, eqGuard_int]; simp only [Result.andThen_ok, binOp, ne_eq, not_true_eq_false, if_false, Op.intArith, wrap_i64 hr, Sem.run_pure], h⟩
theorem pu_mul {t : TypeId} {x y : Operand} {a b : Int} (hr : i64 (a * b)) (h : K (.int .i64 (a * b))) : Pu P (bopS .mul t x y (.int .i64 a) (.int .i64 b)) K :=
  ⟨_, fun w => by unfold bopS; rw [Sem.run_bind, eqGuard_int]; simp only [Result.andThen_ok, binOp, ne_eq, not_true_eq_false, if_false, Op.intArith, wrap_i64 hr, Sem.run_pure], h⟩
/-- x + 1, the next index. -/
theorem pu_succ {t : TypeId} {x y : Operand} {k : Nat} (hr : k < 9223372036854775807) (h : K (.int .i64 ((k + 1 : Nat) : Int))) : Pu P (bopS .add t x y (.int .i64 (k : Int)) (.int .i64 1)) K :=
  pu_add ⟨by omega, by omega⟩ (by simpa using h)
theorem pu_quo {t : TypeId} {x y : Operand} {a b : Int} (hb : b ≠ 0) (hr : i64 (a.tdiv b)) (h : K (.int .i64 (a.tdiv b))) : Pu P (bopS .quo t x y (.int .i64 a) (.int .i64 b)) K :=
  ⟨_, fun w => by unfold bopS; rw [Sem.run_bind, eqGuard_int]; simp only [Result.andThen_ok, binOp, ne_eq, not_true_eq_false, if_false, Op.intDiv, hb, wrap_i64 hr, Sem.run_pure], h⟩
theorem tdiv_i64 {a : Int} (ha : i64 a) : i64 (a.tdiv 8) := by
  obtain ⟨h1, h2⟩ := ha
  rcases Int.le_total 0 a with h | h
  · rw [Int.tdiv_eq_ediv_of_nonneg h]; exact ⟨by omega, by omega⟩
  · obtain ⟨b, rfl⟩ : ∃ b, a = -b := ⟨-a, by omega⟩
    rw [Int.neg_tdiv, Int.tdiv_eq_ediv_of_nonneg (by omega)]; exact ⟨by omega, by omega⟩
theorem pu_rem {t : TypeId} {x y : Operand} {k : IntKind} {a b : Int} (hb : b ≠ 0) (h : K (.int k (a.tmod b))) : Pu P (bopS .rem t x y (.int k a) (.int k b)) K :=
  ⟨_, fun w => by unfold bopS; rw [Sem.run_bind, eqGuard_int]; simp only [Result.andThen_ok, binOp, ne_eq, not_true_eq_false, if_false, Op.intDiv, hb, Sem.run_pure], h⟩

theorem pu_max {at' : Array TypeId} {t : TypeId} {a b : Int} (h : K (.int .i64 (max a b))) : Pu P (Builtin.max_ at' t #[.int .i64 a, .int .i64 b]) K := by
  refine ⟨_, fun w => ?_, h⟩
  simp only [Builtin.max_, List.foldlM, Builtin.max2]
  rw [Sem.run_bind]
  simp only [Sem.run_pure, Result.andThen_ok]
  congr 2
  by_cases hb : b > a
  · rw [if_pos hb]; omega
  · rw [if_neg hb]; omega
theorem pu_min {at' : Array TypeId} {t : TypeId} {a b : Int} (h : K (.int .i64 (min a b))) : Pu P (Builtin.min_ at' t #[.int .i64 a, .int .i64 b]) K := by
  refine ⟨_, fun w => ?_, h⟩
  simp only [Builtin.min_, List.foldlM, Builtin.min2]
  rw [Sem.run_bind]
  simp only [Sem.run_pure, Result.andThen_ok]
  congr 2
  by_cases hb : b < a
  · rw [if_pos hb]; omega
  · rw [if_neg hb]; omega

/-- What only reckons, found by its form. -/
class Stp (P : Program) (m : Sem Value) (v : outParam Value) : Prop where
  is : ∀ w, m.run P w = .ok v w
class Stb (P : Program) (m : Sem Value) (v : outParam Value) : Prop where
  is : ∀ w, m.run P w = .ok v w
theorem pu_st {m : Sem Value} {v : Value} [h : Stp P m v] (hk : K v) : Pu P m K := ⟨v, h.is, hk⟩
theorem bn_st {K : Value → World → Prop} {m : Sem Value} {v : Value} [h : Stb P m v] (hk : K v w) : Bn P m w K := ⟨v, w, h.is w, hk⟩
theorem Stp.of {m : Sem Value} {v : Value} (h : Pu P m (· = v)) : Stp P m v := ⟨by obtain ⟨v', hr, rfl⟩ := h; exact hr⟩

instance {a : Addr} : Stp P (nilC (.pointer (some a))) (.pointer (some a)) := .of (pu_nil rfl)
instance {s i off b o : Nat} [FieldO P s i off] : Stp P (Instr.fieldAt s (.pointer (some ⟨b, o, none⟩)) i) (.pointer (some ⟨b, o + off, none⟩)) := .of (pu_field rfl)
instance (priority := 1500) {s i off b : Nat} [FieldO P s i off] : Stp P (Instr.fieldAt s (.pointer (some ⟨b, 0, none⟩)) i) (.pointer (some ⟨b, off, none⟩)) := .of (pu_field0 rfl)
instance (priority := 2000) {s i b o : Nat} [FieldO P s i 0] : Stp P (Instr.fieldAt s (.pointer (some ⟨b, o, none⟩)) i) (.pointer (some ⟨b, o, none⟩)) := .of (pu_fieldZ rfl)
instance {v : Value} {l : List Value} : Stp P (Instr.extract (.tuple (v :: l).toArray) 0) v := .of (pu_ext0 rfl)
instance {u v : Value} {l : List Value} : Stp P (Instr.extract (.tuple (u :: v :: l).toArray) 1) v := .of (pu_ext1 rfl)
instance {t u v : Value} {l : List Value} : Stp P (Instr.extract (.tuple (t :: u :: v :: l).toArray) 2) v := .of (pu_ext2 rfl)
instance {b : Bool} : Stp P (Op.unary .not (.bool b)) (.bool (!b)) := .of (pu_not rfl)
instance {t : TypeId} {x y : Operand} {k : IntKind} {a b : Int} : Stp P (bopS .lss t x y (.int k a) (.int k b)) (.bool (decide (a < b))) := .of (pu_lss rfl)
instance {t : TypeId} {x y : Operand} {k : IntKind} {a b : Int} : Stp P (bopS .leq t x y (.int k a) (.int k b)) (.bool (decide (a ≤ b))) := .of (pu_leq rfl)
instance {t : TypeId} {x y : Operand} {k : IntKind} {a b : Int} : Stp P (bopS .gtr t x y (.int k a) (.int k b)) (.bool (decide (b < a))) := .of (pu_gtr rfl)
instance {t : TypeId} {x y : Operand} {k : IntKind} {a b : Int} : Stp P (bopS .geq t x y (.int k a) (.int k b)) (.bool (decide (b ≤ a))) := .of (pu_geq rfl)
instance {t : TypeId} {x y : Operand} {k : IntKind} {a b : Int} : Stp P (bopS .eql t x y (.int k a) (.int k b)) (.bool (decide (a = b))) := .of (pu_eql rfl)
instance {t : TypeId} {x y : Operand} {k : IntKind} {a b : Int} : Stp P (bopS .neq t x y (.int k a) (.int k b)) (.bool (!decide (a = b))) := .of (pu_neq rfl)
instance {at' : Array TypeId} {t : TypeId} {a b : Int} : Stp P (Builtin.max_ at' t #[.int .i64 a, .int .i64 b]) (.int .i64 (max a b)) := .of (pu_max rfl)
instance {at' : Array TypeId} {t : TypeId} {a b : Int} : Stp P (Builtin.min_ at' t #[.int .i64 a, .int .i64 b]) (.int .i64 (min a b)) := .of (pu_min rfl)
instance {fn : Fn} {a b : Array Value} : Stp P (Instr.makeFunc fn a b) (.func fn a b) := .of (pu_fn rfl)

theorem arrayT_spec {t len e n : Nat} (h : arrayT P t = some (len, e, n)) : ∃ inf, P.underlying t = some (.array len e) ∧ P.info? e = some inf ∧ inf.size = n := by
  unfold arrayT at h
  split at h
  · rename_i l' e' hu
    cases hi : P.info? e' with
    | none => rw [hi] at h; cases h
    | some inf => rw [hi] at h; cases h; exact ⟨inf, hu, hi, rfl⟩
  · cases h

theorem sliceT_spec {t e n b : Nat} {z : List Value} (h : sliceT P t = some (e, n, b, z)) : ∃ inf v, P.underlying t = some (.slice e) ∧ P.info? e = some inf ∧ inf.size = n ∧ inf.bytes = b ∧ inf.zero = some v ∧ v.cells.toList = z := by
  unfold sliceT at h
  split at h
  · rename_i e' hu
    split at h
    · rename_i inf hi
      cases hz : inf.zero with
      | none => rw [hz] at h; cases h
      | some v => rw [hz] at h; cases h; exact ⟨inf, v, hu, hi, rfl, rfl, hz, rfl⟩
    · cases h
  · cases h

theorem pu_indexS {t e n b0 b o len cap : Nat} {i : Int} [hs : Slc P t e n b0] (h0 : 0 ≤ i) (h1 : i < len) (h : K (.pointer (some ⟨b, o + i.toNat * n, none⟩))) :
    Pu P (Instr.indexAt t (.slice (some ⟨b, o, none⟩) len cap) (.int .i64 i)) K := by
  refine ⟨_, fun w => ?_, h⟩
  obtain ⟨z, hs, _⟩ := hs.is
  obtain ⟨inf, v, hu, hi, rfl, _⟩ := sliceT_spec hs
  simp [Instr.indexAt, asIntOf, run_underlying hu, sizeOf, typeInfo, hi, h0, h1, add_none]
theorem pu_indexN {t e n b0 b o len cap k : Nat} [hs : Slc P t e n b0] (h1 : k < len) (h : K (.pointer (some ⟨b, o + k * n, none⟩))) :
    Pu P (Instr.indexAt t (.slice (some ⟨b, o, none⟩) len cap) (.int .i64 (k : Int))) K :=
  pu_indexS (by omega) (by omega) (by simpa using h)
theorem pu_indexA {t len e n b o : Nat} {i : Int} [ha : Arr P t len e n] (h0 : 0 ≤ i) (h1 : i < len) (h : K (.pointer (some ⟨b, o + i.toNat * n, none⟩))) :
    Pu P (Instr.indexAt t (.pointer (some ⟨b, o, none⟩)) (.int .i64 i)) K := by
  refine ⟨_, fun w => ?_, h⟩
  obtain ⟨inf, hu, hi, rfl⟩ := arrayT_spec ha.is
  simp [Instr.indexAt, asIntOf, run_underlying hu, sizeOf, typeInfo, hi, h0, h1, add_none, Instr.sureAddr]

theorem condT {p : Prop} [Decidable p] {A B : Prop} (hp : p) (h : A) : condV (.bool (decide p)) A B := by rw [decide_eq_true hp]; exact h
theorem condF {p : Prop} [Decidable p] {A B : Prop} (hp : ¬ p) (h : B) : condV (.bool (decide p)) A B := by rw [decide_eq_false hp]; exact h
theorem condNT {p : Prop} [Decidable p] {A B : Prop} (hp : ¬ p) (h : A) : condV (.bool (!decide p)) A B := by rw [decide_eq_false hp]; exact h
theorem condNF {p : Prop} [Decidable p] {A B : Prop} (hp : p) (h : B) : condV (.bool (!decide p)) A B := by rw [decide_eq_true hp]; exact h
theorem condD {p : Prop} [Decidable p] {A B : Prop} (h1 : p → A) (h2 : ¬ p → B) : condV (.bool (decide p)) A B := by
  by_cases hp : p
  · exact condT hp (h1 hp)
  · exact condF hp (h2 hp)
theorem condND {p : Prop} [Decidable p] {A B : Prop} (h1 : ¬ p → A) (h2 : p → B) : condV (.bool (!decide p)) A B := by
  by_cases hp : p
  · exact condNF hp (h2 hp)
  · exact condNT hp (h1 hp)
theorem condB {t : Bool} {A B : Prop} (h1 : t = true → A) (h2 : t = false → B) : condV (.bool t) A B := condV_intro h1 h2
theorem condNB {t : Bool} {A B : Prop} (h1 : t = false → A) (h2 : t = true → B) : condV (.bool (!t)) A B := condV_intro (fun h => h1 (by simpa using h)) (fun h => h2 (by simpa using h))

end

/-! ### What reads and writes -/

section
variable {P : Program} {K : Value → World → Prop} {w : World} {c : Cx} {Γ Δ : List HProp}

theorem Cl.of {f : FuncId} {args : Array Value} {K1 : Value → World → Prop} (he : enters P f = true) (h : Calls P f args w (Rt K1)) (hK : ∀ v w', K1 v w' → K v w') : Cl P f args w K :=
  ⟨he, Calls.mono h fun e w' ⟨v, hv, hk⟩ => ⟨v, hv, hK _ _ hk⟩⟩

theorem Clv.of {f : FuncId} {first args captured : Array Value} (h : Cl P f (first ++ args ++ captured) w K) : Clv P (.func (.func f) first captured) args w K := ⟨f, first, captured, rfl, h⟩

theorem isAgg_sca {t : Nat} [h : Sca P t] (w : World) : (isAgg t).run P w = .ok false w ∧ ∃ inf, P.info? t = some inf ∧ inf.size = 1 := by
  have h := h.is
  unfold cellsT at h
  split at h
  · cases h
  · cases h
  · rename_i d inf hn1 hn2 h1 h2
    split at h
    · rename_i hs
      refine ⟨?_, inf, h2, hs⟩
      unfold isAgg
      rw [Sem.run_bind, run_underlying h1]
      cases d <;> first | rfl | (exact (hn1 _ rfl).elim) | (exact (hn2 _ _ rfl).elim)
    · cases h
  · cases h

theorem isAgg_agg {t n : Nat} [h : Agg P t n] (w : World) : (isAgg t).run P w = .ok true w ∧ ∃ inf, P.info? t = some inf ∧ inf.size = n := by
  have h := h.is
  unfold cellsT at h
  split at h
  · rename_i d inf h1 h2
    cases h
    refine ⟨?_, inf, h2, rfl⟩
    unfold isAgg
    rw [Sem.run_bind, run_underlying h1]; rfl
  · rename_i d e inf h1 h2
    cases h
    refine ⟨?_, inf, h2, rfl⟩
    unfold isAgg
    rw [Sem.run_bind, run_underlying h1]; rfl
  · split at h <;> cases h
  · cases h

theorem run_load1 {t b o : Nat} {v : Value} [Sca P t] (hc : w.cell? ⟨b, o, none⟩ = some v) : (Instr.loadAt t (.pointer (some ⟨b, o, none⟩))).run P w = .ok v w := by
  obtain ⟨h1, _⟩ := isAgg_sca (P := P) (t := t) w
  unfold Instr.loadAt loadVar
  simp [Instr.sureAddr, h1, hc]

/-- Cells one behind the other. -/
def cellsAt (w : World) (b o : Nat) (vs : List Value) : Prop := ∀ j v, vs[j]? = some v → w.cell? ⟨b, o + j, none⟩ = some v

theorem run_loadN {t n b o : Nat} {vs : List Value} [Agg P t n] (hn : vs.length = n) (hc : cellsAt w b o vs) : (Instr.loadAt t (.pointer (some ⟨b, o, none⟩))).run P w = .ok (.agg vs.toArray) w := by
  obtain ⟨h1, inf, h2, h3⟩ := isAgg_agg (P := P) (t := t) (n := n) w
  unfold Instr.loadAt loadVar
  have h4 := run_loadCells_list (P := P) w ⟨b, o, none⟩ vs (fun j v hj => by rw [add_none]; exact hc j v hj)
  rw [hn] at h4
  simp only [Instr.sureAddr, Sem.run_bind, Sem.run_pure, Result.andThen_ok, h1, if_true, sizeOf, typeInfo, run_program, h2, h3, h4]

theorem bn_load1 {t b o : Nat} {v : Value} [Sca P t] (hc : w.cell? ⟨b, o, none⟩ = some v) (h : K v w) : Bn P (Instr.loadAt t (.pointer (some ⟨b, o, none⟩))) w K := ⟨_, _, run_load1 hc, h⟩
theorem bn_loadN {t n b o : Nat} {vs : List Value} [Agg P t n] (hc : cellsAt w b o vs) (hn : vs.length = n) (h : K (.agg vs.toArray) w) : Bn P (Instr.loadAt t (.pointer (some ⟨b, o, none⟩))) w K := ⟨_, _, run_loadN hn hc, h⟩

theorem Sat.cells {b o : Nat} {cs vs : List Value} {t : TypeId} (H : Sat c Γ w) (hf : Has Γ (blk b cs t) Δ) (hv : ∀ j v, vs[j]? = some v → cs[o + j]? = some v) : cellsAt w b o vs :=
  fun j v hj => H.cell hf (hv j v hj)
theorem At.cells {b o : Nat} {cs vs : List Value} {t : TypeId} (h : At c (blk b cs t)) (H : Sat c Γ w) (hv : ∀ j v, vs[j]? = some v → cs[o + j]? = some v) : cellsAt w b o vs :=
  fun j v hj => h.cell H (hv j v hj)
theorem Sat.cells0 {b : Nat} {cs : List Value} {t : TypeId} (H : Sat c Γ w) (hf : Has Γ (blk b cs t) Δ) : cellsAt w b 0 cs := H.cells hf fun j v hj => by rw [Nat.zero_add]; exact hj

theorem Sat.free {b : Nat} {cs : List Value} {t : TypeId} (H : Sat c Γ w) (hf : Has Γ (blk b cs t) Δ) (o : Nat) : w.frozen? ⟨b, o, none⟩ = false := by
  have h := H.blkAt hf
  simp [World.frozen?, h]

theorem Value.cells_one {v : Value} (hv : v.oneCell' = true) : v.cells = #[v] := by cases v <;> first | rfl | (simp [Value.oneCell'] at hv)

theorem bn_store1 {t b o : Nat} {cs : List Value} {t' : TypeId} {v : Value} [Sca P t] (H : Sat c Γ w) (hf : Has Γ (blk b cs t') Δ) (ho : o < cs.length) (hv : v.oneCell' = true)
    (h : ∀ w', Sat c (blk b (cs.set o v) t' :: Δ) w' → K undef w') : Bn P (unitV (Instr.storeAt t (.pointer (some ⟨b, o, none⟩)) v)) w K := by
  refine ⟨_, _, ?_, h _ (H.store hf v)⟩
  obtain ⟨_, inf, h2, h3⟩ := isAgg_sca (P := P) (t := t) w
  have hc : w.cell? ⟨b, o, none⟩ = some cs[o] := H.cell hf (List.getElem?_eq_getElem ho)
  have hfz := H.free hf o
  have hst := run_store P w ⟨b, o, none⟩ v .plain hv
  rw [hc] at hst
  simp only [hfz, Bool.false_eq_true, if_false] at hst
  simp [unitV, Instr.storeAt, storeVar, Instr.sureAddr, Value.cells_one hv, sizeOf, typeInfo, h2, h3, storeCells, add_none, hst]

/-- Cells of a list replaced from o on. -/
def wrL (cs : List Value) (o : Nat) : List Value → List Value
  | [] => cs
  | v :: vs => wrL (cs.set o v) (o + 1) vs

theorem wrL_length : ∀ (vs cs : List Value) (o : Nat), (wrL cs o vs).length = cs.length
  | [], _, _ => rfl
  | v :: vs, cs, o => by rw [wrL, wrL_length vs]; simp

theorem run_storeCells_sat : ∀ (vs : List Value) (w : World) (Γ Δ : List HProp) (b o i : Nat) (cs : List Value) (t' : TypeId), Sat c Γ w → Has Γ (blk b cs t') Δ → o + i + vs.length ≤ cs.length → (∀ v ∈ vs, v.oneCell' = true) →
    ∃ w', (storeCells ⟨b, o, none⟩ vs i).run P w = .ok () w' ∧ Sat c (blk b (wrL cs (o + i) vs) t' :: Δ) w'
  | [], w, Γ, Δ, b, o, i, cs, t', H, hf, _, _ => ⟨w, rfl, H.get hf⟩
  | v :: vs, w, Γ, Δ, b, o, i, cs, t', H, hf, hl, hv => by
    simp only [List.length_cons] at hl
    have ho : o + i < cs.length := by omega
    have hc : w.cell? ⟨b, o + i, none⟩ = some cs[o + i] := H.cell hf (List.getElem?_eq_getElem ho)
    have hfz := H.free hf (o + i)
    have hst := run_store P w ⟨b, o + i, none⟩ v .plain (hv v (by simp))
    rw [hc] at hst
    simp only [hfz, Bool.false_eq_true, if_false] at hst
    obtain ⟨w', h1, h2⟩ := run_storeCells_sat vs _ _ Δ b o (i + 1) _ t' (H.store hf v) .head (by simp; omega) (fun u hu => hv u (by simp [hu]))
    refine ⟨w', ?_, h2⟩
    simp only [storeCells, Sem.run_bind, add_none, hst, Result.andThen_ok, h1]

theorem bn_storeN {t n b o : Nat} {cs vs : List Value} {t' : TypeId} [Agg P t n] (H : Sat c Γ w) (hf : Has Γ (blk b cs t') Δ) (hn : vs.length = n) (ho : o + vs.length ≤ cs.length) (hv : ∀ v ∈ vs, v.oneCell' = true)
    (h : ∀ w', Sat c (blk b (wrL cs o vs) t' :: Δ) w' → K undef w') : Bn P (unitV (Instr.storeAt t (.pointer (some ⟨b, o, none⟩)) (.agg vs.toArray))) w K := by
  obtain ⟨w', h1, h2⟩ := run_storeCells_sat (P := P) vs w Γ Δ b o 0 cs t' H hf (by omega) hv
  refine ⟨_, w', ?_, h w' h2⟩
  obtain ⟨_, inf, h3, h4⟩ := isAgg_agg (P := P) (t := t) (n := n) w
  have : (Value.agg vs.toArray).cells = vs.toArray := rfl
  simp [unitV, Instr.storeAt, storeVar, Instr.sureAddr, this, sizeOf, typeInfo, h3, h4, hn, h1]

theorem zeroT_spec {t : Nat} {z : List Value} (h : zeroT P t = some z) : ∃ inf v, P.info? t = some inf ∧ inf.zero = some v ∧ v.cells = z.toArray := by
  unfold zeroT at h
  split at h
  · rename_i inf hi
    cases hz : inf.zero with
    | none => rw [hz] at h; cases h
    | some v => rw [hz] at h; cases h; exact ⟨inf, v, hi, hz, by simp⟩
  · cases h

theorem bn_alloc {t : Nat} {z : List Value} [hz : Zero P t z] (H : Sat c Γ w) (h : ∀ b w', Sat c (blk b z t :: Γ) w' → K (.pointer (some ⟨b, 0, none⟩)) w') : Bn P (Instr.alloc t true (.tuple #[])) w K := by
  obtain ⟨inf, v, h1, h2, h3⟩ := zeroT_spec hz.is
  refine ⟨_, _, ?_, h _ _ (H.new (.cells z.toArray t))⟩
  simp [Instr.alloc, zeroValue, typeInfo, h1, h2, newVar, newRow, h3]

theorem bn_box {t : Nat} {v : Value} {z : List Value} (hz : v.cells = z.toArray) (H : Sat c Γ w) (h : ∀ b w', Sat c (blk b z t :: Γ) w' → K (.pointer (some ⟨b, 0, none⟩)) w') : Bn P (Instr.box t v) w K := by
  refine ⟨_, _, ?_, h _ _ (H.new (.cells z.toArray t))⟩
  simp [Instr.box, newVar, newRow, hz]

theorem bn_map {t : Nat} (H : Sat c Γ w) (h : ∀ b w', Sat c (obj b (.map #[] 0) :: Γ) w' → K (.map (some b)) w') : Bn P (Instr.makeMap t none) w K := by
  refine ⟨_, _, ?_, h _ _ (H.new (.map #[] 0))⟩
  simp [Instr.makeMap]

theorem bn_len {t e n b0 ty : Nat} {a : Option Addr} {len cap : Nat} [hs : Slc P t e n b0] (h : K (.int .i64 (len : Int)) w) : Bn P (Builtin.len_ #[t] ty #[.slice a len cap]) w K := by
  obtain ⟨z, hs, _⟩ := hs.is
  obtain ⟨inf, v, hu, _⟩ := sliceT_spec hs
  exact ⟨_, _, by simp [Builtin.len_, run_underlying hu, goInt], h⟩

theorem run_len {t e n b0 ty : Nat} {a : Option Addr} {len cap : Nat} [hs : Slc P t e n b0] (w : World) : (Builtin.len_ #[t] ty #[.slice a len cap]).run P w = .ok (.int .i64 (len : Int)) w := by
  obtain ⟨z, hs, _⟩ := hs.is
  obtain ⟨inf, v, hu, _⟩ := sliceT_spec hs
  simp [Builtin.len_, run_underlying hu, goInt]

instance {t e n b0 ty : Nat} {a : Option Addr} {len cap : Nat} [Slc P t e n b0] : Stb P (Builtin.len_ #[t] ty #[.slice a len cap]) (.int .i64 (len : Int)) := ⟨run_len⟩

/-! #### Slices that are owned -/

/-- v is a slice of n elements of sz cells: its cells are xs; its row is its own. -/
def ownS (e sz : Nat) (v : Value) (n : Nat) (xs : List Value) : HProp := fun h =>
  xs.length = n * sz ∧
  (((∃ a, v = .slice a 0 0) ∧ n = 0) ∨ ∃ b cap sp, v = .slice (some ⟨b, 0, none⟩) n cap ∧ n ≤ cap ∧ (xs ++ sp).length = cap * sz ∧ blk b (xs ++ sp) e h)

theorem ownS_nil (e sz : Nat) (a : Option Addr) (h : Hp) : ownS e sz (.slice a 0 0) 0 [] h := ⟨by simp, .inl ⟨⟨a, rfl⟩, rfl⟩⟩

/-- An owned slice, its row laid open. -/
theorem Sat.openS {e sz n : Nat} {v : Value} {xs : List Value} (H : Sat c (ownS e sz v n xs :: Γ) w) :
    xs.length = n * sz ∧ ((∃ a, v = .slice a 0 0 ∧ n = 0 ∧ xs = [] ∧ Sat c Γ w) ∨ ∃ b cap sp, v = .slice (some ⟨b, 0, none⟩) n cap ∧ n ≤ cap ∧ (xs ++ sp).length = cap * sz ∧ Sat c (blk b (xs ++ sp) e :: Γ) w) := by
  obtain ⟨f, g, s, ⟨hl, hp⟩, hr⟩ := H.own
  refine ⟨hl, ?_⟩
  rcases hp with ⟨⟨a, rfl⟩, rfl⟩ | ⟨b, cap, sp, rfl, h1, h2, h3⟩
  · exact .inl ⟨a, rfl, rfl, List.eq_nil_of_length_eq_zero (by simpa using hl), H.tail⟩
  · exact .inr ⟨b, cap, sp, rfl, h1, h2, { H with own := ⟨f, g, s, h3, hr⟩ }⟩

theorem Sat.shutS {e sz n b cap : Nat} {xs sp : List Value} (H : Sat c (blk b (xs ++ sp) e :: Γ) w) (hl : xs.length = n * sz) (hn : n ≤ cap) (hc : (xs ++ sp).length = cap * sz) :
    Sat c (ownS e sz (.slice (some ⟨b, 0, none⟩) n cap) n xs :: Γ) w := by
  obtain ⟨f, g, s, hp, hr⟩ := H.own
  exact { H with own := ⟨f, g, s, ⟨hl, .inr ⟨b, cap, sp, rfl, hn, hc, hp⟩⟩, hr⟩ }

theorem Sat.nilS {e sz : Nat} (a : Option Addr) (H : Sat c Γ w) : Sat c (ownS e sz (.slice a 0 0) 0 [] :: Γ) w :=
  { H with own := ⟨fun _ => none, _, fun k => .inr ⟨rfl, rfl⟩, ownS_nil e sz a _, H.own⟩ }

theorem all_one_append {xs ys : List Value} (hx : ∀ u ∈ xs, u.oneCell' = true) (hy : ∀ u ∈ ys, u.oneCell' = true) : ∀ u ∈ xs ++ ys, u.oneCell' = true := fun u hu => by
  rcases List.mem_append.1 hu with h | h
  · exact hx u h
  · exact hy u h

theorem wrL_append : ∀ (news xs sp : List Value), news.length ≤ sp.length → wrL (xs ++ sp) xs.length news = (xs ++ news) ++ sp.drop news.length
  | [], xs, sp, _ => by simp [wrL]
  | u :: us, xs, [], h => by simp at h
  | u :: us, xs, s0 :: sp, h => by
    have ih := wrL_append us (xs ++ [u]) sp (by simpa using h)
    simp only [wrL]
    rw [List.set_append_right _ _ (Nat.le_refl _), Nat.sub_self, List.set_cons_zero]
    have e : xs ++ u :: sp = (xs ++ [u]) ++ sp := by simp
    have e' : xs.length + 1 = (xs ++ [u]).length := by simp
    rw [e, e', ih]
    simp

/-- append(v, ..): v owned; what is appended is read. -/
theorem bn_append {t e sz by_ ty n m c1 : Nat} {v : Value} {xs news : List Value} {ad : Option Addr} [hs : Slc P t e sz by_] (H : Sat c Γ w) (hf : Has Γ (ownS e sz v n xs) Δ)
    (hl : news.length = m * sz) (hn : ∀ b o sp, ad = some ⟨b, o, sp⟩ → m = 0 ∨ (sp = none ∧ cellsAt w b o news)) (hnil : ad = none → m = 0) (h1 : ∀ u ∈ news, u.oneCell' = true)
    (hbound : (n + m) * by_ ≤ 140737488355328) (hnm : n + m ≤ maxLen) (hsz : 0 < sz)
    (h : ∀ v' w', Sat c (ownS e sz v' (n + m) (xs ++ news) :: Δ) w' → K v' w') : Bn P (Builtin.append_ #[t, t] ty #[v, .slice ad m c1]) w K := by
  obtain ⟨z, hsl, hzl⟩ := hs.is
  obtain ⟨inf, zv, hu, hi, hsize, hbytes, hz, hzc⟩ := sliceT_spec hsl
  have hnews : ∀ a, ad = some a → ∀ j u, news[j]? = some u → w.cell? (a.add j) = some u := by
    rintro ⟨b, o, sp⟩ he j u hj
    rcases hn b o sp he with hm | ⟨rfl, hc⟩
    · have : news = [] := List.eq_nil_of_length_eq_zero (by rw [hl, hm]; simp)
      rw [this] at hj; simp at hj
    · rw [add_none]; exact hc j u hj
  have hlen : (xs ++ news).length = xs.length + news.length := List.length_append
  obtain ⟨hxl, hv⟩ := (H.get hf).openS
  have hzs : zv.cells.size = sz := by rw [← Array.length_toList, hzc, hzl]
  have small : n + m ≤ 9223372036854775807 := by simp only [maxLen] at hnm; omega
  rcases hv with ⟨a0, rfl, rfl, rfl, H0⟩ | ⟨b, cap, sp, rfl, hncap, hcap, H0⟩
  · -- nothing there yet
    rw [Nat.zero_add] at hbound small
    by_cases hm : m = 0
    · subst hm
      have hn0 : news = [] := List.eq_nil_of_length_eq_zero (by simpa using hl)
      subst hn0
      refine ⟨.slice a0 0 0, w, ?_, h _ _ (by simpa using H0.nilS a0)⟩
      cases ad with
      | none => cases a0 <;> simp [Builtin.append_, run_underlying hu, sizeOf, typeInfo, hi, Builtin.lenOf, Builtin.firstCells, storeCells]
      | some a => cases a0 <;> simp [Builtin.append_, run_underlying hu, sizeOf, typeInfo, hi, Builtin.lenOf, Builtin.firstCells, loadCells, loadCellsFrom, storeCells]
    · obtain ⟨a, ha⟩ : ∃ a, ad = some a := by
        cases ad with
        | none => exact absurd (hnil rfl) hm
        | some a => exact ⟨a, rfl⟩
      subst ha
      have hge := grownCap_ge w m 0 e
      have H1 := H0.drew.new (.cells ((news ++ (Builtin.zeroCells zv.cells (grownCap w m 0 e - m)).toList).toArray) e)
      have hcl : (news ++ (Builtin.zeroCells zv.cells (grownCap w m 0 e - m)).toList).length = grownCap w m 0 e * sz := by
        simp only [List.length_append, Array.length_toList, size_zeroCells, hl, hzs, ← Nat.add_mul]
        congr 1; omega
      have H2 := Sat.shutS (n := m) (sz := sz) (cap := grownCap w m 0 e) H1 hl hge hcl
      have e1 : w.drew.alloc (.cells (news.toArray ++ Builtin.zeroCells zv.cells (grownCap w m 0 e - m)) e) = { w.drew with heap := w.drew.heap.push (.cells ((news ++ (Builtin.zeroCells zv.cells (grownCap w m 0 e - m)).toList).toArray) e) } := by
        simp only [World.alloc]
        congr 3
        apply Array.ext'; simp
      cases a0 with
      | none =>
        have hr := run_append_nil (P := P) w t ty e inf zv hu hi hz a m c1 news (by rw [hsize]; exact hl) (hnews a rfl) (by omega) (by omega) (by rw [hbytes]; omega)
        refine ⟨_, _, hr, h _ _ ?_⟩
        rw [e1]
        simpa using H2
      | some a0 =>
        have hr := run_append_grow (P := P) w t ty e inf zv hu hi hz a0 0 0 [] (by simp) (fun j u hj => by simp at hj) a m c1 news (by rw [hsize]; exact hl) (hnews a rfl) (by omega) (by omega)
          (growslice_fits (by omega) (by rw [hbytes, Nat.zero_add]; exact hbound))
        simp only [Nat.zero_add] at hr
        refine ⟨_, _, hr, h _ _ ?_⟩
        have e2 : ([] : List Value).toArray ++ news.toArray ++ Builtin.zeroCells zv.cells (grownCap w m 0 e - m) = news.toArray ++ Builtin.zeroCells zv.cells (grownCap w m 0 e - m) := by simp
        rw [e2, e1]
        simpa using H2
  · by_cases hroom : n + m ≤ cap
    · -- room
      have hstore := run_storeCells_sat (P := P) news w _ _ b (n * sz) 0 (xs ++ sp) e H0 .head (by rw [hcap, hl, Nat.add_zero, ← Nat.add_mul]; exact Nat.mul_le_mul_right _ hroom) h1
      obtain ⟨w', h2, h3⟩ := hstore
      refine ⟨.slice (some ⟨b, 0, none⟩) (n + m) cap, w', ?_, ?_⟩
      · have hfirst : (Builtin.firstCells sz m (.slice ad m c1)).run P w = .ok news.toArray w := by
          cases ad with
          | none =>
            have hm := hnil rfl
            subst hm
            have hn0 : news = [] := List.eq_nil_of_length_eq_zero (by simpa using hl)
            subst hn0
            simp [Builtin.firstCells]
          | some a => exact run_firstCells_some (P := P) w sz m a m c1 news hl (hnews a rfl)
        simp [Builtin.append_, run_underlying hu, sizeOf, typeInfo, hi, hsize, Builtin.lenOf, hroom, hfirst, add_none, h2]
      · refine h _ _ ?_
        have e2 : wrL (xs ++ sp) (n * sz + 0) news = (xs ++ news) ++ sp.drop news.length := by
          rw [Nat.add_zero, ← hxl]
          refine wrL_append news xs sp ?_
          have := hcap; rw [List.length_append, hxl] at this
          rw [hl]
          have h4 : (n + m) * sz ≤ cap * sz := Nat.mul_le_mul_right _ hroom
          rw [Nat.add_mul] at h4; omega
        rw [e2] at h3
        refine Sat.shutS h3 (by rw [hlen, hxl, hl, Nat.add_mul]) hroom ?_
        have := hcap
        simp only [List.length_append, List.length_drop] at this ⊢
        rw [hl, hxl] at *
        have h4 : (n + m) * sz ≤ cap * sz := Nat.mul_le_mul_right _ hroom
        rw [Nat.add_mul] at h4
        omega
    · -- a new row
      obtain ⟨a, ha⟩ : ∃ a, ad = some a := by
        cases ad with
        | none => exact absurd (by rw [hnil rfl]; omega) hroom
        | some a => exact ⟨a, rfl⟩
      subst ha
      have holds : ∀ j u, xs[j]? = some u → w.cell? ((⟨b, 0, none⟩ : Addr).add j) = some u := fun j u hj => by
        rw [add_none, Nat.zero_add]
        exact H0.cell .head (by rw [List.getElem?_append_left (List.getElem?_eq_some_iff.1 hj).1]; exact hj)
      have hr := run_append_grow (P := P) w t ty e inf zv hu hi hz ⟨b, 0, none⟩ n cap xs (by rw [hsize]; exact hxl) holds a m c1 news (by rw [hsize]; exact hl) (hnews a rfl) (by omega) (by omega)
        (growslice_fits (by omega) (by rw [hbytes]; exact hbound))
      refine ⟨_, _, hr, h _ _ ?_⟩
      have hge := grownCap_ge w (n + m) cap e
      have H1 := H0.tail.drew.new (.cells (((xs ++ news) ++ (Builtin.zeroCells zv.cells (grownCap w (n + m) cap e - (n + m))).toList).toArray) e)
      have hcl : ((xs ++ news) ++ (Builtin.zeroCells zv.cells (grownCap w (n + m) cap e - (n + m))).toList).length = grownCap w (n + m) cap e * sz := by
        simp only [List.length_append, Array.length_toList, size_zeroCells, hl, hxl, hzs, ← Nat.add_mul]
        congr 1; omega
      have H2 := Sat.shutS (n := n + m) (sz := sz) (cap := grownCap w (n + m) cap e) H1 (by rw [hlen, hxl, hl, Nat.add_mul]) hge hcl
      have e1 : w.drew.alloc (.cells (xs.toArray ++ news.toArray ++ Builtin.zeroCells zv.cells (grownCap w (n + m) cap e - (n + m))) e) =
          { w.drew with heap := w.drew.heap.push (.cells (((xs ++ news) ++ (Builtin.zeroCells zv.cells (grownCap w (n + m) cap e - (n + m))).toList).toArray) e) } := by
        simp only [World.alloc]
        congr 3
        apply Array.ext'; simp
      rw [e1]
      exact H2

/-- A slice that can be read in this world. -/
def slAt (w : World) (v : Value) (n : Nat) (xs : List Value) : Prop :=
  ∃ a cap, v = .slice a n cap ∧ n ≤ cap ∧ (a = none → n = 0) ∧ ∀ b o sp, a = some ⟨b, o, sp⟩ → n = 0 ∨ (sp = none ∧ cellsAt w b o xs)

/-- .. that can be read as long as the context lasts. -/
def SlR (c : Cx) (v : Value) (n : Nat) (xs : List Value) : Prop := ∀ {Γ : List HProp} {w : World}, Sat c Γ w → slAt w v n xs

theorem Sat.slAt {e sz n : Nat} {v : Value} {xs : List Value} (H : Sat c Γ w) (hf : Has Γ (ownS e sz v n xs) Δ) : slAt w v n xs := by
  obtain ⟨hl, h⟩ := (H.get hf).openS
  rcases h with ⟨a, rfl, rfl, rfl, H0⟩ | ⟨b, cap, sp, rfl, h1, h2, H0⟩
  · exact ⟨a, 0, rfl, Nat.le_refl _, fun _ => rfl, fun b o sp h => .inl rfl⟩
  · refine ⟨_, cap, rfl, h1, (fun h => by cases h), ?_⟩
    intro b' o sp' h
    cases h
    refine .inr ⟨rfl, fun j v hj => H0.cell .head ?_⟩
    rw [Nat.zero_add, List.getElem?_append_left (List.getElem?_eq_some_iff.1 hj).1]; exact hj

theorem At.slR {e sz n : Nat} {v : Value} {xs : List Value} (h : At c (ownS e sz v n xs)) : SlR c v n xs := by
  intro Γ w H
  obtain ⟨f, ⟨hl, hp⟩, hs⟩ := h
  rcases hp with ⟨⟨a, rfl⟩, rfl⟩ | ⟨b, cap, sp, rfl, h1, h2, h3⟩
  · exact ⟨a, 0, rfl, Nat.le_refl _, fun _ => rfl, fun b o sp h => .inl rfl⟩
  · refine ⟨_, cap, rfl, h1, (fun h => by cases h), ?_⟩
    intro b' o sp' h
    cases h
    have hb : At c (blk b (xs ++ sp) e) := ⟨f, h3, hs⟩
    refine .inr ⟨rfl, fun j v hj => hb.cell H ?_⟩
    rw [Nat.zero_add, List.getElem?_append_left (List.getElem?_eq_some_iff.1 hj).1]; exact hj

/-- append, of whatever can be read. -/
theorem bn_appendR {t e sz by_ ty n m : Nat} {v u : Value} {xs news : List Value} [hs : Slc P t e sz by_] (H : Sat c Γ w) (hf : Has Γ (ownS e sz v n xs) Δ)
    (hu : slAt w u m news) (hl : news.length = m * sz) (h1 : ∀ u ∈ news, u.oneCell' = true)
    (hbound : (n + m) * by_ ≤ 140737488355328) (hnm : n + m ≤ maxLen) (hsz : 0 < sz)
    (h : ∀ v' w', Sat c (ownS e sz v' (n + m) (xs ++ news) :: Δ) w' → K v' w') : Bn P (Builtin.append_ #[t, t] ty #[v, u]) w K := by
  obtain ⟨a, cap, rfl, hle, hn, hc⟩ := hu
  exact bn_append (ad := a) H hf hl (fun b o sp e => hc b o sp e) hn h1 hbound hnm hsz h

/-! #### Structs built, slices made of elements -/

theorem foldl_set : ∀ (vs : List Value) (pre post : List Value) (k : Nat), pre.length = k → vs.length ≤ post.length →
    ((vs.zipIdx k).foldl (fun (cs : Array Value) (p : Value × Nat) => cs.setIfInBounds p.2 p.1) (pre ++ post).toArray) = (pre ++ vs ++ post.drop vs.length).toArray
  | [], pre, post, k, _, _ => by simp
  | v :: vs, pre, [], k, _, h => by simp at h
  | v :: vs, pre, q :: post, k, hk, h => by
    have ih := foldl_set vs (pre ++ [v]) post (k + 1) (by simp [hk]) (by simpa using h)
    simp only [List.zipIdx_cons, List.foldl_cons]
    have e : ((pre ++ q :: post).toArray.setIfInBounds k v) = ((pre ++ [v]) ++ post).toArray := by
      rw [List.setIfInBounds_toArray, ← hk, List.set_append_right _ _ (Nat.le_refl _), Nat.sub_self, List.set_cons_zero]; simp
    rw [e, ih]; simp

theorem foldl_off (off : Nat) : ∀ (vs : List Value) (k : Nat) (A : Array Value),
    (vs.zipIdx k).foldl (fun (cs : Array Value) (x : Value × Nat) => cs.setIfInBounds (off + x.2) x.1) A = (vs.zipIdx (off + k)).foldl (fun (cs : Array Value) (p : Value × Nat) => cs.setIfInBounds p.2 p.1) A
  | [], k, A => rfl
  | v :: vs, k, A => by
    simp only [List.zipIdx_cons, List.foldl_cons]
    rw [foldl_off off vs (k + 1)]; rfl

/-- One part laid in. -/
theorem fill_cons {place : Nat → Option (Nat × Nat)} {i off size : Nat} {v : Value} {rest : List (Nat × Value)} {pre mid post vs : List Value} (hp : place i = some (off, size)) (hv : v.cells = vs.toArray)
    (hs : vs.length = size) (ho : pre.length = off) (hm : mid.length = size) :
    Instr.fill place (pre ++ mid ++ post).toArray ((i, v) :: rest) = Instr.fill place (pre ++ vs ++ post).toArray rest := by
  have hc : (decide (v.cells.size ≠ size) || decide (off + v.cells.size > (pre ++ mid ++ post).toArray.size)) = false := by
    rw [hv]; simp; omega
  have h := foldl_set vs pre (mid ++ post) off ho (by simp; omega)
  have e : (v.cells.zipIdx.foldl (fun cs (x : Value × Nat) => cs.setIfInBounds (off + x.2) x.1) (pre ++ mid ++ post).toArray) = (pre ++ vs ++ post).toArray := by
    rw [hv, ← Array.foldl_toList]
    have : (vs.toArray.zipIdx).toList = vs.zipIdx := by simp
    rw [this, List.append_assoc, foldl_off off vs 0, Nat.add_zero, h]
    simp [← hs.trans hm.symm]
  simp only [Instr.fill, hp, hc, Bool.false_eq_true, if_false]
  rw [← e]

/-- The parts' places and sizes in a struct type. -/
def placesT (P : Program) (t : Nat) : Option (List (Nat × Nat)) :=
  match P.underlying t with
  | some (.struct fs) => fs.toList.mapM fun f => (P.info? f.type).map fun inf => (f.offset, inf.size)
  | _ => none
class Places (P : Program) (t : Nat) (pl : outParam (List (Nat × Nat))) (z : outParam (List Value)) : Prop where
  pl : placesT P t = some pl
  z : zeroT P t = some z

theorem mapM_places {P : Program} {w : World} : ∀ (fs : List Field) (pl : List (Nat × Nat)), (fs.mapM fun f => (P.info? f.type).map fun inf => (f.offset, inf.size)) = some pl →
    (fs.mapM (fun f => do pure (f.offset, ← sizeOf f.type) : Field → Sem (Nat × Nat))).run P w = .ok pl w
  | [], pl, h => by simp at h; subst h; rfl
  | f :: fs, pl, h => by
    rw [List.mapM_cons] at h
    cases hi : P.info? f.type with
    | none => rw [hi] at h; cases h
    | some inf =>
      rw [hi] at h
      simp only [Option.map_some, Option.bind_eq_bind, Option.bind_some] at h
      cases hr : (fs.mapM fun f => (P.info? f.type).map fun inf => (f.offset, inf.size)) with
      | none => rw [hr] at h; cases h
      | some l =>
        rw [hr] at h
        cases h
        have ih := mapM_places (w := w) fs l hr
        rw [List.mapM_cons]
        simp only [Sem.run_bind, sizeOf, typeInfo, run_program, Result.andThen_ok, hi, Sem.run_pure]
        simp only [sizeOf, typeInfo] at ih
        rw [ih]
        rfl

theorem pu_build {P : Program} {K : Value → Prop} {t : Nat} {pl : List (Nat × Nat)} {z cs : List Value} {parts : Array (Nat × Value)} [hp : Places P t pl z]
    (hf : Instr.fill (fun i => pl[i]?) z.toArray parts.toList = some cs.toArray) (h : K (.agg cs.toArray)) : Pu P (Instr.build t parts) K := by
  refine ⟨_, fun w => ?_, h⟩
  obtain ⟨inf, v, h1, h2, h3⟩ := zeroT_spec hp.z
  have hpl := hp.pl
  unfold placesT at hpl
  split at hpl
  · rename_i fs hu
    have hm := mapM_places (P := P) (w := w) _ _ hpl
    unfold Instr.build
    simp only [zeroValue, typeInfo, Sem.run_bind, run_program, Result.andThen_ok, h1, h2, Sem.run_pure, run_underlying hu]
    rw [Array.mapM_eq_mapM_toList]
    simp only [Sem.run_map]
    simp only [sizeOf, typeInfo] at hm ⊢
    rw [hm]
    simp only [Result.andThen_ok, List.getElem?_toArray, h3, hf, Sem.run_pure]
  · cases hpl

theorem pu_build0 {P : Program} {K : Value → Prop} {t len e n : Nat} {z : List Value} [ha : Arr P t len e n] [hz : Zero P t z] (h : K (.agg z.toArray)) : Pu P (Instr.build t #[]) K := by
  refine ⟨_, fun w => ?_, h⟩
  obtain ⟨inf, v, h1, h2, h3⟩ := zeroT_spec hz.is
  obtain ⟨inf', hu, hi, -⟩ := arrayT_spec ha.is
  unfold Instr.build
  simp [zeroValue, typeInfo, h1, h2, run_underlying hu, sizeOf, hi, Instr.fill, h3]

theorem bn_buildSlice {t e n b0 len : Nat} {parts : Array (Nat × Value)} {cs : List Value} [hs : Slc P t e n b0] (hz : ∀ z, sliceT P t = some (e, n, b0, z) → len * n ≤ 16777216 ∧
      Instr.fill (fun i => some (i * n, n)) ((Array.range (len * n)).map fun i => z.toArray[i % z.toArray.size]!) parts.toList = some cs.toArray) (hl : cs.length = len * n)
    (H : Sat c Γ w) (h : ∀ v' w', Sat c (ownS e n v' len cs :: Γ) w' → K v' w') : Bn P (Instr.buildSlice t len parts) w K := by
  obtain ⟨z, hsl, hzl⟩ := hs.is
  obtain ⟨hb, hfill⟩ := hz z hsl
  obtain ⟨inf, zv, hu, hi, hsize, hbytes, hzv, hzc⟩ := sliceT_spec hsl
  have H1 := H.new (.cells (cs ++ []).toArray e)
  have H2 := Sat.shutS (n := len) (cap := len) H1 hl (Nat.le_refl _) (by simpa using hl)
  refine ⟨_, _, ?_, h _ _ H2⟩
  have hzz : zv.cells = z.toArray := by rw [← hzc]
  unfold Instr.buildSlice
  simp only [Sem.run_bind, run_underlying hu, Result.andThen_ok, sizeOf, typeInfo, run_program, hi, Sem.run_pure, hsize]
  rw [if_neg (by omega)]
  by_cases h0 : len * n = 0
  · have hcs : cs = [] := List.eq_nil_of_length_eq_zero (by omega)
    subst hcs
    simp only [h0] at hfill ⊢
    have e1 : (Array.range 0).map (fun i => (#[] : Array Value)[i % (#[] : Array Value).size]!) = (Array.range 0).map (fun i => z.toArray[i % z.toArray.size]!) := by simp
    rw [if_pos trivial, Sem.run_bind]
    simp only [Sem.run_pure, Result.andThen_ok, e1, hfill]
    simp [newRow]
  · simp only [h0, if_false, zeroValue, typeInfo, Sem.run_bind, run_program, Result.andThen_ok, hi, hzv, Sem.run_pure, hzz, hfill]
    simp [newRow]

theorem madeRow (z : List Value) (n : Nat) (hz : z.length = n) : ((Array.range (1 * n)).map fun i => z.toArray[i % z.toArray.size]!) = z.toArray := by
  apply Array.ext'
  simp only [Array.toList_map, Array.toList_range, Nat.one_mul, List.size_toArray]
  apply List.ext_getElem?
  intro i
  by_cases hi : i < n
  · have : i % z.length = i := Nat.mod_eq_of_lt (by omega)
    simp [hi, hz, this, List.getElem?_eq_getElem (by omega : i < z.length)]
    rw [Nat.mod_eq_of_lt hi, List.getElem?_eq_getElem (by omega)]; rfl
  · simp [hi, List.getElem?_eq_none (by omega : z.length ≤ i)]

/-- A slice of one element. -/
theorem bn_one {t e n b0 : Nat} {v : Value} {cs : List Value} [hs : Slc P t e n b0] (hv : v.cells = cs.toArray) (hl : cs.length = n) (hn : n ≤ 16777216)
    (H : Sat c Γ w) (h : ∀ v' w', Sat c (ownS e n v' 1 cs :: Γ) w' → K v' w') : Bn P (Instr.buildSlice t 1 #[(0, v)]) w K := by
  refine bn_buildSlice (cs := cs) (fun z hz => ⟨by omega, ?_⟩) (by omega) H h
  obtain ⟨z', hz', hzl⟩ := hs.is
  rw [hz] at hz'
  cases hz'
  rw [madeRow z n hzl]
  have := fill_cons (place := fun i => some (i * n, n)) (i := 0) (off := 0) (size := n) (v := v) (rest := []) (pre := []) (mid := z) (post := []) (vs := cs) (by simp) hv hl rfl hzl
  simpa [Instr.fill] using this

/-! #### Slices of slices -/

/-- s[:h] -/
theorem pu_sliceH {P : Program} {K : Value → Prop} {t e n b0 len cap : Nat} {a : Option Addr} {h : Int} [hs : Slc P t e n b0] (h0 : 0 ≤ h) (h1 : h ≤ cap) (hk : K (.slice a h.toNat cap)) :
    Pu P (Instr.sliceAt t (.slice a len cap) none (some (.int .i64 h)) none) K := by
  refine ⟨_, fun w => ?_, hk⟩
  obtain ⟨z, hsl, _⟩ := hs.is
  obtain ⟨inf, zv, hu, hi, _⟩ := sliceT_spec hsl
  simp [Instr.sliceAt, run_underlying hu, Instr.slice, Instr.sliceBounds, run_sliceBound, h0, h1, sizeOf, typeInfo, hi]
  intro hc
  cases a with
  | none => rfl
  | some a => obtain ⟨b, o, sp⟩ := a; simp [Addr.add]

/-- s[l:] -/
theorem pu_sliceL {P : Program} {K : Value → Prop} {t e n b0 len cap : Nat} {a : Option Addr} {l : Int} [hs : Slc P t e n b0] (h0 : 0 ≤ l) (h1 : l ≤ len)
    (hk : K (.slice (if cap = l.toNat then a else a.map (·.add (l.toNat * n))) (len - l.toNat) (cap - l.toNat))) :
    Pu P (Instr.sliceAt t (.slice a len cap) (some (.int .i64 l)) none none) K := by
  refine ⟨_, fun w => ?_, hk⟩
  obtain ⟨z, hsl, _⟩ := hs.is
  obtain ⟨inf, zv, hu, hi, rfl, _⟩ := sliceT_spec hsl
  simp [Instr.sliceAt, run_underlying hu, Instr.slice, Instr.sliceBounds, run_sliceBound, h0, h1, sizeOf, typeInfo, hi]

/-- s[:0:0] -/
theorem pu_slice00 {P : Program} {K : Value → Prop} {t e n b0 len cap : Nat} {a : Option Addr} [hs : Slc P t e n b0] (hk : K (.slice a 0 0)) :
    Pu P (Instr.sliceAt t (.slice a len cap) none (some (.int .i64 0)) (some (.int .i64 0))) K := by
  refine ⟨_, fun w => ?_, hk⟩
  obtain ⟨z, hsl, _⟩ := hs.is
  obtain ⟨inf, zv, hu, hi, _⟩ := sliceT_spec hsl
  simp [Instr.sliceAt, run_underlying hu, Instr.slice, Instr.sliceBounds, run_sliceBound, sizeOf, typeInfo, hi]

/-! #### Pointers and nil -/

def ptrT (P : Program) (t : Nat) : Bool := match P.underlying t with | some (.pointer _) => true | _ => false
class Ptr (P : Program) (t : Nat) : Prop where
  is : ptrT P t = true

theorem ptrT_spec {P : Program} {t : Nat} (h : ptrT P t = true) : ∃ e, P.underlying t = some (.pointer e) := by
  unfold ptrT at h
  split at h
  · rename_i e he; exact ⟨e, he⟩
  · cases h

theorem eq_nil_run {P : Program} {t : Nat} [hp : Ptr P t] (a : Option Addr) (w : World) : (Op.equal t (.pointer a) (.pointer none)).run P w = .ok a.isNone w := by
  obtain ⟨e, he⟩ := ptrT_spec hp.is
  have e1 : Op.equal t (.pointer a) (.pointer none) = Op.equalIn (9999 + 1) t (.pointer a) (.pointer none) := rfl
  rw [e1]
  cases a <;> unfold Op.equalIn <;> simp [run_underlying he]

theorem eqGuard_ptr (P : Program) (op : BinOp) (t : TypeId) (x y : Operand) (a b : Option Addr) (w : World) : (eqGuard op t x y (.pointer a) (.pointer b)).run P w = .ok () w := by
  unfold eqGuard
  split <;> rfl

theorem pu_nilEq {P : Program} {K : Value → Prop} {t : Nat} {x y : Operand} {a : Option Addr} [Ptr P t] (h : K (.bool a.isNone)) : Pu P (bopS .eql t x y (.pointer a) (.pointer none)) K :=
  ⟨_, fun w => by unfold bopS; rw [Sem.run_bind, eqGuard_ptr]; simp only [Result.andThen_ok, binOp, Sem.run_bind, eq_nil_run, Sem.run_pure], h⟩
theorem pu_nilNe {P : Program} {K : Value → Prop} {t : Nat} {x y : Operand} {a : Option Addr} [Ptr P t] (h : K (.bool (!a.isNone))) : Pu P (bopS .neq t x y (.pointer a) (.pointer none)) K :=
  ⟨_, fun w => by unfold bopS; rw [Sem.run_bind, eqGuard_ptr]; simp only [Result.andThen_ok, binOp, Sem.run_bind, eq_nil_run, Sem.run_pure], h⟩

instance {t : Nat} {x y : Operand} {a : Option Addr} [Ptr P t] : Stp P (bopS .eql t x y (.pointer a) (.pointer none)) (.bool a.isNone) := .of (pu_nilEq rfl)
instance {t : Nat} {x y : Operand} {a : Option Addr} [Ptr P t] : Stp P (bopS .neq t x y (.pointer a) (.pointer none)) (.bool (!a.isNone)) := .of (pu_nilNe rfl)

/-- A slice compared with nil. -/
theorem pu_slNil {P : Program} {K : Value → Prop} {t e n b0 : Nat} {x y : Operand} {a : Option Addr} {len cap : Nat} [hs : Slc P t e n b0] (h : K (.bool a.isNone)) :
    Pu P (bopS .eql t x y (.slice a len cap) (.slice none 0 0)) K := by
  refine ⟨_, fun w => ?_, h⟩
  obtain ⟨z, hsl, _⟩ := hs.is
  obtain ⟨inf, zv, hu, _⟩ := sliceT_spec hsl
  have hg : (eqGuard .eql t x y (.slice a len cap) (.slice none 0 0)).run P w = .ok () w := by unfold eqGuard; split <;> rfl
  have e1 : Op.equal t (.slice a len cap) (.slice none 0 0) = Op.equalIn (9999 + 1) t (.slice a len cap) (.slice none 0 0) := rfl
  unfold bopS
  rw [Sem.run_bind, hg]
  simp only [Result.andThen_ok, binOp, Sem.run_bind]
  rw [e1]
  cases a <;> unfold Op.equalIn <;> simp [run_underlying hu]

/-- s[:] of an array. -/
theorem pu_sliceArr {P : Program} {K : Value → Prop} {t len e n b o : Nat} [ha : Arr P t len e n] (hk : K (.slice (some ⟨b, o, none⟩) len len)) :
    Pu P (Instr.sliceAt t (.pointer (some ⟨b, o, none⟩)) none none none) K := by
  refine ⟨_, fun w => ?_, hk⟩
  obtain ⟨inf, hu, hi, rfl⟩ := arrayT_spec ha.is
  simp [Instr.sliceAt, run_underlying hu, Instr.sureAddr, Instr.sliceBounds, sizeOf, typeInfo, hi]
  intro h
  simp [Addr.add]

theorem rep_flat (zl : List Value) (n : Nat) : (List.replicate n zl).flatten = (List.range (n * zl.length)).map (fun i => zl.toArray[i % zl.toArray.size]!) := by
  induction n with
  | zero => simp
  | succ n ih =>
    rw [List.replicate_succ', List.flatten_append, ih, Nat.succ_mul, List.range_add, List.map_append]
    congr 1
    simp only [List.flatten_cons, List.flatten_nil, List.append_nil, List.map_map]
    apply List.ext_getElem?
    intro i
    by_cases hi : i < zl.length
    · simp [hi, Nat.add_mod, Nat.mod_eq_of_lt hi]
    · simp [hi]

/-- make([]T, n) -/
theorem bn_make {t e sz by_ n : Nat} [hs : Slc P t e sz by_] (H : Sat c Γ w) (hb : by_ * n ≤ 281474976710656) (hn : n ≤ 9223372036854775807)
    (h : ∀ b w' z, sliceT P t = some (e, sz, by_, z) → z.length = sz → Sat c (blk b ((List.replicate n z).flatten) e :: Γ) w' → K (.slice (some ⟨b, 0, none⟩) n n) w') : Bn P (Instr.makeSlice t (.int .i64 (n : Int)) (.int .i64 (n : Int))) w K := by
  obtain ⟨z, hsl, hzl⟩ := hs.is
  obtain ⟨inf, zv, hu, hi, hsize, hbytes, hzv, hzc⟩ := sliceT_spec hsl
  have hzz : zv.cells = z.toArray := by rw [← hzc]
  have H1 := H.new (.cells ((List.replicate n z).flatten).toArray e)
  have hcell : madeCells zv.cells (n * sz) = ((List.replicate n z).flatten).toArray := by
    apply Array.ext'
    rw [rep_flat, hzz]
    simp [madeCells, hzl]
  have hr := run_make (P := P) w t e inf zv hu hi hzv .i64 .i64 (n : Int) (n : Int) (by omega) (Int.le_refl _) (by rw [hbytes]; have h0 : ((by_ * n : Nat) : Int) ≤ 281474976710656 := (by omega); rw [Int.natCast_mul] at h0; exact h0) (by omega)
  rw [Int.toNat_natCast, hsize, hcell] at hr
  exact ⟨_, _, hr, h _ _ z hsl hzl H1⟩

theorem Sat.shutS0 {e sz n b : Nat} {xs : List Value} (H : Sat c (blk b xs e :: Γ) w) (hl : xs.length = n * sz) : Sat c (ownS e sz (.slice (some ⟨b, 0, none⟩) n n) n xs :: Γ) w :=
  Sat.shutS (sp := []) (by rw [List.append_nil]; exact H) hl (Nat.le_refl _) (by rw [List.append_nil]; exact hl)

theorem wrL_app : ∀ (vs pre post : List Value) (o : Nat), wrL (pre ++ post) (pre.length + o) vs = pre ++ wrL post o vs
  | [], _, _, _ => rfl
  | v :: vs, pre, post, o => by
    simp only [wrL]
    rw [List.set_append_right _ _ (by omega), Nat.add_sub_cancel_left, Nat.add_assoc, wrL_app vs]

theorem wrL_full : ∀ (vs old post : List Value), vs.length = old.length → wrL (old ++ post) 0 vs = vs ++ post
  | [], old, post, h => by
    have : old = [] := List.eq_nil_of_length_eq_zero (by simpa using h.symm)
    subst this; rfl
  | v :: vs, [], post, h => by simp at h
  | v :: vs, u :: old, post, h => by
    simp only [wrL]
    have := wrL_app vs [v] (old ++ post) 0
    simp only [List.length_singleton, List.singleton_append] at this
    simp only [List.cons_append, List.set_cons_zero]
    show wrL (v :: (old ++ post)) (0 + 1) vs = _
    rw [Nat.zero_add, this, wrL_full vs old post (by simpa using h)]

/-- A row of a block of rows laid anew. -/
theorem wrL_rows {k : Nat} : ∀ (rows : List (List Value)) (i : Nat) (vs : List Value), (∀ r ∈ rows, r.length = k) → i < rows.length → vs.length = k → wrL rows.flatten (i * k) vs = (rows.set i vs).flatten
  | [], i, vs, _, h, _ => by simp at h
  | r :: rows, 0, vs, hr, _, hv => by
    simp only [Nat.zero_mul, List.flatten_cons, List.set_cons_zero]
    exact wrL_full vs r rows.flatten (by rw [hv, hr r (by simp)])
  | r :: rows, i + 1, vs, hr, h, hv => by
    simp only [List.flatten_cons, List.set_cons_succ]
    have hk := hr r (by simp)
    have := wrL_app vs r rows.flatten (i * k)
    rw [show (i + 1) * k = r.length + i * k by rw [hk, Nat.succ_mul, Nat.add_comm], this, wrL_rows rows i vs (fun q hq => hr q (by simp [hq])) (by simpa using h) hv]

theorem wrL_left : ∀ (vs pre post : List Value) (o : Nat), o + vs.length ≤ pre.length → wrL (pre ++ post) o vs = wrL pre o vs ++ post
  | [], _, _, _, _ => rfl
  | v :: vs, pre, post, o, h => by
    simp only [List.length_cons] at h
    simp only [wrL]
    rw [List.set_append_left _ _ (by omega), wrL_left vs (pre.set o v) post (o + 1) (by simp; omega)]

/-- Part of a row of a block of rows laid anew. -/
theorem wrL_rowsO {k : Nat} : ∀ (rows : List (List Value)) (i o : Nat) (r vs : List Value), (∀ r ∈ rows, r.length = k) → rows[i]? = some r → o + vs.length ≤ k → wrL rows.flatten (i * k + o) vs = (rows.set i (wrL r o vs)).flatten
  | [], i, o, r, vs, _, h, _ => by simp at h
  | q :: rows, 0, o, r, vs, hr, h, hv => by
    simp at h; subst h
    simp only [Nat.zero_mul, Nat.zero_add, List.flatten_cons, List.set_cons_zero]
    exact wrL_left vs q rows.flatten o (by rw [hr q (by simp)]; exact hv)
  | q :: rows, i + 1, o, r, vs, hr, h, hv => by
    simp only [List.flatten_cons, List.set_cons_succ]
    have hk := hr q (by simp)
    have := wrL_app vs q rows.flatten (i * k + o)
    rw [show (i + 1) * k + o = q.length + (i * k + o) by rw [hk, Nat.succ_mul]; omega, this, wrL_rowsO rows i o r vs (fun q hq => hr q (by simp [hq])) (by simpa using h) hv]

/-- Things that want no memory. -/
theorem Sat.bigNil {Δ : List HProp} (H : Sat c Γ w) (h : ∀ p ∈ Δ, p (fun _ => none)) : Sat c (big Δ :: Γ) w := by
  refine { H with own := ⟨fun _ => none, _, fun k => .inr ⟨rfl, rfl⟩, ?_, H.own⟩ }
  induction Δ with
  | nil => trivial
  | cons p Δ ih => exact ⟨fun _ => none, fun _ => none, fun k => .inr ⟨rfl, rfl⟩, h p (by simp), ih (fun q hq => h q (by simp [hq]))⟩

end

end Go.Proofs.YtlolaieolgmdnaaDoor
