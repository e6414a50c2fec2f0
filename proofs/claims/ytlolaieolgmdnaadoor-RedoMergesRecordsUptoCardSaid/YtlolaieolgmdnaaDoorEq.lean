/-
  '==' of structs and arrays of ints.
-/
import Derived.Test.YtlolaieolgmdnaaDoorLw
import Derived.Laws.StructEq
namespace Go.Proofs.YtlolaieolgmdnaaDoor
open Go.RowKit
set_option linter.unusedVariables false
set_option linter.unusedSimpArgs false

def iV (n : Int) : Value := .int .i64 n

/-- The fields follow each other from o on; each is of ints. -/
def chainT (P : Program) (rec : Nat → Option Nat) : List Field → Nat → Option Nat
  | [], o => some o
  | f :: fs, o =>
    match rec f.type with
    | some n => if f.name ≠ "_" ∧ f.offset = o ∧ (P.info? f.type).map (·.size) = some n then chainT P rec fs (o + n) else none
    | none => none

/-- How many ints a value of the type is, if it is made of them alone. -/
def intsT (P : Program) : Nat → Nat → Option Nat
  | 0, _ => none
  | d + 1, t =>
    match P.underlying t with
    | some (.int .i64) => some 1
    | some (.struct fs) => if P.stoodInHeld t = true then none else chainT P (intsT P d) fs.toList 0
    | some (.array len e) =>
      match intsT P d e with
      | some n => if (P.info? e).map (·.size) = some n then some (len * n) else none
      | none => none
    | _ => none

/-- A value of a type of ints. -/
def ofInts (P : Program) (t : Nat) (l : List Int) : Value :=
  match P.underlying t with
  | some (.struct _) | some (.array _ _) => .agg (l.map iV).toArray
  | _ => iV (l.headD 0)

section
variable {P : Program} {w : World}

theorem run_part {t n o : Nat} {l : List Int} (hs : (P.info? t).map (·.size) = some n) (hi : ∃ d, intsT P d t = some n) (ho : o + n ≤ l.length) :
    (part t (l.map iV).toArray o).run P w = .ok (ofInts P t ((l.drop o).take n)) w := by
  obtain ⟨inf, h1, h2⟩ : ∃ inf, P.info? t = some inf ∧ inf.size = n := by
    cases h : P.info? t with
    | none => rw [h] at hs; cases hs
    | some inf => rw [h] at hs; exact ⟨inf, rfl, by simpa using hs⟩
  obtain ⟨d, hi⟩ := hi
  cases d with
  | zero => cases hi
  | succ d =>
    unfold intsT at hi
    have agg : (P.underlying t = some (.struct #[]) ∨ True) → ∀ D, P.underlying t = some D → (∃ fs, D = .struct fs) ∨ (∃ a b, D = .array a b) → (part t (l.map iV).toArray o).run P w = .ok (.agg (((l.drop o).take n).map iV).toArray) w := by
      intro _ D hu hD
      have ha : (isAgg t).run P w = .ok true w := by
        unfold isAgg
        rw [Sem.run_bind, run_underlying hu]
        rcases hD with ⟨fs, rfl⟩ | ⟨a, b, rfl⟩ <;> rfl
      unfold part
      simp only [Sem.run_bind, ha, Result.andThen_ok, if_true, sizeOf, typeInfo, run_program, h1, Sem.run_pure, h2]
      congr 2
      apply Array.ext'
      simp only [List.extract_toArray, List.extract_eq_take_drop, List.map_take, List.map_drop]
      rw [Nat.add_sub_cancel_left]
    split at hi
    · rename_i hu
      cases hi
      have ha : (isAgg t).run P w = .ok false w := by unfold isAgg; rw [Sem.run_bind, run_underlying hu]; rfl
      have hx : o < l.length := by omega
      have e1 : (l.map iV).toArray[o]? = some (iV l[o]) := by rw [List.getElem?_toArray, List.getElem?_map, List.getElem?_eq_getElem hx]; rfl
      have e2 : (l.drop o).take 1 = [l[o]] := by rw [List.drop_eq_getElem_cons hx]; rfl
      unfold part ofInts
      simp only [Sem.run_bind, ha, Result.andThen_ok, Bool.false_eq_true, if_false, hu, e1, e2, Sem.run_pure, List.headD_cons]
    · rename_i fs hu
      rw [agg (.inr trivial) _ hu (.inl ⟨fs, rfl⟩)]
      unfold ofInts; rw [hu]
    · rename_i len e hu
      rw [agg (.inr trivial) _ hu (.inr ⟨len, e, rfl⟩)]
      unfold ofInts; rw [hu]
    · cases hi

theorem take_drop_eq {α : Type} {a b : List α} {n : Nat} : a = b ↔ a.take n = b.take n ∧ a.drop n = b.drop n := by
  constructor
  · rintro rfl; exact ⟨rfl, rfl⟩
  · rintro ⟨h1, h2⟩; rw [← List.take_append_drop n a, h1, h2, List.take_append_drop]

theorem run_equalIn_ints : ∀ (d t n : Nat), intsT P d t = some n → ∀ (d' : Nat), d ≤ d' → ∀ (a b : List Int), a.length = n → b.length = n → ∀ (w : World), (Op.equalIn d' t (ofInts P t a) (ofInts P t b)).run P w = .ok (decide (a = b)) w
  | 0, t, n, h => by cases h
  | d + 1, t, n, h => by
    intro d' hd a b ha hb w
    obtain ⟨e, rfl⟩ : ∃ e, d' = e + 1 := ⟨d' - 1, by omega⟩
    have hde : d ≤ e := by omega
    unfold intsT at h
    split at h
    · rename_i hu
      cases h
      obtain ⟨x, rfl⟩ := List.length_eq_one_iff.1 ha
      obtain ⟨y, rfl⟩ := List.length_eq_one_iff.1 hb
      unfold ofInts
      rw [hu]
      simp only [List.headD_cons, iV]
      rw [run_equalIn_int w e t .i64 .i64 x y hu]
      congr 1
      rw [Bool.eq_iff_iff]; simp
    · rename_i fs hu
      split at h
      · cases h
      rename_i hst
      unfold ofInts
      rw [hu]
      simp only
      have hfo : P.fieldsOf t = fs := by unfold Program.fieldsOf; rw [hu]
      rw [run_equalIn_struct w e t _ _ (by rw [hfo]; exact hu) (by simpa using hst), hfo]
      -- the fields, one behind the other
      have key : ∀ (fs : List Field) (o : Nat), chainT P (intsT P d) fs o = some n → o ≤ n → (Op.eqFields e (a.map iV).toArray (b.map iV).toArray fs).run P w = .ok (decide (a.drop o = b.drop o)) w := by
        intro fs
        induction fs with
        | nil =>
          intro o ho _
          simp only [chainT] at ho
          cases ho
          simp only [Op.eqFields, Sem.run_pure]
          have e1 : a.drop n = [] := List.drop_eq_nil_iff.2 (by omega)
          have e2 : b.drop n = [] := List.drop_eq_nil_iff.2 (by omega)
          rw [e1, e2]; simp
        | cons f fs ih =>
          intro o ho hon
          simp only [chainT] at ho
          split at ho
          · rename_i k hk
            split at ho
            · rename_i hc
              obtain ⟨hnm, hoff, hsz⟩ := hc
              subst hoff
              have hle : f.offset + k ≤ n := by
                have mono : ∀ (fs : List Field) (o m : Nat), chainT P (intsT P d) fs o = some m → o ≤ m := by
                  intro fs
                  induction fs with
                  | nil => intro o m h; simp only [chainT] at h; cases h; exact Nat.le_refl _
                  | cons g gs ih =>
                    intro o m h
                    simp only [chainT] at h
                    split at h
                    · split at h
                      · have := ih _ _ h; omega
                      · cases h
                    · cases h
                exact mono _ _ _ ho
              have p1 := run_part (P := P) (w := w) (l := a) hsz ⟨d, hk⟩ (by omega : f.offset + k ≤ a.length)
              have p2 := run_part (P := P) (w := w) (l := b) hsz ⟨d, hk⟩ (by omega : f.offset + k ≤ b.length)
              have p3 := run_equalIn_ints d f.type k hk e hde ((a.drop f.offset).take k) ((b.drop f.offset).take k) (by simp; omega) (by simp; omega) w
              simp only [Op.eqFields, hnm, ne_eq, not_false_eq_true, if_true, Sem.run_bind, p1, p2, p3, Result.andThen_ok]
              have ihh := ih _ ho hle
              have hsplit : (decide (a.drop f.offset = b.drop f.offset)) = (decide ((a.drop f.offset).take k = (b.drop f.offset).take k) && decide (a.drop (f.offset + k) = b.drop (f.offset + k))) := by
                rw [Bool.eq_iff_iff]
                simp only [decide_eq_true_eq, Bool.and_eq_true]
                rw [take_drop_eq (n := k), List.drop_drop, List.drop_drop]
              rw [hsplit]
              cases hq : decide ((a.drop f.offset).take k = (b.drop f.offset).take k) with
              | true => simp only [Bool.not_true, Bool.false_eq_true, if_false, Bool.true_and]; exact ihh
              | false => simp only [Bool.not_false, if_true, Bool.false_and, Sem.run_pure]
            · cases ho
          · cases ho
      have := key fs.toList 0 h (by omega)
      simpa using this
    · rename_i len el hu
      split at h
      · rename_i k hk
        split at h
        · rename_i hsz
          cases h
          unfold ofInts
          rw [hu]
          simp only
          unfold Op.equalIn
          simp only [Sem.run_bind, run_underlying hu, Result.andThen_ok, sizeOf, typeInfo, run_program]
          obtain ⟨inf, h1, h2⟩ : ∃ inf, P.info? el = some inf ∧ inf.size = k := by
            cases h : P.info? el with
            | none => rw [h] at hsz; cases hsz
            | some inf => rw [h] at hsz; exact ⟨inf, rfl, by simpa using hsz⟩
          simp only [h1, Sem.run_pure, Result.andThen_ok, h2]
          rw [Std.Legacy.Range.forIn_eq_forIn_range']
          simp only [Std.Legacy.Range.size, Nat.sub_zero, Nat.add_sub_cancel, Nat.div_one]
          have key : ∀ (m i : Nat), i + m = len → (do
              let r ← forIn (List.range' i m) ((none, ()) : Option Bool × PUnit) (fun j r => do
                let x ← part el (a.map iV).toArray (j * k)
                let y ← part el (b.map iV).toArray (j * k)
                let q ← Op.equalIn e el x y
                if (!q) = true then pure (ForInStep.done (some false, ())) else pure (ForInStep.yield (none, ())))
              match r.fst with
              | some a => pure a
              | none => pure true : Sem Bool).run P w = .ok (decide (a.drop (i * k) = b.drop (i * k))) w := by
            intro m
            induction m with
            | zero =>
              intro i hi
              have e1 : a.drop (i * k) = [] := List.drop_eq_nil_iff.2 (by rw [ha, show i = len from (by omega)]; exact Nat.le_refl _)
              have e2 : b.drop (i * k) = [] := List.drop_eq_nil_iff.2 (by rw [hb, show i = len from (by omega)]; exact Nat.le_refl _)
              rw [e1, e2]
              simp
            | succ m ih =>
              intro i hi
              have hik : i * k + k ≤ len * k := by rw [← Nat.succ_mul]; exact Nat.mul_le_mul_right _ (by omega)
              have p1 := run_part (P := P) (w := w) (l := a) hsz ⟨d, hk⟩ (by omega : i * k + k ≤ a.length)
              have p2 := run_part (P := P) (w := w) (l := b) hsz ⟨d, hk⟩ (by omega : i * k + k ≤ b.length)
              have p3 := run_equalIn_ints d el k hk e hde ((a.drop (i * k)).take k) ((b.drop (i * k)).take k) (by simp; omega) (by simp; omega) w
              have ihh := ih (i + 1) (by omega)
              rw [Nat.succ_mul] at ihh
              have hsplit : (decide (a.drop (i * k) = b.drop (i * k))) = (decide ((a.drop (i * k)).take k = (b.drop (i * k)).take k) && decide (a.drop (i * k + k) = b.drop (i * k + k))) := by
                rw [Bool.eq_iff_iff]
                simp only [decide_eq_true_eq, Bool.and_eq_true]
                rw [take_drop_eq (n := k), List.drop_drop, List.drop_drop]
              rw [hsplit, List.range'_succ, List.forIn_cons]
              simp only [Sem.run_bind, p1, p2, p3, Result.andThen_ok]
              cases hq : decide ((a.drop (i * k)).take k = (b.drop (i * k)).take k) with
              | true =>
                simp only [Bool.not_true, Bool.false_eq_true, if_false, Bool.true_and, Sem.run_pure, Result.andThen_ok]
                simpa only [Sem.run_bind] using ihh
              | false => simp only [Bool.not_false, if_true, Bool.false_and, Sem.run_pure, Result.andThen_ok]
          have := key len 0 (by omega)
          simp only [Nat.zero_mul, List.drop_zero] at this
          rw [← this]
          simp only [Sem.run_bind]
          congr 1
          funext i st
          cases i.1 <;> rfl
        · cases h
      · cases h
    · cases h

/-- A type of n ints, an aggregate. -/
class EqI (P : Program) (t : Nat) (n : outParam Nat) : Prop where
  is : intsT P 4 t = some n
  agg : (match P.underlying t with | some (.struct _) => true | some (.array _ _) => true | _ => false) = true
  guard : P.eqGuardType P.depth t = false

theorem run_eqAgg {t n : Nat} [h : EqI P t n] {a b : List Int} (ha : a.length = n) (hb : b.length = n) (w : World) : (Op.equal t (.agg (a.map iV).toArray) (.agg (b.map iV).toArray)).run P w = .ok (decide (a = b)) w := by
  have h1 := run_equalIn_ints (P := P) 4 t n h.is 10000 (by omega) a b ha hb w
  have hg := h.agg
  unfold ofInts at h1
  split at hg
  · rename_i fs hu; rw [hu] at h1; exact h1
  · rename_i l e hu; rw [hu] at h1; exact h1
  · cases hg

theorem pu_neqA {K : Value → Prop} {t n : Nat} {x y : Operand} {a b : List Int} [h : EqI P t n] (ha : a.length = n) (hb : b.length = n) (hk : K (.bool (!decide (a = b)))) :
    Pu P (bopS .neq t x y (.agg (a.map iV).toArray) (.agg (b.map iV).toArray)) K :=
  ⟨_, fun w => by
    unfold bopS
    rw [Sem.run_bind, run_eqGuard_agg w .neq t x y _ _ h.guard]
    simp only [Result.andThen_ok, binOp, Sem.run_bind, run_eqAgg ha hb w, Sem.run_pure], hk⟩
theorem pu_eqA {K : Value → Prop} {t n : Nat} {x y : Operand} {a b : List Int} [h : EqI P t n] (ha : a.length = n) (hb : b.length = n) (hk : K (.bool (decide (a = b)))) :
    Pu P (bopS .eql t x y (.agg (a.map iV).toArray) (.agg (b.map iV).toArray)) K :=
  ⟨_, fun w => by
    unfold bopS
    rw [Sem.run_bind, run_eqGuard_agg w .eql t x y _ _ h.guard]
    simp only [Result.andThen_ok, binOp, Sem.run_bind, run_eqAgg ha hb w, Sem.run_pure], hk⟩

end

end Go.Proofs.YtlolaieolgmdnaaDoor
