/-
  '==' between two arrays of eight numbers.
-/
import Derived.Test.YtmhllnnchhcamaaDoorCodeQ
namespace Go.Proofs.YtmhllnnchhcamaaDoor
open Go.RowKit

def eqL (l m : W8) : Bool := l.a0 == m.a0 && (l.a1 == m.a1 && (l.a2 == m.a2 && (l.a3 == m.a3 && (l.a4 == m.a4 && (l.a5 == m.a5 && (l.a6 == m.a6 && l.a7 == m.a7))))))

theorem run_part8 (l : W8) (k : Nat) (h : k < 8) (w : World) : (part 3 #[.int .i64 l.a0, .int .i64 l.a1, .int .i64 l.a2, .int .i64 l.a3, .int .i64 l.a4, .int .i64 l.a5, .int .i64 l.a6, .int .i64 l.a7] k).run Tryd.prog w = .ok (.int .i64 (l.get k)) w := by
  rcases lt8 h with rfl | rfl | rfl | rfl | rfl | rfl | rfl | rfl <;> kernel_rfl

theorem run_eq8 (d : Nat) (l m : W8) (w : World) : (Op.equalIn (d + 2) 22 (.agg #[.int .i64 l.a0, .int .i64 l.a1, .int .i64 l.a2, .int .i64 l.a3, .int .i64 l.a4, .int .i64 l.a5, .int .i64 l.a6, .int .i64 l.a7]) (.agg #[.int .i64 m.a0, .int .i64 m.a1, .int .i64 m.a2, .int .i64 m.a3, .int .i64 m.a4, .int .i64 m.a5, .int .i64 m.a6, .int .i64 m.a7])).run Tryd.prog w = .ok (eqL l m) w := by
  have hi : ∀ (a b : Int) (w : World), (Op.equalIn (d + 1) 3 (.int .i64 a) (.int .i64 b)).run Tryd.prog w = .ok (a == b) w := fun a b w => run_equalIn_int w d 3 .i64 .i64 a b Tryd.underlying3
  have hs : ∀ w, (sizeOf 3).run Tryd.prog w = .ok 1 w := fun w => by kernel_rfl
  have p0 := run_part8 l 0 (by decide); have p1 := run_part8 l 1 (by decide); have p2 := run_part8 l 2 (by decide); have p3 := run_part8 l 3 (by decide)
  have p4 := run_part8 l 4 (by decide); have p5 := run_part8 l 5 (by decide); have p6 := run_part8 l 6 (by decide); have p7 := run_part8 l 7 (by decide)
  have q0 := run_part8 m 0 (by decide); have q1 := run_part8 m 1 (by decide); have q2 := run_part8 m 2 (by decide); have q3 := run_part8 m 3 (by decide)
  have q4 := run_part8 m 4 (by decide); have q5 := run_part8 m 5 (by decide); have q6 := run_part8 m 6 (by decide); have q7 := run_part8 m 7 (by decide)
  rw [Op.equalIn]
  simp only [Sem.run_bind, run_underlying Tryd.underlying22, Result.andThen_ok, hs]
  simp only [Std.Legacy.Range.forIn_eq_forIn_range', Std.Legacy.Range.size, Nat.sub_zero, Nat.add_sub_cancel, Nat.div_one, List.range', List.forIn_cons, List.forIn_nil]
  simp only [Nat.mul_one, Nat.zero_add, Nat.reduceAdd]
  cases h0 : l.a0 == m.a0 with
  | false => simp [Sem.run_bind, Sem.run_ite, p0, q0, hi, eqL, W8.get, h0]
  | true =>
    cases h1 : l.a1 == m.a1 with
    | false => simp [Sem.run_bind, Sem.run_ite, p0, q0, p1, q1, hi, eqL, W8.get, h0, h1]
    | true =>
      cases h2 : l.a2 == m.a2 with
      | false => simp [Sem.run_bind, Sem.run_ite, p0, q0, p1, q1, p2, q2, hi, eqL, W8.get, h0, h1, h2]
      | true =>
        cases h3 : l.a3 == m.a3 with
        | false => simp [Sem.run_bind, Sem.run_ite, p0, q0, p1, q1, p2, q2, p3, q3, hi, eqL, W8.get, h0, h1, h2, h3]
        | true =>
          cases h4 : l.a4 == m.a4 with
          | false => simp [Sem.run_bind, Sem.run_ite, p0, q0, p1, q1, p2, q2, p3, q3, p4, q4, hi, eqL, W8.get, h0, h1, h2, h3, h4]
          | true =>
            cases h5 : l.a5 == m.a5 with
            | false => simp [Sem.run_bind, Sem.run_ite, p0, q0, p1, q1, p2, q2, p3, q3, p4, q4, p5, q5, hi, eqL, W8.get, h0, h1, h2, h3, h4, h5]
            | true =>
              cases h6 : l.a6 == m.a6 with
              | false => simp [Sem.run_bind, Sem.run_ite, p0, q0, p1, q1, p2, q2, p3, q3, p4, q4, p5, q5, p6, q6, hi, eqL, W8.get, h0, h1, h2, h3, h4, h5, h6]
              | true =>
                cases h7 : l.a7 == m.a7 with
                | false => simp [Sem.run_bind, Sem.run_ite, p0, q0, p1, q1, p2, q2, p3, q3, p4, q4, p5, q5, p6, q6, p7, q7, hi, eqL, W8.get, h0, h1, h2, h3, h4, h5, h6, h7]
                | true => simp [Sem.run_bind, Sem.run_ite, p0, q0, p1, q1, p2, q2, p3, q3, p4, q4, p5, q5, p6, q6, p7, q7, hi, eqL, W8.get, h0, h1, h2, h3, h4, h5, h6, h7]

theorem eqL_iff {l m : W8} : eqL l m = true ↔ l = m := by
  unfold eqL
  cases l; cases m
  simp

theorem eqL_refl (l : W8) : eqL l l = true := eqL_iff.2 rfl

/-- '==' between two lines. -/
theorem eq8 (l m : W8) (w : World) : (Op.equalIn 10000 22 (.agg #[.int .i64 l.a0, .int .i64 l.a1, .int .i64 l.a2, .int .i64 l.a3, .int .i64 l.a4, .int .i64 l.a5, .int .i64 l.a6, .int .i64 l.a7]) (.agg #[.int .i64 m.a0, .int .i64 m.a1, .int .i64 m.a2, .int .i64 m.a3, .int .i64 m.a4, .int .i64 m.a5, .int .i64 m.a6, .int .i64 m.a7])).run Tryd.prog w = .ok (eqL l m) w := run_eq8 9998 l m w

end Go.Proofs.YtmhllnnchhcamaaDoor
