import Derived.Test.YtlolaieolgmdnaaDoorSh1
import Derived.Test.YtlolaieolgmdnaaDoorProg
import Derived.KernelRfl
namespace Go.Proofs.YtlolaieolgmdnaaDoor
open Go.RowKit
set_option linter.unusedVariables false
set_option maxRecDepth 100000



def alumref04_SameSeen_w (K : Value → World → Prop) (t0 t1 : Value) (w : World) : Prop :=
  Bn Tryd.prog (Builtin.len_ #[46] 3 #[t0]) w fun t7 w_1 =>
  Bn Tryd.prog (Builtin.len_ #[46] 3 #[t1]) w_1 fun t9 w_2 =>
  Pu Tryd.prog (bopS Go.BinOp.neq 3 (Go.Operand.tmp 7) (Go.Operand.tmp 9) t7 t9) fun t10 =>
  condV t10
   (K (Go.Value.bool false) w_2)
   (∃ (I : Value → World → Prop) (μ : Value → World → Nat), I (Go.Value.int Go.IntKind.i64 0) w_2 ∧
   ∀ (u11 u12 u13 u14 u17 u18 u19 u20 u21 u22 u23 u24 u25 u4 u15 u16 u5 : Value) (w_3 : World), I u5 w_3 →
   Bn Tryd.prog (Builtin.len_ #[46] 3 #[t0]) w_3 fun t13 w_4 =>
   Pu Tryd.prog (bopS Go.BinOp.lss 3 (Go.Operand.tmp 11) (Go.Operand.tmp 13) u5 t13) fun t14 =>
   condV t14
    (∃ S R : World → Prop, S w_4.drew ∧ (∀ w_5, S w_5 → R w_5) ∧
   Pu Tryd.prog (Instr.indexAt 46 t0 u5) fun t19 =>
   Pu Tryd.prog (Instr.indexAt 46 t1 u5) fun t23 =>
   ∃ t20, (∀ w_6, R w_6 → (Instr.loadAt 51 t19).run Tryd.prog w_6 = .ok t20 w_6) ∧
   ∃ t24, (∀ w_7, R w_7 → (Instr.loadAt 51 t23).run Tryd.prog w_7 = .ok t24 w_7) ∧
   Pu Tryd.prog (bopS Go.BinOp.neq 51 (Go.Operand.tmp 20) (Go.Operand.tmp 24) t20 t24) fun t25 =>
   ∀ w_8, S w_8 →
   condV t25
    (K (Go.Value.bool false) w_8)
    (Pu Tryd.prog (bopS Go.BinOp.add 3 (Go.Operand.tmp 15) (Go.Operand.const (Go.Value.int Go.IntKind.i64 1)) u5 (Go.Value.int Go.IntKind.i64 1)) fun t16 =>
   I t16 w_8 ∧ μ t16 w_8 < μ u5 w_3))
    (K (Go.Value.bool true) w_4))

def alumref04_SameSeen_ann : Ann :=
  { loop := fun r => match r with | 4 => [5] | _ => [],
    plan := fun r => match r with | 6 => (.pure 0 (.pure 1 (.pure 2 (.pure 4 (.pure 5 (.pure 6 (.load 3 [3, 8] (.load 7 [7, 8] (.pure 8 .done))))))))) | _ => .done,
    hold := fun r => match r with | 6 => (fun i => match i with | 7 => true | _ => false) | _ => fun _ => false,
    join := fun _ => none }

theorem alumref04_SameSeen_ok {K : Value → World → Prop} {t0 t1 : Value} {w : World} (h : alumref04_SameSeen_w K t0 t1 w) : Calls Tryd.prog 18 #[t0, t1] w (Rt K) :=
  calls_of_wpC (A := alumref04_SameSeen_ann) (c := Tryd.f18.body.getD .skip) (args := [t0, t1]) mixed Tryd.func18 rfl (by kernel_rfl) (Eq.mp (by kernel_rfl) h)

theorem alumref04_SameSeen_en : enters Tryd.prog 18 = true := by kernel_rfl

theorem alumref04_SameSeen_cl {K : Value → World → Prop} {t0 t1 : Value} {w : World} (h : Calls Tryd.prog 18 #[t0, t1] w (Rt K)) : Cl Tryd.prog 18 #[t0, t1] w K := ⟨alumref04_SameSeen_en, h⟩

end Go.Proofs.YtlolaieolgmdnaaDoor
