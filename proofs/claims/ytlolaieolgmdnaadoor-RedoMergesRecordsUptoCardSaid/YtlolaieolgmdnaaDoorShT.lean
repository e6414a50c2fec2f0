import Derived.Test.YtlolaieolgmdnaaDoorSh1
import Derived.Test.YtlolaieolgmdnaaDoorProg
import Derived.KernelRfl
namespace Go.Proofs.YtlolaieolgmdnaaDoor
open Go.RowKit
set_option linter.unusedVariables false
set_option maxRecDepth 100000



def redo_View_Load_t2_w (K : List Value → World → Prop) (t0 t1 t2 t3 t4 t5 t6 t7 t8 t9 t10 t11 t12 t13 t14 t15 t16 t17 t18 t19 t20 t21 t22 t23 t24 t25 t26 t27 t28 t29 : Value) (w : World) : Prop :=
  ∃ S R : World → Prop, S w.drew ∧ (∀ w_1, S w_1 → R w_1) ∧
  Pu Tryd.prog (nilC t0) fun t22_1 =>
  Pu Tryd.prog (Instr.fieldAt 70 t22_1 0) fun t23_1 =>
  Pu Tryd.prog (Instr.fieldAt 68 t23_1 0) fun t24_1 =>
  ∃ t25_1, (∀ w_2, R w_2 → (Instr.loadAt 25 t24_1).run Tryd.prog w_2 = .ok t25_1 w_2) ∧
  ∃ t26_1, (∀ w_3, R w_3 → (Instr.loadAt 3 t3).run Tryd.prog w_3 = .ok t26_1 w_3) ∧
  (∀ w_4, S w_4 →
  Cl Tryd.prog 15 #[t25_1, t26_1] w_4 fun t27_1 w_5 =>
  ∃ S_1 R_1 : World → Prop, S_1 w_5 ∧ (∀ w_7, S_1 w_7 → R_1 w_7) ∧ True ∧
  Pu Tryd.prog (Instr.extract t27_1 0) fun t28_1 =>
  Pu Tryd.prog (Instr.extract t27_1 1) fun t29_1 =>
  (∀ w_8, S_1 w_8 →
  Bn Tryd.prog (unitV (Instr.storeAt 3 t4 t28_1)) w_8 fun _ w_9 =>
  ∃ S_2 R_2 : World → Prop, S_2 w_9 ∧ (∀ w_11, S_2 w_11 → R_2 w_11) ∧ True ∧
  (∀ w_12, S_2 w_12 →
  Bn Tryd.prog (unitV (Instr.storeAt 27 t5 t29_1)) w_12 fun _ w_13 =>
  ∃ S_3 R_3 : World → Prop, S_3 w_13 ∧ (∀ w_15, S_3 w_15 → R_3 w_15) ∧ True ∧
  ∀ w_16, S_3 w_16 →
  K [t0, t1, t2, t3, t4, t5, t6, t7, t8, t9, t10, t11, t12, t13, t14, t15, t16, t17, t18, t19, t20, t0, t22_1, t23_1, t24_1, t25_1, t26_1, t27_1, t28_1, t29_1] w_16) ∧
  True) ∧
  True) ∧
  True

def redo_View_Load_t2_ann : Ann :=
  { loop := fun _ => [],
    plan := fun r => match r with | 5 => (.pure 0 (.pure 1 (.pure 2 (.pure 3 (.load 4 [4, 6, 7, 8, 9, 10] (.load 5 [5, 6, 7, 8, 9, 10] (.alt 6 (.pure 7 (.pure 8 (.alt 9 (.alt 10 .done .stop) .stop))) .stop))))))) | _ => .done,
    hold := fun r => match r with | 5 => (fun i => match i with | 5 => true | _ => false) | _ => fun _ => false,
    join := fun _ => none }

theorem redo_View_Load_t2_ok {K : List Value → World → Prop} {t0 t1 t2 t3 t4 t5 t6 t7 t8 t9 t10 t11 t12 t13 t14 t15 t16 t17 t18 t19 t20 t21 t22 t23 t24 t25 t26 t27 t28 t29 : Value} {w : World} (h : redo_View_Load_t2_w K t0 t1 t2 t3 t4 t5 t6 t7 t8 t9 t10 t11 t12 t13 t14 t15 t16 t17 t18 t19 t20 t21 t22 t23 t24 t25 t26 t27 t28 t29 w) : wpC Tryd.prog redo_View_Load_t2_ann (seqT (seqT (Tryd.f14.body.getD .skip))) (onRet K) [t0, t1, t2, t3, t4, t5, t6, t7, t8, t9, t10, t11, t12, t13, t14, t15, t16, t17, t18, t19, t20, t21, t22, t23, t24, t25, t26, t27, t28, t29] w :=
  Eq.mp (by kernel_rfl) h

end Go.Proofs.YtlolaieolgmdnaaDoor
