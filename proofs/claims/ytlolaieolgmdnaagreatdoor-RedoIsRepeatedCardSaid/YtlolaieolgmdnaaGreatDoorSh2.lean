import Derived.Test.YtlolaieolgmdnaaGreatDoorSh1
import Derived.Test.YtlolaieolgmdnaaGreatDoorProg
import Derived.KernelRfl
namespace Go.Proofs.YtlolaieolgmdnaaGreatDoor
open Go.RowKit
set_option linter.unusedVariables false
set_option maxRecDepth 100000



def alumref03_Check_w (K : Value → World → Prop) (t0 t1 : Value) (w : World) : Prop :=
  Bn Tryz.prog (Instr.box 80 t0) w fun t2 w_1 =>
  Bn Tryz.prog (Instr.loadAt 80 t2) w_1 fun t8 w_2 =>
  Cl Tryz.prog 109 #[t8, t1] w_2 fun t10 w_3 =>
  Bn Tryz.prog (Instr.alloc 159 true (Value.tuple #[])) w_3 fun t7 w_4 =>
  Bn Tryz.prog (unitV (Instr.storeAt 159 t7 t10)) w_4 fun _ w_5 =>
  ∃ S R : World → Prop, S w_5.drew ∧ (∀ w_6, S w_6 → R w_6) ∧
  Pu Tryz.prog (Instr.fieldAt 159 t7 0) fun t11 =>
  Pu Tryz.prog (Instr.fieldAt 159 t7 1) fun t13 =>
  Pu Tryz.prog (Instr.fieldAt 159 t7 2) fun t15 =>
  ∃ t12, (∀ w_7, R w_7 → (Instr.loadAt 3 t11).run Tryz.prog w_7 = .ok t12 w_7) ∧
  ∃ t14, (∀ w_8, R w_8 → (Instr.loadAt 3 t13).run Tryz.prog w_8 = .ok t14 w_8) ∧
  ∃ t16, (∀ w_9, R w_9 → (Instr.loadAt 3 t15).run Tryz.prog w_9 = .ok t16 w_9) ∧
  ∀ w_10, S w_10 →
  K (Value.tuple #[t12, t14, t16]) w_10

def alumref03_Check_ann : Ann :=
  { loop := fun _ => [],
    plan := fun r => match r with | 2 => (.pure 0 (.pure 2 (.pure 4 (.load 1 [1, 6, 7, 8] (.pure 6 (.load 3 [3, 7, 8] (.pure 7 (.load 5 [5, 8] (.pure 8 .done))))))))) | _ => .done,
    hold := fun r => match r with | 2 => (fun i => match i with | 3 => true | 5 => true | _ => false) | _ => fun _ => false,
    join := fun _ => none }

theorem alumref03_Check_ok {K : Value → World → Prop} {t0 t1 : Value} {w : World} (h : alumref03_Check_w K t0 t1 w) : Calls Tryz.prog 93 #[t0, t1] w (Rt K) :=
  calls_of_wpC (A := alumref03_Check_ann) (c := Tryz.f93.body.getD .skip) (args := [t0, t1]) mixed Tryz.func93 rfl (by kernel_rfl) (Eq.mp (by kernel_rfl) h)

theorem alumref03_Check_en : enters Tryz.prog 93 = true := by kernel_rfl

theorem alumref03_Check_cl {K : Value → World → Prop} {t0 t1 : Value} {w : World} (h : Calls Tryz.prog 93 #[t0, t1] w (Rt K)) : Cl Tryz.prog 93 #[t0, t1] w K := ⟨alumref03_Check_en, h⟩

def alumref04_word_w (K : Value → World → Prop) (t0 : Value) (w : World) : Prop :=
  Pu Tryz.prog (bopS Go.BinOp.geq 3 (Go.Operand.tmp 3) (Go.Operand.const (Go.Value.int Go.IntKind.i64 0)) t0 (Go.Value.int Go.IntKind.i64 0)) fun t4 =>
  condV t4
  (Pu Tryz.prog (bopS Go.BinOp.leq 3 (Go.Operand.tmp 6) (Go.Operand.const (Go.Value.int Go.IntKind.i64 1099511627775)) t0 (Go.Value.int Go.IntKind.i64 1099511627775)) fun t7 =>
  K t7 w)
  (K (Go.Value.bool false) w)

def alumref04_word_ann : Ann :=
  { loop := fun _ => [],
    plan := fun _ => .done,
    hold := fun _ => fun _ => false,
    join := fun _ => none }

theorem alumref04_word_ok {K : Value → World → Prop} {t0 : Value} {w : World} (h : alumref04_word_w K t0 w) : Calls Tryz.prog 92 #[t0] w (Rt K) :=
  calls_of_wpC (A := alumref04_word_ann) (c := Tryz.f92.body.getD .skip) (args := [t0]) mixed Tryz.func92 rfl (by kernel_rfl) (Eq.mp (by kernel_rfl) h)

theorem alumref04_word_en : enters Tryz.prog 92 = true := by kernel_rfl

theorem alumref04_word_cl {K : Value → World → Prop} {t0 : Value} {w : World} (h : Calls Tryz.prog 92 #[t0] w (Rt K)) : Cl Tryz.prog 92 #[t0] w K := ⟨alumref04_word_en, h⟩

def alumref04_Words_w (K : Value → World → Prop) (t0 : Value) (w : World) : Prop :=
  Bn Tryz.prog (Instr.box 80 t0) w fun t1 w_1 =>
  ∃ (I : Value → World → Prop) (μ : Value → World → Nat), I (Go.Value.int Go.IntKind.i64 0) w_1 ∧
   ∀ (u4 u5 u8 u9 u10 u11 u12 u2 u6 u7 u3 : Value) (w_2 : World), I u3 w_2 →
   Pu Tryz.prog (bopS Go.BinOp.lss 3 (Go.Operand.tmp 4) (Go.Operand.const (Go.Value.int Go.IntKind.i64 8)) u3 (Go.Value.int Go.IntKind.i64 8)) fun t5 =>
   condV t5
    (Pu Tryz.prog (Instr.indexAt 80 t1 u3) fun t9 =>
   Bn Tryz.prog (Instr.loadAt 3 t9) w_2 fun t10 w_3 =>
   Cl Tryz.prog 92 #[t10] w_3 fun t11 w_4 =>
   Pu Tryz.prog (Op.unary Go.UnOp.not t11) fun t12 =>
   condV t12
    (K (Go.Value.bool false) w_4)
    (Pu Tryz.prog (bopS Go.BinOp.add 3 (Go.Operand.tmp 6) (Go.Operand.const (Go.Value.int Go.IntKind.i64 1)) u3 (Go.Value.int Go.IntKind.i64 1)) fun t7 =>
   I t7 w_4 ∧ μ t7 w_4 < μ u3 w_2))
    (K (Go.Value.bool true) w_2)

def alumref04_Words_ann : Ann :=
  { loop := fun r => match r with | 2 => [3] | _ => [],
    plan := fun _ => .done,
    hold := fun _ => fun _ => false,
    join := fun _ => none }

theorem alumref04_Words_ok {K : Value → World → Prop} {t0 : Value} {w : World} (h : alumref04_Words_w K t0 w) : Calls Tryz.prog 84 #[t0] w (Rt K) :=
  calls_of_wpC (A := alumref04_Words_ann) (c := Tryz.f84.body.getD .skip) (args := [t0]) mixed Tryz.func84 rfl (by kernel_rfl) (Eq.mp (by kernel_rfl) h)

theorem alumref04_Words_en : enters Tryz.prog 84 = true := by kernel_rfl

theorem alumref04_Words_cl {K : Value → World → Prop} {t0 : Value} {w : World} (h : Calls Tryz.prog 84 #[t0] w (Rt K)) : Cl Tryz.prog 84 #[t0] w K := ⟨alumref04_Words_en, h⟩

def alumref04_Right_w (K : Value → World → Prop) (t0 : Value) (w : World) : Prop :=
  ∃ (I : Value → World → Prop) (μ : Value → World → Nat), I (Go.Value.int Go.IntKind.i64 0) w ∧
   ∀ (u4 u5 u6 u7 u10 u11 u12 u13 u14 u15 u16 u17 u18 u19 u20 u21 u22 u23 u24 u25 u26 u27 u28 u29 u30 u31 u32 u2 u8 u9 u3 : Value) (w_1 : World), I u3 w_1 →
   Bn Tryz.prog (Builtin.len_ #[23] 3 #[t0]) w_1 fun t6 w_2 =>
   Pu Tryz.prog (bopS Go.BinOp.lss 3 (Go.Operand.tmp 4) (Go.Operand.tmp 6) u3 t6) fun t7 =>
   condV t7
    (Pu Tryz.prog (Instr.indexAt 23 t0 u3) fun t12 =>
   Pu Tryz.prog (Instr.fieldAt 82 t12 0) fun t13 =>
   Bn Tryz.prog (Instr.loadAt 80 t13) w_2 fun t14 w_3 =>
   Cl Tryz.prog 84 #[t14] w_3 fun t15 w_4 =>
   Pu Tryz.prog (Op.unary Go.UnOp.not t15) fun t16 =>
   condV t16
   (K (Go.Value.bool false) w_4)
   (Pu Tryz.prog (Instr.indexAt 23 t0 u3) fun t20 =>
   Pu Tryz.prog (Instr.fieldAt 82 t20 1) fun t21 =>
   Bn Tryz.prog (Instr.loadAt 3 t21) w_4 fun t22 w_5 =>
   Pu Tryz.prog (bopS Go.BinOp.lss 3 (Go.Operand.tmp 22) (Go.Operand.const (Go.Value.int Go.IntKind.i64 0)) t22 (Go.Value.int Go.IntKind.i64 0)) fun t23 =>
   condV t23
   (K (Go.Value.bool false) w_5)
   (Pu Tryz.prog (Instr.indexAt 23 t0 u3) fun t28 =>
   Pu Tryz.prog (Instr.fieldAt 82 t28 1) fun t29 =>
   Bn Tryz.prog (Instr.loadAt 3 t29) w_5 fun t30 w_6 =>
   Pu Tryz.prog (bopS Go.BinOp.gtr 3 (Go.Operand.tmp 30) (Go.Operand.const (Go.Value.int Go.IntKind.i64 1023)) t30 (Go.Value.int Go.IntKind.i64 1023)) fun t31 =>
   condV t31
    (K (Go.Value.bool false) w_6)
    (Pu Tryz.prog (bopS Go.BinOp.add 3 (Go.Operand.tmp 8) (Go.Operand.const (Go.Value.int Go.IntKind.i64 1)) u3 (Go.Value.int Go.IntKind.i64 1)) fun t9 =>
   I t9 w_6 ∧ μ t9 w_6 < μ u3 w_1))))
    (Bn Tryz.prog (Builtin.len_ #[23] 3 #[t0]) w_2 fun t34 w_7 =>
  Pu Tryz.prog (bopS Go.BinOp.geq 3 (Go.Operand.tmp 34) (Go.Operand.const (Go.Value.int Go.IntKind.i64 1)) t34 (Go.Value.int Go.IntKind.i64 1)) fun t35 =>
  condV t35
  (Bn Tryz.prog (Builtin.len_ #[23] 3 #[t0]) w_7 fun t38 w_8 =>
  Pu Tryz.prog (bopS Go.BinOp.leq 3 (Go.Operand.tmp 38) (Go.Operand.const (Go.Value.int Go.IntKind.i64 4096)) t38 (Go.Value.int Go.IntKind.i64 4096)) fun t39 =>
  K t39 w_8)
  (K (Go.Value.bool false) w_7))

def alumref04_Right_ann : Ann :=
  { loop := fun r => match r with | 2 => [3] | _ => [],
    plan := fun _ => .done,
    hold := fun _ => fun _ => false,
    join := fun _ => none }

theorem alumref04_Right_ok {K : Value → World → Prop} {t0 : Value} {w : World} (h : alumref04_Right_w K t0 w) : Calls Tryz.prog 46 #[t0] w (Rt K) :=
  calls_of_wpC (A := alumref04_Right_ann) (c := Tryz.f46.body.getD .skip) (args := [t0]) mixed Tryz.func46 rfl (by kernel_rfl) (Eq.mp (by kernel_rfl) h)

theorem alumref04_Right_en : enters Tryz.prog 46 = true := by kernel_rfl

theorem alumref04_Right_cl {K : Value → World → Prop} {t0 : Value} {w : World} (h : Calls Tryz.prog 46 #[t0] w (Rt K)) : Cl Tryz.prog 46 #[t0] w K := ⟨alumref04_Right_en, h⟩

def alumref04_From_w (K : Value → World → Prop) (t0 : Value) (w : World) : Prop :=
  Pu Tryz.prog (Instr.build 33 #[]) fun t6 =>
  Bn Tryz.prog (Instr.box 33 t6) w fun t7 w_1 =>
  Cl Tryz.prog 46 #[t0] w_1 fun t9 w_2 =>
  ∃ (I : Value → World → Prop) (μ : Value → World → Nat), I (Go.Value.int Go.IntKind.i64 0) w_2 ∧
   ∀ (u10 u11 u12 u13 u14 u15 u16 u19 u20 u21 u22 u23 u24 u25 u26 u27 u28 u29 u30 u31 u32 u33 u34 u35 u36 u37 u38 u17 u18 u5 : Value) (w_3 : World), I u5 w_3 →
   Bn Tryz.prog (Builtin.len_ #[23] 3 #[t0]) w_3 fun t12 w_4 =>
   Pu Tryz.prog (bopS Go.BinOp.lss 3 (Go.Operand.tmp 10) (Go.Operand.tmp 12) u5 t12) fun t13 =>
   condV t13
   (condV t9
    (∃ S R : World → Prop, S w_4.drew ∧ (∀ w_5, S w_5 → R w_5) ∧
   Pu Tryz.prog (nilC t7) fun t21 =>
   Pu Tryz.prog (Instr.fieldAt 33 t21 0) fun t22 =>
   Pu Tryz.prog (Instr.indexAt 23 t0 u5) fun t26 =>
   Pu Tryz.prog (Instr.fieldAt 82 t26 0) fun t27 =>
   Pu Tryz.prog (Instr.indexAt 23 t0 u5) fun t31 =>
   Pu Tryz.prog (Instr.fieldAt 82 t31 1) fun t32 =>
   ∃ t23, (∀ w_6, R w_6 → (Instr.loadAt 30 t22).run Tryz.prog w_6 = .ok t23 w_6) ∧
   ∃ t28, (∀ w_7, R w_7 → (Instr.loadAt 80 t27).run Tryz.prog w_7 = .ok t28 w_7) ∧
   ∃ t33, (∀ w_8, R w_8 → (Instr.loadAt 3 t32).run Tryz.prog w_8 = .ok t33 w_8) ∧
   Pu Tryz.prog (Instr.build 91 #[(0, t28), (1, t33)]) fun t34 =>
   (∀ w_9, S w_9 →
   Bn Tryz.prog (Instr.buildSlice 30 1 #[(0, t34)]) w_9 fun t35 w_10 =>
   ∃ S_1 R_1 : World → Prop, S_1 w_10 ∧ (∀ w_12, S_1 w_12 → R_1 w_12) ∧ (∀ w_11, R_1 w_11 → R w_11) ∧
   (∀ w_13, S_1 w_13 →
   Bn Tryz.prog (Builtin.append_ #[30, 30] 30 #[t23, t35]) w_13 fun t36 w_14 =>
   ∃ S_2 R_2 : World → Prop, S_2 w_14 ∧ (∀ w_16, S_2 w_16 → R_2 w_16) ∧ True ∧
   Pu Tryz.prog (nilC t7) fun t37 =>
   Pu Tryz.prog (Instr.fieldAt 33 t37 0) fun t38 =>
   (∀ w_17, S_2 w_17 →
   Bn Tryz.prog (unitV (Instr.storeAt 30 t38 t36)) w_17 fun _ w_18 =>
   ∃ S_3 R_3 : World → Prop, S_3 w_18 ∧ (∀ w_20, S_3 w_20 → R_3 w_20) ∧ True ∧
   ∀ w_21, S_3 w_21 →
   Pu Tryz.prog (bopS Go.BinOp.add 3 (Go.Operand.tmp 17) (Go.Operand.const (Go.Value.int Go.IntKind.i64 1)) u5 (Go.Value.int Go.IntKind.i64 1)) fun t18 =>
   I t18 w_21 ∧ μ t18 w_21 < μ u5 w_3) ∧
   True) ∧
   True) ∧
   True)
    (K t7 w_4))
   (K t7 w_4)

def alumref04_From_ann : Ann :=
  { loop := fun r => match r with | 4 => [5] | _ => [],
    plan := fun r => match r with | 6 => (.pure 0 (.pure 1 (.pure 2 (.pure 3 (.pure 5 (.pure 6 (.pure 7 (.pure 8 (.pure 10 (.pure 11 (.pure 12 (.pure 13 (.load 4 [4, 17, 18, 19, 20] (.load 9 [9, 15, 16, 17, 18, 19, 20] (.load 14 [14, 15, 16, 17, 18, 19, 20] (.pure 15 (.alt 16 (.alt 17 (.pure 18 (.pure 19 (.alt 20 .done .stop))) .stop) .stop))))))))))))))))) | _ => .done,
    hold := fun r => match r with | 6 => (fun i => match i with | 9 => true | 14 => true | 15 => true | 16 => true | _ => false) | _ => fun _ => false,
    join := fun _ => none }

theorem alumref04_From_ok {K : Value → World → Prop} {t0 : Value} {w : World} (h : alumref04_From_w K t0 w) : Calls Tryz.prog 7 #[t0] w (Rt K) :=
  calls_of_wpC (A := alumref04_From_ann) (c := Tryz.f7.body.getD .skip) (args := [t0]) mixed Tryz.func7 rfl (by kernel_rfl) (Eq.mp (by kernel_rfl) h)

theorem alumref04_From_en : enters Tryz.prog 7 = true := by kernel_rfl

theorem alumref04_From_cl {K : Value → World → Prop} {t0 : Value} {w : World} (h : Calls Tryz.prog 7 #[t0] w (Rt K)) : Cl Tryz.prog 7 #[t0] w K := ⟨alumref04_From_en, h⟩

def alumref04_Memory_has_w (K : Value → World → Prop) (t0 t1 : Value) (w : World) : Prop :=
  Pu Tryz.prog (bopS Go.BinOp.geq 3 (Go.Operand.tmp 5) (Go.Operand.const (Go.Value.int Go.IntKind.i64 0)) t1 (Go.Value.int Go.IntKind.i64 0)) fun t6 =>
  condV t6
  (Pu Tryz.prog (nilC t0) fun t10 =>
  Pu Tryz.prog (Instr.fieldAt 33 t10 0) fun t11 =>
  Bn Tryz.prog (Instr.loadAt 30 t11) w fun t12 w_1 =>
  Bn Tryz.prog (Builtin.len_ #[30] 3 #[t12]) w_1 fun t13 w_2 =>
  Pu Tryz.prog (bopS Go.BinOp.lss 3 (Go.Operand.tmp 8) (Go.Operand.tmp 13) t1 t13) fun t14 =>
  K t14 w_2)
  (K (Go.Value.bool false) w)

def alumref04_Memory_has_ann : Ann :=
  { loop := fun _ => [],
    plan := fun _ => .done,
    hold := fun _ => fun _ => false,
    join := fun _ => none }

theorem alumref04_Memory_has_ok {K : Value → World → Prop} {t0 t1 : Value} {w : World} (h : alumref04_Memory_has_w K t0 t1 w) : Calls Tryz.prog 89 #[t0, t1] w (Rt K) :=
  calls_of_wpC (A := alumref04_Memory_has_ann) (c := Tryz.f89.body.getD .skip) (args := [t0, t1]) mixed Tryz.func89 rfl (by kernel_rfl) (Eq.mp (by kernel_rfl) h)

theorem alumref04_Memory_has_en : enters Tryz.prog 89 = true := by kernel_rfl

theorem alumref04_Memory_has_cl {K : Value → World → Prop} {t0 t1 : Value} {w : World} (h : Calls Tryz.prog 89 #[t0, t1] w (Rt K)) : Cl Tryz.prog 89 #[t0, t1] w K := ⟨alumref04_Memory_has_en, h⟩

def alumref04_Memory_State_w (K : Value → World → Prop) (t0 t1 : Value) (w : World) : Prop :=
  Cl Tryz.prog 89 #[t0, t1] w fun t10 w_1 =>
  Pu Tryz.prog (Op.unary Go.UnOp.not t10) fun t11 =>
  condV t11
   (K (Go.Value.int Go.IntKind.i64 (-1)) w_1)
   (∃ S R : World → Prop, S w_1.drew ∧ (∀ w_2, S w_2 → R w_2) ∧
  Pu Tryz.prog (nilC t0) fun t14 =>
  Pu Tryz.prog (Instr.fieldAt 33 t14 0) fun t15 =>
  Pu Tryz.prog (nilC t0) fun t22 =>
  Pu Tryz.prog (Instr.fieldAt 33 t22 0) fun t23 =>
  ∃ t16, (∀ w_3, R w_3 → (Instr.loadAt 30 t15).run Tryz.prog w_3 = .ok t16 w_3) ∧
  Pu Tryz.prog (Instr.indexAt 30 t16 t1) fun t18 =>
  Pu Tryz.prog (Instr.fieldAt 91 t18 0) fun t19 =>
  ∃ t20, (∀ w_4, R w_4 → (Instr.loadAt 80 t19).run Tryz.prog w_4 = .ok t20 w_4) ∧
  ∃ t24, (∀ w_5, R w_5 → (Instr.loadAt 30 t23).run Tryz.prog w_5 = .ok t24 w_5) ∧
  Pu Tryz.prog (Instr.indexAt 30 t24 t1) fun t26 =>
  Pu Tryz.prog (Instr.fieldAt 91 t26 1) fun t27 =>
  ∃ t28, (∀ w_6, R w_6 → (Instr.loadAt 3 t27).run Tryz.prog w_6 = .ok t28 w_6) ∧
  (∀ w_7, S w_7 →
  Cl Tryz.prog 93 #[t20, t28] w_7 fun t29 w_8 =>
  ∃ S_1 R_1 : World → Prop, S_1 w_8 ∧ (∀ w_10, S_1 w_10 → R_1 w_10) ∧ True ∧
  Pu Tryz.prog (Instr.extract t29 0) fun t30 =>
  Pu Tryz.prog (Instr.extract t29 1) fun t31 =>
  Pu Tryz.prog (Instr.extract t29 2) fun t32 =>
  ∀ w_11, S_1 w_11 →
  K t30 w_11) ∧
  True)

def alumref04_Memory_State_ann : Ann :=
  { loop := fun _ => [],
    plan := fun r => match r with | 3 => (.pure 0 (.pure 1 (.pure 2 (.pure 4 (.pure 8 (.pure 9 (.pure 10 (.pure 12 (.load 3 [3, 5, 6, 7, 16, 17, 18, 19, 20, 21, 22, 23] (.pure 5 (.pure 6 (.load 7 [7, 16, 17, 18, 19, 20, 21, 22, 23] (.load 11 [11, 13, 14, 15, 16, 17, 18, 19, 20, 21, 22, 23] (.pure 13 (.pure 14 (.load 15 [15, 16, 17, 18, 19, 20, 21, 22, 23] (.alt 16 (.pure 17 (.pure 18 (.pure 19 (.pure 20 (.pure 21 (.pure 22 (.pure 23 .done))))))) .stop))))))))))))))))) | _ => .done,
    hold := fun r => match r with | 3 => (fun i => match i with | 11 => true | 13 => true | 14 => true | 15 => true | _ => false) | _ => fun _ => false,
    join := fun _ => none }

theorem alumref04_Memory_State_ok {K : Value → World → Prop} {t0 t1 : Value} {w : World} (h : alumref04_Memory_State_w K t0 t1 w) : Calls Tryz.prog 64 #[t0, t1] w (Rt K) :=
  calls_of_wpC (A := alumref04_Memory_State_ann) (c := Tryz.f64.body.getD .skip) (args := [t0, t1]) mixed Tryz.func64 rfl (by kernel_rfl) (Eq.mp (by kernel_rfl) h)

theorem alumref04_Memory_State_en : enters Tryz.prog 64 = true := by kernel_rfl

theorem alumref04_Memory_State_cl {K : Value → World → Prop} {t0 t1 : Value} {w : World} (h : Calls Tryz.prog 64 #[t0, t1] w (Rt K)) : Cl Tryz.prog 64 #[t0, t1] w K := ⟨alumref04_Memory_State_en, h⟩

def alumref04_Memory_Shows_w (K : Value → World → Prop) (t0 t1 : Value) (w : World) : Prop :=
  Bn Tryz.prog (Instr.alloc 80 true (Value.tuple #[])) w fun t4 w_1 =>
  Pu Tryz.prog (nilC t0) fun t11 =>
  Pu Tryz.prog (Instr.fieldAt 33 t11 0) fun t12 =>
  Bn Tryz.prog (Instr.loadAt 30 t12) w_1 fun t13 w_2 =>
  Pu Tryz.prog (Instr.indexAt 30 t13 t1) fun t15 =>
  Bn Tryz.prog (Instr.loadAt 91 t15) w_2 fun t16 w_3 =>
  Bn Tryz.prog (Instr.alloc 91 true (Value.tuple #[])) w_3 fun t5 w_4 =>
  Bn Tryz.prog (unitV (Instr.storeAt 91 t5 t16)) w_4 fun _ w_5 =>
  Pu Tryz.prog (Instr.fieldAt 91 t5 0) fun t18 =>
  Bn Tryz.prog (Instr.loadAt 80 t18) w_5 fun t19 w_6 =>
  Pu Tryz.prog (Instr.fieldAt 91 t5 1) fun t20 =>
  Bn Tryz.prog (Instr.loadAt 3 t20) w_6 fun t21 w_7 =>
  Cl Tryz.prog 97 #[t19, t21] w_7 fun t22 w_8 =>
  Pu Tryz.prog (Instr.extract t22 0) fun t23 =>
  Pu Tryz.prog (Instr.extract t22 1) fun t24 =>
  Pu Tryz.prog (Instr.extract t22 2) fun t25 =>
  Bn Tryz.prog (Instr.alloc 80 true (Value.tuple #[])) w_8 fun t6 w_9 =>
  Bn Tryz.prog (unitV (Instr.storeAt 80 t6 t23)) w_9 fun _ w_10 =>
  Pu Tryz.prog (bopS Go.BinOp.neq 40 (Go.Operand.tmp 26) (Go.Operand.const (Go.Value.int Go.IntKind.i64 0)) t25 (Go.Value.int Go.IntKind.i64 0)) fun t27 =>
  condV t27
   (Pu Tryz.prog (Instr.build 80 #[]) fun t28 =>
   Bn Tryz.prog (unitV (Instr.storeAt 80 t4 t28)) w_10 fun _ w_11 =>
   ∃ r, (Instr.loadAt 80 t4).run Tryz.prog w_11 = .ok r w_11 ∧ K r w_11)
   (∃ (I : Value → World → Prop) (μ : Value → World → Nat), I (Go.Value.int Go.IntKind.i64 0) w_10 ∧
   ∀ (u29 u30 u31 u32 u33 u36 u37 u38 u39 u40 u41 u42 u43 u44 u45 u46 u47 u48 u34 u35 u9 : Value) (w_12 : World), I u9 w_12 →
   Pu Tryz.prog (Instr.fieldAt 91 t5 2) fun t30 =>
   Bn Tryz.prog (Instr.loadAt 67 t30) w_12 fun t31 w_13 =>
   Bn Tryz.prog (Builtin.len_ #[67] 3 #[t31]) w_13 fun t32 w_14 =>
   Pu Tryz.prog (bopS Go.BinOp.lss 3 (Go.Operand.tmp 29) (Go.Operand.tmp 32) u9 t32) fun t33 =>
   condV t33
    (∃ S R : World → Prop, S w_14.drew ∧ (∀ w_15, S w_15 → R w_15) ∧
   Pu Tryz.prog (Instr.fieldAt 91 t5 2) fun t36 =>
   Pu Tryz.prog (Instr.fieldAt 91 t5 2) fun t42 =>
   ∃ t37, (∀ w_16, R w_16 → (Instr.loadAt 67 t36).run Tryz.prog w_16 = .ok t37 w_16) ∧
   Pu Tryz.prog (Instr.indexAt 67 t37 u9) fun t39 =>
   Pu Tryz.prog (Instr.fieldAt 118 t39 0) fun t40 =>
   ∃ t41, (∀ w_17, R w_17 → (Instr.loadAt 3 t40).run Tryz.prog w_17 = .ok t41 w_17) ∧
   ∃ t43, (∀ w_18, R w_18 → (Instr.loadAt 67 t42).run Tryz.prog w_18 = .ok t43 w_18) ∧
   Pu Tryz.prog (Instr.indexAt 67 t43 u9) fun t45 =>
   Pu Tryz.prog (Instr.fieldAt 118 t45 1) fun t46 =>
   ∃ t47, (∀ w_19, R w_19 → (Instr.loadAt 3 t46).run Tryz.prog w_19 = .ok t47 w_19) ∧
   Pu Tryz.prog (Instr.indexAt 80 t6 t41) fun t48 =>
   (∀ w_20, S w_20 →
   Bn Tryz.prog (unitV (Instr.storeAt 3 t48 t47)) w_20 fun _ w_21 =>
   ∃ S_1 R_1 : World → Prop, S_1 w_21 ∧ (∀ w_23, S_1 w_23 → R_1 w_23) ∧ True ∧
   ∀ w_24, S_1 w_24 →
   Pu Tryz.prog (bopS Go.BinOp.add 3 (Go.Operand.tmp 34) (Go.Operand.const (Go.Value.int Go.IntKind.i64 1)) u9 (Go.Value.int Go.IntKind.i64 1)) fun t35 =>
   I t35 w_24 ∧ μ t35 w_24 < μ u9 w_12) ∧
   True)
    (Bn Tryz.prog (Instr.loadAt 80 t6) w_14 fun t49 w_25 =>
  Bn Tryz.prog (unitV (Instr.storeAt 80 t4 t49)) w_25 fun _ w_26 =>
  ∃ r_1, (Instr.loadAt 80 t4).run Tryz.prog w_26 = .ok r_1 w_26 ∧ K r_1 w_26))

def alumref04_Memory_Shows_ann : Ann :=
  { loop := fun r => match r with | 6 => [9] | _ => [],
    plan := fun r => match r with | 8 => (.pure 0 (.pure 2 (.pure 6 (.pure 8 (.load 1 [1, 3, 4, 5, 12, 13] (.pure 3 (.pure 4 (.load 5 [5, 12, 13] (.load 7 [7, 9, 10, 11, 12, 13] (.pure 9 (.pure 10 (.load 11 [11, 12, 13] (.pure 12 (.alt 13 .done .stop)))))))))))))) | _ => .done,
    hold := fun r => match r with | 8 => (fun i => match i with | 7 => true | 9 => true | 10 => true | 11 => true | _ => false) | _ => fun _ => false,
    join := fun _ => none }

theorem alumref04_Memory_Shows_ok {K : Value → World → Prop} {t0 t1 : Value} {w : World} (h : alumref04_Memory_Shows_w K t0 t1 w) : Calls Tryz.prog 74 #[t0, t1] w (Rt K) :=
  calls_of_wpC (A := alumref04_Memory_Shows_ann) (c := Tryz.f74.body.getD .skip) (args := [t0, t1]) mixed Tryz.func74 rfl (by kernel_rfl) (Eq.mp (by kernel_rfl) h)

theorem alumref04_Memory_Shows_en : enters Tryz.prog 74 = true := by kernel_rfl

theorem alumref04_Memory_Shows_cl {K : Value → World → Prop} {t0 t1 : Value} {w : World} (h : Calls Tryz.prog 74 #[t0, t1] w (Rt K)) : Cl Tryz.prog 74 #[t0, t1] w K := ⟨alumref04_Memory_Shows_en, h⟩

def alumref04_Memory_settle_w (K : Value → World → Prop) (t0 t1 t2 : Value) (w : World) : Prop :=
  Pu Tryz.prog (bopS Go.BinOp.eql 3 (Go.Operand.tmp 12) (Go.Operand.const (Go.Value.int Go.IntKind.i64 0)) t2 (Go.Value.int Go.IntKind.i64 0)) fun t13 =>
  condV t13
   (K (Value.tuple #[]) w)
   (Pu Tryz.prog (nilC t0) fun t15 =>
  Pu Tryz.prog (Instr.fieldAt 33 t15 0) fun t16 =>
  Bn Tryz.prog (Instr.loadAt 30 t16) w fun t17 w_1 =>
  Pu Tryz.prog (Instr.indexAt 30 t17 t1) fun t19 =>
  Bn Tryz.prog (Instr.loadAt 91 t19) w_1 fun t20 w_2 =>
  Bn Tryz.prog (Instr.alloc 91 true (Value.tuple #[])) w_2 fun t6 w_3 =>
  Bn Tryz.prog (unitV (Instr.storeAt 91 t6 t20)) w_3 fun _ w_4 =>
  Pu Tryz.prog (Instr.fieldAt 91 t6 0) fun t22 =>
  Bn Tryz.prog (Instr.loadAt 80 t22) w_4 fun t23 w_5 =>
  Pu Tryz.prog (Instr.fieldAt 91 t6 1) fun t24 =>
  Bn Tryz.prog (Instr.loadAt 3 t24) w_5 fun t25 w_6 =>
  Cl Tryz.prog 97 #[t23, t25] w_6 fun t26 w_7 =>
  Pu Tryz.prog (Instr.extract t26 0) fun t27 =>
  Pu Tryz.prog (Instr.extract t26 1) fun t28 =>
  Pu Tryz.prog (Instr.extract t26 2) fun t29 =>
  Bn Tryz.prog (Instr.alloc 80 true (Value.tuple #[])) w_7 fun t7 w_8 =>
  Bn Tryz.prog (unitV (Instr.storeAt 80 t7 t27)) w_8 fun _ w_9 =>
  ∃ (I : Value → World → Prop) (μ : Value → World → Nat), I (Go.Value.int Go.IntKind.i64 0) w_9 ∧
   ∀ (u30 u31 u32 u35 u36 u37 u38 u39 u40 u41 u42 u43 u44 u45 u46 u47 u33 u34 u10 : Value) (w_10 : World), I u10 w_10 →
   Pu Tryz.prog (bopS Go.BinOp.lss 3 (Go.Operand.tmp 30) (Go.Operand.tmp 31) u10 t2) fun t32 =>
   condV t32
    (∃ S R : World → Prop, S w_10.drew ∧ (∀ w_11, S w_11 → R w_11) ∧
   Pu Tryz.prog (Instr.fieldAt 91 t6 2) fun t35 =>
   Pu Tryz.prog (Instr.fieldAt 91 t6 2) fun t41 =>
   ∃ t36, (∀ w_12, R w_12 → (Instr.loadAt 67 t35).run Tryz.prog w_12 = .ok t36 w_12) ∧
   Pu Tryz.prog (Instr.indexAt 67 t36 u10) fun t38 =>
   Pu Tryz.prog (Instr.fieldAt 118 t38 0) fun t39 =>
   ∃ t40, (∀ w_13, R w_13 → (Instr.loadAt 3 t39).run Tryz.prog w_13 = .ok t40 w_13) ∧
   ∃ t42, (∀ w_14, R w_14 → (Instr.loadAt 67 t41).run Tryz.prog w_14 = .ok t42 w_14) ∧
   Pu Tryz.prog (Instr.indexAt 67 t42 u10) fun t44 =>
   Pu Tryz.prog (Instr.fieldAt 118 t44 1) fun t45 =>
   ∃ t46, (∀ w_15, R w_15 → (Instr.loadAt 3 t45).run Tryz.prog w_15 = .ok t46 w_15) ∧
   Pu Tryz.prog (Instr.indexAt 80 t7 t40) fun t47 =>
   (∀ w_16, S w_16 →
   Bn Tryz.prog (unitV (Instr.storeAt 3 t47 t46)) w_16 fun _ w_17 =>
   ∃ S_1 R_1 : World → Prop, S_1 w_17 ∧ (∀ w_19, S_1 w_19 → R_1 w_19) ∧ True ∧
   ∀ w_20, S_1 w_20 →
   Pu Tryz.prog (bopS Go.BinOp.add 3 (Go.Operand.tmp 33) (Go.Operand.const (Go.Value.int Go.IntKind.i64 1)) u10 (Go.Value.int Go.IntKind.i64 1)) fun t34 =>
   I t34 w_20 ∧ μ t34 w_20 < μ u10 w_10) ∧
   True)
    (Bn Tryz.prog (Instr.buildSlice 67 0 #[]) w_10 fun t48 w_21 =>
  Pu Tryz.prog (Instr.fieldAt 91 t6 2) fun t49 =>
  Bn Tryz.prog (Instr.loadAt 67 t49) w_21 fun t50 w_22 =>
  Pu Tryz.prog (Instr.sliceAt 67 t50 (some t2) none none) fun t52 =>
  Bn Tryz.prog (Builtin.append_ #[67, 67] 67 #[t48, t52]) w_22 fun t53 w_23 =>
  ∃ S_2 R_2 : World → Prop, S_2 w_23.drew ∧ (∀ w_24, S_2 w_24 → R_2 w_24) ∧
  Pu Tryz.prog (nilC t0) fun t55 =>
  Pu Tryz.prog (Instr.fieldAt 33 t55 0) fun t56 =>
  Pu Tryz.prog (Instr.fieldAt 91 t6 3) fun t63 =>
  ∃ t57, (∀ w_25, R_2 w_25 → (Instr.loadAt 30 t56).run Tryz.prog w_25 = .ok t57 w_25) ∧
  ∃ t59, (∀ w_26, R_2 w_26 → (Instr.loadAt 80 t7).run Tryz.prog w_26 = .ok t59 w_26) ∧
  ∃ t60, (∀ w_27, R_2 w_27 → (Instr.loadAt 80 t7).run Tryz.prog w_27 = .ok t60 w_27) ∧
  ∃ t64, (∀ w_28, R_2 w_28 → (Instr.loadAt 3 t63).run Tryz.prog w_28 = .ok t64 w_28) ∧
  Pu Tryz.prog (bopS Go.BinOp.sub 3 (Go.Operand.tmp 64) (Go.Operand.tmp 65) t64 t2) fun t66 =>
  Pu Tryz.prog (Builtin.max_ #[3, 3] 3 #[(Go.Value.int Go.IntKind.i64 0), t66]) fun t67 =>
  (∀ w_29, S_2 w_29 →
  Cl Tryz.prog 111 #[t60] w_29 fun t61 w_30 =>
  ∃ S_3 R_3 : World → Prop, S_3 w_30 ∧ (∀ w_32, S_3 w_32 → R_3 w_32) ∧ (∀ w_31, R_3 w_31 → R_2 w_31) ∧
  Pu Tryz.prog (Instr.build 91 #[(0, t59), (1, t61), (2, t53), (3, t67)]) fun t68 =>
  Pu Tryz.prog (Instr.indexAt 30 t57 t1) fun t69 =>
  (∀ w_33, S_3 w_33 →
  Bn Tryz.prog (unitV (Instr.storeAt 91 t69 t68)) w_33 fun _ w_34 =>
  ∃ S_4 R_4 : World → Prop, S_4 w_34 ∧ (∀ w_36, S_4 w_36 → R_4 w_36) ∧ True ∧
  ∀ w_37, S_4 w_37 →
  K (Value.tuple #[]) w_37) ∧
  True) ∧
  True))

def alumref04_Memory_settle_ann : Ann :=
  { loop := fun r => match r with | 4 => [10] | _ => [],
    plan := fun r => match r with | 6 => (.pure 0 (.pure 2 (.pure 6 (.pure 8 (.load 1 [1, 3, 4, 5, 12, 13] (.pure 3 (.pure 4 (.load 5 [5, 12, 13] (.load 7 [7, 9, 10, 11, 12, 13] (.pure 9 (.pure 10 (.load 11 [11, 12, 13] (.pure 12 (.alt 13 .done .stop)))))))))))))) | 8 => (.pure 0 (.pure 1 (.pure 2 (.pure 4 (.pure 8 (.pure 9 (.pure 11 (.load 3 [3, 15, 16] (.load 5 [5, 14, 15, 16] (.load 6 [6, 7, 14, 15, 16] (.load 10 [10, 12, 13, 14, 15, 16] (.pure 12 (.pure 13 (.alt 7 (.pure 14 (.pure 15 (.alt 16 .done .stop))) .stop)))))))))))))) | _ => .done,
    hold := fun r => match r with | 6 => (fun i => match i with | 7 => true | 9 => true | 10 => true | 11 => true | _ => false) | 8 => (fun i => match i with | 5 => true | 6 => true | 7 => true | 10 => true | 12 => true | 13 => true | 14 => true | _ => false) | _ => fun _ => false,
    join := fun _ => none }

theorem alumref04_Memory_settle_ok {K : Value → World → Prop} {t0 t1 t2 : Value} {w : World} (h : alumref04_Memory_settle_w K t0 t1 t2 w) : Calls Tryz.prog 96 #[t0, t1, t2] w (Rt K) :=
  calls_of_wpC (A := alumref04_Memory_settle_ann) (c := Tryz.f96.body.getD .skip) (args := [t0, t1, t2]) mixed Tryz.func96 rfl (by kernel_rfl) (Eq.mp (by kernel_rfl) h)

theorem alumref04_Memory_settle_en : enters Tryz.prog 96 = true := by kernel_rfl

theorem alumref04_Memory_settle_cl {K : Value → World → Prop} {t0 t1 t2 : Value} {w : World} (h : Calls Tryz.prog 96 #[t0, t1, t2] w (Rt K)) : Cl Tryz.prog 96 #[t0, t1, t2] w K := ⟨alumref04_Memory_settle_en, h⟩

def alumref04_Memory_Load_w (K : Value → World → Prop) (t0 t1 : Value) (w : World) : Prop :=
  Pu Tryz.prog (bopS Go.BinOp.lss 3 (Go.Operand.tmp 7) (Go.Operand.const (Go.Value.int Go.IntKind.i64 0)) t1 (Go.Value.int Go.IntKind.i64 0)) fun t8 =>
  condV t8
  (K (Value.tuple #[(Go.Value.int Go.IntKind.i64 0), (Go.Value.int Go.IntKind.i64 40)]) w)
  (Pu Tryz.prog (bopS Go.BinOp.quo 3 (Go.Operand.tmp 11) (Go.Operand.const (Go.Value.int Go.IntKind.i64 8)) t1 (Go.Value.int Go.IntKind.i64 8)) fun t12 =>
  Cl Tryz.prog 89 #[t0, t12] w fun t13 w_1 =>
  Pu Tryz.prog (Op.unary Go.UnOp.not t13) fun t14 =>
  condV t14
   (K (Value.tuple #[(Go.Value.int Go.IntKind.i64 0), (Go.Value.int Go.IntKind.i64 40)]) w_1)
   (Pu Tryz.prog (bopS Go.BinOp.quo 3 (Go.Operand.tmp 17) (Go.Operand.const (Go.Value.int Go.IntKind.i64 8)) t1 (Go.Value.int Go.IntKind.i64 8)) fun t18 =>
  Cl Tryz.prog 64 #[t0, t18] w_1 fun t19 w_2 =>
  Pu Tryz.prog (bopS Go.BinOp.eql 3 (Go.Operand.tmp 19) (Go.Operand.const (Go.Value.int Go.IntKind.i64 2)) t19 (Go.Value.int Go.IntKind.i64 2)) fun t20 =>
  condV t20
   (K (Value.tuple #[(Go.Value.int Go.IntKind.i64 0), (Go.Value.int Go.IntKind.i64 9)]) w_2)
   (Pu Tryz.prog (bopS Go.BinOp.quo 3 (Go.Operand.tmp 22) (Go.Operand.const (Go.Value.int Go.IntKind.i64 8)) t1 (Go.Value.int Go.IntKind.i64 8)) fun t23 =>
  Cl Tryz.prog 74 #[t0, t23] w_2 fun t24 w_3 =>
  Bn Tryz.prog (Instr.alloc 80 true (Value.tuple #[])) w_3 fun t6 w_4 =>
  Bn Tryz.prog (unitV (Instr.storeAt 80 t6 t24)) w_4 fun _ w_5 =>
  Pu Tryz.prog (bopS Go.BinOp.rem 3 (Go.Operand.tmp 25) (Go.Operand.const (Go.Value.int Go.IntKind.i64 8)) t1 (Go.Value.int Go.IntKind.i64 8)) fun t26 =>
  Pu Tryz.prog (Instr.indexAt 80 t6 t26) fun t27 =>
  Bn Tryz.prog (Instr.loadAt 3 t27) w_5 fun t28 w_6 =>
  K (Value.tuple #[t28, (Go.Value.int Go.IntKind.i64 0)]) w_6)))

def alumref04_Memory_Load_ann : Ann :=
  { loop := fun _ => [],
    plan := fun _ => .done,
    hold := fun _ => fun _ => false,
    join := fun _ => none }

theorem alumref04_Memory_Load_ok {K : Value → World → Prop} {t0 t1 : Value} {w : World} (h : alumref04_Memory_Load_w K t0 t1 w) : Calls Tryz.prog 53 #[t0, t1] w (Rt K) :=
  calls_of_wpC (A := alumref04_Memory_Load_ann) (c := Tryz.f53.body.getD .skip) (args := [t0, t1]) mixed Tryz.func53 rfl (by kernel_rfl) (Eq.mp (by kernel_rfl) h)

theorem alumref04_Memory_Load_en : enters Tryz.prog 53 = true := by kernel_rfl

theorem alumref04_Memory_Load_cl {K : Value → World → Prop} {t0 t1 : Value} {w : World} (h : Calls Tryz.prog 53 #[t0, t1] w (Rt K)) : Cl Tryz.prog 53 #[t0, t1] w K := ⟨alumref04_Memory_Load_en, h⟩

def alumref04_Memory_put_w (K : Value → World → Prop) (t0 t1 t2 t3 : Value) (w : World) : Prop :=
  Pu Tryz.prog (bopS Go.BinOp.lss 3 (Go.Operand.tmp 10) (Go.Operand.const (Go.Value.int Go.IntKind.i64 0)) t1 (Go.Value.int Go.IntKind.i64 0)) fun t11 =>
  condV t11
  (K (Go.Value.int Go.IntKind.i64 40) w)
  (Pu Tryz.prog (bopS Go.BinOp.quo 3 (Go.Operand.tmp 14) (Go.Operand.const (Go.Value.int Go.IntKind.i64 8)) t1 (Go.Value.int Go.IntKind.i64 8)) fun t15 =>
  Cl Tryz.prog 89 #[t0, t15] w fun t16 w_1 =>
  Pu Tryz.prog (Op.unary Go.UnOp.not t16) fun t17 =>
  condV t17
   (K (Go.Value.int Go.IntKind.i64 40) w_1)
   (Cl Tryz.prog 92 #[t2] w_1 fun t20 w_2 =>
  Pu Tryz.prog (Op.unary Go.UnOp.not t20) fun t21 =>
  condV t21
   (K (Go.Value.int Go.IntKind.i64 1) w_2)
   (Pu Tryz.prog (bopS Go.BinOp.quo 3 (Go.Operand.tmp 23) (Go.Operand.const (Go.Value.int Go.IntKind.i64 8)) t1 (Go.Value.int Go.IntKind.i64 8)) fun t24 =>
  Cl Tryz.prog 64 #[t0, t24] w_2 fun t25 w_3 =>
  Pu Tryz.prog (bopS Go.BinOp.eql 3 (Go.Operand.tmp 25) (Go.Operand.const (Go.Value.int Go.IntKind.i64 2)) t25 (Go.Value.int Go.IntKind.i64 2)) fun t26 =>
  condV t26
   (K (Go.Value.int Go.IntKind.i64 9) w_3)
   (Bn Tryz.prog (Instr.buildSlice 67 0 #[]) w_3 fun t27 w_4 =>
  Pu Tryz.prog (nilC t0) fun t29 =>
  Pu Tryz.prog (Instr.fieldAt 33 t29 0) fun t30 =>
  Bn Tryz.prog (Instr.loadAt 30 t30) w_4 fun t31 w_5 =>
  Pu Tryz.prog (bopS Go.BinOp.quo 3 (Go.Operand.tmp 32) (Go.Operand.const (Go.Value.int Go.IntKind.i64 8)) t1 (Go.Value.int Go.IntKind.i64 8)) fun t33 =>
  Pu Tryz.prog (Instr.indexAt 30 t31 t33) fun t34 =>
  Pu Tryz.prog (Instr.fieldAt 91 t34 2) fun t35 =>
  Bn Tryz.prog (Instr.loadAt 67 t35) w_5 fun t36 w_6 =>
  Bn Tryz.prog (Builtin.append_ #[67, 67] 67 #[t27, t36]) w_6 fun t37 w_7 =>
  Pu Tryz.prog (bopS Go.BinOp.rem 3 (Go.Operand.tmp 39) (Go.Operand.const (Go.Value.int Go.IntKind.i64 8)) t1 (Go.Value.int Go.IntKind.i64 8)) fun t40 =>
  Pu Tryz.prog (Instr.build 118 #[(0, t40), (1, t2)]) fun t42 =>
  Bn Tryz.prog (Instr.buildSlice 67 1 #[(0, t42)]) w_7 fun t43 w_8 =>
  Bn Tryz.prog (Builtin.append_ #[67, 67] 67 #[t37, t43]) w_8 fun t44 w_9 =>
  Pu Tryz.prog (nilC t0) fun t46 =>
  Pu Tryz.prog (Instr.fieldAt 33 t46 0) fun t47 =>
  Bn Tryz.prog (Instr.loadAt 30 t47) w_9 fun t48 w_10 =>
  Pu Tryz.prog (bopS Go.BinOp.quo 3 (Go.Operand.tmp 49) (Go.Operand.const (Go.Value.int Go.IntKind.i64 8)) t1 (Go.Value.int Go.IntKind.i64 8)) fun t50 =>
  Pu Tryz.prog (Instr.indexAt 30 t48 t50) fun t52 =>
  Pu Tryz.prog (Instr.fieldAt 91 t52 2) fun t53 =>
  Bn Tryz.prog (unitV (Instr.storeAt 67 t53 t44)) w_10 fun _ w_11 =>
  ∃ S R : World → Prop, S w_11.drew ∧ (∀ w_12, S w_12 → R w_12) ∧
  Pu Tryz.prog (nilC t0) fun t56 =>
  Pu Tryz.prog (Instr.fieldAt 33 t56 2) fun t57 =>
  Pu Tryz.prog (nilC t0) fun t63 =>
  Pu Tryz.prog (Instr.fieldAt 33 t63 1) fun t64 =>
  ∃ t58, (∀ w_13, R w_13 → (Instr.loadAt 31 t57).run Tryz.prog w_13 = .ok t58 w_13) ∧
  ∃ t65, (∀ w_14, R w_14 → (Instr.loadAt 3 t64).run Tryz.prog w_14 = .ok t65 w_14) ∧
  Pu Tryz.prog (Instr.build 111 #[(0, t3), (1, t1), (2, t2), (3, t65)]) fun t66 =>
  (∀ w_15, S w_15 →
  Bn Tryz.prog (Instr.buildSlice 31 1 #[(0, t66)]) w_15 fun t67 w_16 =>
  ∃ S_1 R_1 : World → Prop, S_1 w_16 ∧ (∀ w_18, S_1 w_18 → R_1 w_18) ∧ (∀ w_17, R_1 w_17 → R w_17) ∧
  (∀ w_19, S_1 w_19 →
  Bn Tryz.prog (Builtin.append_ #[31, 31] 31 #[t58, t67]) w_19 fun t68 w_20 =>
  ∃ S_2 R_2 : World → Prop, S_2 w_20 ∧ (∀ w_22, S_2 w_22 → R_2 w_22) ∧ True ∧
  Pu Tryz.prog (nilC t0) fun t69 =>
  Pu Tryz.prog (Instr.fieldAt 33 t69 2) fun t70 =>
  (∀ w_23, S_2 w_23 →
  Bn Tryz.prog (unitV (Instr.storeAt 31 t70 t68)) w_23 fun _ w_24 =>
  ∃ S_3 R_3 : World → Prop, S_3 w_24 ∧ (∀ w_26, S_3 w_26 → R_3 w_26) ∧ True ∧
  ∀ w_27, S_3 w_27 →
  K (Go.Value.int Go.IntKind.i64 0) w_27) ∧
  True) ∧
  True) ∧
  True))))

def alumref04_Memory_put_ann : Ann :=
  { loop := fun _ => [],
    plan := fun r => match r with | 10 => (.pure 0 (.pure 1 (.pure 2 (.pure 3 (.pure 5 (.pure 6 (.pure 7 (.pure 8 (.pure 9 (.pure 10 (.load 4 [4, 14, 15, 16, 17] (.load 11 [11, 12, 13, 14, 15, 16, 17] (.pure 12 (.alt 13 (.alt 14 (.pure 15 (.pure 16 (.alt 17 .done .stop))) .stop) .stop)))))))))))))) | _ => .done,
    hold := fun r => match r with | 10 => (fun i => match i with | 11 => true | 12 => true | 13 => true | _ => false) | _ => fun _ => false,
    join := fun _ => none }

theorem alumref04_Memory_put_ok {K : Value → World → Prop} {t0 t1 t2 t3 : Value} {w : World} (h : alumref04_Memory_put_w K t0 t1 t2 t3 w) : Calls Tryz.prog 61 #[t0, t1, t2, t3] w (Rt K) :=
  calls_of_wpC (A := alumref04_Memory_put_ann) (c := Tryz.f61.body.getD .skip) (args := [t0, t1, t2, t3]) mixed Tryz.func61 rfl (by kernel_rfl) (Eq.mp (by kernel_rfl) h)

theorem alumref04_Memory_put_en : enters Tryz.prog 61 = true := by kernel_rfl

theorem alumref04_Memory_put_cl {K : Value → World → Prop} {t0 t1 t2 t3 : Value} {w : World} (h : Calls Tryz.prog 61 #[t0, t1, t2, t3] w (Rt K)) : Cl Tryz.prog 61 #[t0, t1, t2, t3] w K := ⟨alumref04_Memory_put_en, h⟩

def alumref04_Memory_Store_w (K : Value → World → Prop) (t0 t1 t2 : Value) (w : World) : Prop :=
  Cl Tryz.prog 61 #[t0, t1, t2, (Go.Value.int Go.IntKind.i64 1)] w fun t10 w_1 =>
  K t10 w_1

def alumref04_Memory_Store_ann : Ann :=
  { loop := fun _ => [],
    plan := fun _ => .done,
    hold := fun _ => fun _ => false,
    join := fun _ => none }

theorem alumref04_Memory_Store_ok {K : Value → World → Prop} {t0 t1 t2 : Value} {w : World} (h : alumref04_Memory_Store_w K t0 t1 t2 w) : Calls Tryz.prog 26 #[t0, t1, t2] w (Rt K) :=
  calls_of_wpC (A := alumref04_Memory_Store_ann) (c := Tryz.f26.body.getD .skip) (args := [t0, t1, t2]) mixed Tryz.func26 rfl (by kernel_rfl) (Eq.mp (by kernel_rfl) h)

theorem alumref04_Memory_Store_en : enters Tryz.prog 26 = true := by kernel_rfl

theorem alumref04_Memory_Store_cl {K : Value → World → Prop} {t0 t1 t2 : Value} {w : World} (h : Calls Tryz.prog 26 #[t0, t1, t2] w (Rt K)) : Cl Tryz.prog 26 #[t0, t1, t2] w K := ⟨alumref04_Memory_Store_en, h⟩

def alumref04_Memory_Flush_w (K : Value → World → Prop) (t0 t1 : Value) (w : World) : Prop :=
  Cl Tryz.prog 89 #[t0, t1] w fun t7 w_1 =>
  Pu Tryz.prog (Op.unary Go.UnOp.not t7) fun t8 =>
  condV t8
   (K (Go.Value.int Go.IntKind.i64 40) w_1)
   (∃ S R : World → Prop, S w_1.drew ∧ (∀ w_2, S w_2 → R w_2) ∧
  Pu Tryz.prog (nilC t0) fun t10 =>
  Pu Tryz.prog (Instr.fieldAt 33 t10 0) fun t11 =>
  Pu Tryz.prog (nilC t0) fun t15 =>
  Pu Tryz.prog (Instr.fieldAt 33 t15 0) fun t16 =>
  ∃ t12, (∀ w_3, R w_3 → (Instr.loadAt 30 t11).run Tryz.prog w_3 = .ok t12 w_3) ∧
  ∃ t17, (∀ w_4, R w_4 → (Instr.loadAt 30 t16).run Tryz.prog w_4 = .ok t17 w_4) ∧
  Pu Tryz.prog (Instr.indexAt 30 t17 t1) fun t19 =>
  Pu Tryz.prog (Instr.fieldAt 91 t19 2) fun t20 =>
  ∃ t21, (∀ w_5, R w_5 → (Instr.loadAt 67 t20).run Tryz.prog w_5 = .ok t21 w_5) ∧
  ∃ t22, (∀ w_6, R w_6 → (Builtin.len_ #[67] 3 #[t21]).run Tryz.prog w_6 = .ok t22 w_6) ∧
  Pu Tryz.prog (Instr.indexAt 30 t12 t1) fun t23 =>
  Pu Tryz.prog (Instr.fieldAt 91 t23 3) fun t24 =>
  (∀ w_7, S w_7 →
  Bn Tryz.prog (unitV (Instr.storeAt 3 t24 t22)) w_7 fun _ w_8 =>
  ∃ S_1 R_1 : World → Prop, S_1 w_8 ∧ (∀ w_10, S_1 w_10 → R_1 w_10) ∧ True ∧
  ∀ w_11, S_1 w_11 →
  Pu Tryz.prog (nilC t0) fun t27 =>
  Pu Tryz.prog (Instr.fieldAt 33 t27 2) fun t28 =>
  Bn Tryz.prog (Instr.loadAt 31 t28) w_11 fun t29 w_12 =>
  Pu Tryz.prog (Instr.build 111 #[(0, (Go.Value.int Go.IntKind.i64 3)), (1, t1)]) fun t31 =>
  Bn Tryz.prog (Instr.buildSlice 31 1 #[(0, t31)]) w_12 fun t32 w_13 =>
  Bn Tryz.prog (Builtin.append_ #[31, 31] 31 #[t29, t32]) w_13 fun t33 w_14 =>
  Pu Tryz.prog (nilC t0) fun t34 =>
  Pu Tryz.prog (Instr.fieldAt 33 t34 2) fun t35 =>
  Bn Tryz.prog (unitV (Instr.storeAt 31 t35 t33)) w_14 fun _ w_15 =>
  K (Go.Value.int Go.IntKind.i64 0) w_15) ∧
  True)

def alumref04_Memory_Flush_ann : Ann :=
  { loop := fun _ => [],
    plan := fun r => match r with | 3 => (.pure 0 (.pure 1 (.pure 2 (.pure 4 (.pure 5 (.pure 6 (.pure 7 (.pure 9 (.load 3 [3, 14, 15, 16] (.load 8 [8, 10, 11, 12, 13, 14, 15, 16] (.pure 10 (.pure 11 (.load 12 [12, 13, 14, 15, 16] (.load 13 [13, 14, 15, 16] (.pure 14 (.pure 15 (.alt 16 .done .stop))))))))))))))))) | _ => .done,
    hold := fun r => match r with | 3 => (fun i => match i with | 8 => true | 10 => true | 11 => true | 12 => true | 13 => true | _ => false) | _ => fun _ => false,
    join := fun _ => none }

theorem alumref04_Memory_Flush_ok {K : Value → World → Prop} {t0 t1 : Value} {w : World} (h : alumref04_Memory_Flush_w K t0 t1 w) : Calls Tryz.prog 72 #[t0, t1] w (Rt K) :=
  calls_of_wpC (A := alumref04_Memory_Flush_ann) (c := Tryz.f72.body.getD .skip) (args := [t0, t1]) mixed Tryz.func72 rfl (by kernel_rfl) (Eq.mp (by kernel_rfl) h)

theorem alumref04_Memory_Flush_en : enters Tryz.prog 72 = true := by kernel_rfl

theorem alumref04_Memory_Flush_cl {K : Value → World → Prop} {t0 t1 : Value} {w : World} (h : Calls Tryz.prog 72 #[t0, t1] w (Rt K)) : Cl Tryz.prog 72 #[t0, t1] w K := ⟨alumref04_Memory_Flush_en, h⟩

def alumref04_Memory_Fence_w (K : Value → World → Prop) (t0 : Value) (w : World) : Prop :=
  ∃ (I : Value → World → Prop) (μ : Value → World → Nat), I (Go.Value.int Go.IntKind.i64 0) w ∧
   ∀ (u3 u4 u5 u6 u7 u8 u9 u12 u13 u14 u15 u16 u17 u18 u19 u20 u21 u22 u10 u11 u2 : Value) (w_1 : World), I u2 w_1 →
   Pu Tryz.prog (nilC t0) fun t5 =>
   Pu Tryz.prog (Instr.fieldAt 33 t5 0) fun t6 =>
   Bn Tryz.prog (Instr.loadAt 30 t6) w_1 fun t7 w_2 =>
   Bn Tryz.prog (Builtin.len_ #[30] 3 #[t7]) w_2 fun t8 w_3 =>
   Pu Tryz.prog (bopS Go.BinOp.lss 3 (Go.Operand.tmp 3) (Go.Operand.tmp 8) u2 t8) fun t9 =>
   condV t9
    (Pu Tryz.prog (nilC t0) fun t15 =>
   Pu Tryz.prog (Instr.fieldAt 33 t15 0) fun t16 =>
   Bn Tryz.prog (Instr.loadAt 30 t16) w_3 fun t17 w_4 =>
   Pu Tryz.prog (Instr.indexAt 30 t17 u2) fun t19 =>
   Pu Tryz.prog (Instr.fieldAt 91 t19 3) fun t20 =>
   Bn Tryz.prog (Instr.loadAt 3 t20) w_4 fun t21 w_5 =>
   Cl Tryz.prog 96 #[t0, u2, t21] w_5 fun t22 w_6 =>
   Pu Tryz.prog (bopS Go.BinOp.add 3 (Go.Operand.tmp 10) (Go.Operand.const (Go.Value.int Go.IntKind.i64 1)) u2 (Go.Value.int Go.IntKind.i64 1)) fun t11 =>
   I t11 w_6 ∧ μ t11 w_6 < μ u2 w_1)
    (Pu Tryz.prog (nilC t0) fun t25 =>
  Pu Tryz.prog (Instr.fieldAt 33 t25 2) fun t26 =>
  Bn Tryz.prog (Instr.loadAt 31 t26) w_3 fun t27 w_7 =>
  Pu Tryz.prog (Instr.build 111 #[(0, (Go.Value.int Go.IntKind.i64 4))]) fun t28 =>
  Bn Tryz.prog (Instr.buildSlice 31 1 #[(0, t28)]) w_7 fun t29 w_8 =>
  Bn Tryz.prog (Builtin.append_ #[31, 31] 31 #[t27, t29]) w_8 fun t30 w_9 =>
  Pu Tryz.prog (nilC t0) fun t31 =>
  Pu Tryz.prog (Instr.fieldAt 33 t31 2) fun t32 =>
  Bn Tryz.prog (unitV (Instr.storeAt 31 t32 t30)) w_9 fun _ w_10 =>
  K (Value.tuple #[]) w_10)

def alumref04_Memory_Fence_ann : Ann :=
  { loop := fun r => match r with | 1 => [2] | _ => [],
    plan := fun _ => .done,
    hold := fun _ => fun _ => false,
    join := fun _ => none }

theorem alumref04_Memory_Fence_ok {K : Value → World → Prop} {t0 : Value} {w : World} (h : alumref04_Memory_Fence_w K t0 w) : Calls Tryz.prog 73 #[t0] w (Rt K) :=
  calls_of_wpC (A := alumref04_Memory_Fence_ann) (c := Tryz.f73.body.getD .skip) (args := [t0]) mixed Tryz.func73 rfl (by kernel_rfl) (Eq.mp (by kernel_rfl) h)

theorem alumref04_Memory_Fence_en : enters Tryz.prog 73 = true := by kernel_rfl

theorem alumref04_Memory_Fence_cl {K : Value → World → Prop} {t0 : Value} {w : World} (h : Calls Tryz.prog 73 #[t0] w (Rt K)) : Cl Tryz.prog 73 #[t0] w K := ⟨alumref04_Memory_Fence_en, h⟩

def alumref04_Memory_Seen_w (K : Value → World → Prop) (t0 : Value) (w : World) : Prop :=
  ∃ (I : Value → Value → World → Prop) (μ : Value → Value → World → Nat), I (Go.Value.slice none 0 0) (Go.Value.int Go.IntKind.i64 0) w ∧
   ∀ (u5 u6 u7 u8 u9 u10 u11 u14 u15 u16 u17 u18 u19 u3 u12 u13 u4 : Value) (w_1 : World), I u3 u4 w_1 →
   Pu Tryz.prog (nilC t0) fun t7 =>
   Pu Tryz.prog (Instr.fieldAt 33 t7 0) fun t8 =>
   Bn Tryz.prog (Instr.loadAt 30 t8) w_1 fun t9 w_2 =>
   Bn Tryz.prog (Builtin.len_ #[30] 3 #[t9]) w_2 fun t10 w_3 =>
   Pu Tryz.prog (bopS Go.BinOp.lss 3 (Go.Operand.tmp 5) (Go.Operand.tmp 10) u4 t10) fun t11 =>
   condV t11
    (Cl Tryz.prog 74 #[t0, u4] w_3 fun t17 w_4 =>
   Bn Tryz.prog (Instr.buildSlice 63 1 #[(0, t17)]) w_4 fun t18 w_5 =>
   Bn Tryz.prog (Builtin.append_ #[63, 63] 63 #[u3, t18]) w_5 fun t19 w_6 =>
   Pu Tryz.prog (bopS Go.BinOp.add 3 (Go.Operand.tmp 12) (Go.Operand.const (Go.Value.int Go.IntKind.i64 1)) u4 (Go.Value.int Go.IntKind.i64 1)) fun t13 =>
   I t19 t13 w_6 ∧ μ t19 t13 w_6 < μ u3 u4 w_1)
    (K u3 w_3)

def alumref04_Memory_Seen_ann : Ann :=
  { loop := fun r => match r with | 3 => [3, 4] | _ => [],
    plan := fun _ => .done,
    hold := fun _ => fun _ => false,
    join := fun _ => none }

theorem alumref04_Memory_Seen_ok {K : Value → World → Prop} {t0 : Value} {w : World} (h : alumref04_Memory_Seen_w K t0 w) : Calls Tryz.prog 34 #[t0] w (Rt K) :=
  calls_of_wpC (A := alumref04_Memory_Seen_ann) (c := Tryz.f34.body.getD .skip) (args := [t0]) mixed Tryz.func34 rfl (by kernel_rfl) (Eq.mp (by kernel_rfl) h)

theorem alumref04_Memory_Seen_en : enters Tryz.prog 34 = true := by kernel_rfl

theorem alumref04_Memory_Seen_cl {K : Value → World → Prop} {t0 : Value} {w : World} (h : Calls Tryz.prog 34 #[t0] w (Rt K)) : Cl Tryz.prog 34 #[t0] w K := ⟨alumref04_Memory_Seen_en, h⟩

def alumref04_SameImage_w (K : Value → World → Prop) (t0 t1 : Value) (w : World) : Prop :=
  Bn Tryz.prog (Builtin.len_ #[23] 3 #[t0]) w fun t7 w_1 =>
  Bn Tryz.prog (Builtin.len_ #[23] 3 #[t1]) w_1 fun t9 w_2 =>
  Pu Tryz.prog (bopS Go.BinOp.neq 3 (Go.Operand.tmp 7) (Go.Operand.tmp 9) t7 t9) fun t10 =>
  condV t10
   (K (Go.Value.bool false) w_2)
   (∃ (I : Value → World → Prop) (μ : Value → World → Nat), I (Go.Value.int Go.IntKind.i64 0) w_2 ∧
   ∀ (u11 u12 u13 u14 u17 u18 u19 u20 u21 u22 u23 u24 u25 u4 u15 u16 u5 : Value) (w_3 : World), I u5 w_3 →
   Bn Tryz.prog (Builtin.len_ #[23] 3 #[t0]) w_3 fun t13 w_4 =>
   Pu Tryz.prog (bopS Go.BinOp.lss 3 (Go.Operand.tmp 11) (Go.Operand.tmp 13) u5 t13) fun t14 =>
   condV t14
    (∃ S R : World → Prop, S w_4.drew ∧ (∀ w_5, S w_5 → R w_5) ∧
   Pu Tryz.prog (Instr.indexAt 23 t0 u5) fun t19 =>
   Pu Tryz.prog (Instr.indexAt 23 t1 u5) fun t23 =>
   ∃ t20, (∀ w_6, R w_6 → (Instr.loadAt 82 t19).run Tryz.prog w_6 = .ok t20 w_6) ∧
   ∃ t24, (∀ w_7, R w_7 → (Instr.loadAt 82 t23).run Tryz.prog w_7 = .ok t24 w_7) ∧
   Pu Tryz.prog (bopS Go.BinOp.neq 82 (Go.Operand.tmp 20) (Go.Operand.tmp 24) t20 t24) fun t25 =>
   ∀ w_8, S w_8 →
   condV t25
    (K (Go.Value.bool false) w_8)
    (Pu Tryz.prog (bopS Go.BinOp.add 3 (Go.Operand.tmp 15) (Go.Operand.const (Go.Value.int Go.IntKind.i64 1)) u5 (Go.Value.int Go.IntKind.i64 1)) fun t16 =>
   I t16 w_8 ∧ μ t16 w_8 < μ u5 w_3))
    (K (Go.Value.bool true) w_4))

def alumref04_SameImage_ann : Ann :=
  { loop := fun r => match r with | 4 => [5] | _ => [],
    plan := fun r => match r with | 6 => (.pure 0 (.pure 1 (.pure 2 (.pure 4 (.pure 5 (.pure 6 (.load 3 [3, 8] (.load 7 [7, 8] (.pure 8 .done))))))))) | _ => .done,
    hold := fun r => match r with | 6 => (fun i => match i with | 7 => true | _ => false) | _ => fun _ => false,
    join := fun _ => none }

theorem alumref04_SameImage_ok {K : Value → World → Prop} {t0 t1 : Value} {w : World} (h : alumref04_SameImage_w K t0 t1 w) : Calls Tryz.prog 21 #[t0, t1] w (Rt K) :=
  calls_of_wpC (A := alumref04_SameImage_ann) (c := Tryz.f21.body.getD .skip) (args := [t0, t1]) mixed Tryz.func21 rfl (by kernel_rfl) (Eq.mp (by kernel_rfl) h)

theorem alumref04_SameImage_en : enters Tryz.prog 21 = true := by kernel_rfl

theorem alumref04_SameImage_cl {K : Value → World → Prop} {t0 t1 : Value} {w : World} (h : Calls Tryz.prog 21 #[t0, t1] w (Rt K)) : Cl Tryz.prog 21 #[t0, t1] w K := ⟨alumref04_SameImage_en, h⟩

def alumref04_SameSeen_w (K : Value → World → Prop) (t0 t1 : Value) (w : World) : Prop :=
  Bn Tryz.prog (Builtin.len_ #[63] 3 #[t0]) w fun t7 w_1 =>
  Bn Tryz.prog (Builtin.len_ #[63] 3 #[t1]) w_1 fun t9 w_2 =>
  Pu Tryz.prog (bopS Go.BinOp.neq 3 (Go.Operand.tmp 7) (Go.Operand.tmp 9) t7 t9) fun t10 =>
  condV t10
   (K (Go.Value.bool false) w_2)
   (∃ (I : Value → World → Prop) (μ : Value → World → Nat), I (Go.Value.int Go.IntKind.i64 0) w_2 ∧
   ∀ (u11 u12 u13 u14 u17 u18 u19 u20 u21 u22 u23 u24 u25 u4 u15 u16 u5 : Value) (w_3 : World), I u5 w_3 →
   Bn Tryz.prog (Builtin.len_ #[63] 3 #[t0]) w_3 fun t13 w_4 =>
   Pu Tryz.prog (bopS Go.BinOp.lss 3 (Go.Operand.tmp 11) (Go.Operand.tmp 13) u5 t13) fun t14 =>
   condV t14
    (∃ S R : World → Prop, S w_4.drew ∧ (∀ w_5, S w_5 → R w_5) ∧
   Pu Tryz.prog (Instr.indexAt 63 t0 u5) fun t19 =>
   Pu Tryz.prog (Instr.indexAt 63 t1 u5) fun t23 =>
   ∃ t20, (∀ w_6, R w_6 → (Instr.loadAt 80 t19).run Tryz.prog w_6 = .ok t20 w_6) ∧
   ∃ t24, (∀ w_7, R w_7 → (Instr.loadAt 80 t23).run Tryz.prog w_7 = .ok t24 w_7) ∧
   Pu Tryz.prog (bopS Go.BinOp.neq 80 (Go.Operand.tmp 20) (Go.Operand.tmp 24) t20 t24) fun t25 =>
   ∀ w_8, S w_8 →
   condV t25
    (K (Go.Value.bool false) w_8)
    (Pu Tryz.prog (bopS Go.BinOp.add 3 (Go.Operand.tmp 15) (Go.Operand.const (Go.Value.int Go.IntKind.i64 1)) u5 (Go.Value.int Go.IntKind.i64 1)) fun t16 =>
   I t16 w_8 ∧ μ t16 w_8 < μ u5 w_3))
    (K (Go.Value.bool true) w_4))

def alumref04_SameSeen_ann : Ann :=
  { loop := fun r => match r with | 4 => [5] | _ => [],
    plan := fun r => match r with | 6 => (.pure 0 (.pure 1 (.pure 2 (.pure 4 (.pure 5 (.pure 6 (.load 3 [3, 8] (.load 7 [7, 8] (.pure 8 .done))))))))) | _ => .done,
    hold := fun r => match r with | 6 => (fun i => match i with | 7 => true | _ => false) | _ => fun _ => false,
    join := fun _ => none }

theorem alumref04_SameSeen_ok {K : Value → World → Prop} {t0 t1 : Value} {w : World} (h : alumref04_SameSeen_w K t0 t1 w) : Calls Tryz.prog 31 #[t0, t1] w (Rt K) :=
  calls_of_wpC (A := alumref04_SameSeen_ann) (c := Tryz.f31.body.getD .skip) (args := [t0, t1]) mixed Tryz.func31 rfl (by kernel_rfl) (Eq.mp (by kernel_rfl) h)

theorem alumref04_SameSeen_en : enters Tryz.prog 31 = true := by kernel_rfl

theorem alumref04_SameSeen_cl {K : Value → World → Prop} {t0 t1 : Value} {w : World} (h : Calls Tryz.prog 31 #[t0, t1] w (Rt K)) : Cl Tryz.prog 31 #[t0, t1] w K := ⟨alumref04_SameSeen_en, h⟩

end Go.Proofs.YtlolaieolgmdnaaGreatDoor
