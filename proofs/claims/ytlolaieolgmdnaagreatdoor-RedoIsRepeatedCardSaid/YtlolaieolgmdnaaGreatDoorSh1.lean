import Derived.Test.YtlolaieolgmdnaaGreatDoorWpC
import Derived.Test.YtlolaieolgmdnaaGreatDoorProg
import Derived.KernelRfl
namespace Go.Proofs.YtlolaieolgmdnaaGreatDoor
open Go.RowKit
set_option linter.unusedVariables false
set_option maxRecDepth 100000

theorem mixed : Tryz.prog.follows .mixedOrders = true := by kernel_rfl

def memory_word_w (K : Value → World → Prop) (t0 : Value) (w : World) : Prop :=
  Pu Tryz.prog (bopS Go.BinOp.geq 3 (Go.Operand.tmp 3) (Go.Operand.const (Go.Value.int Go.IntKind.i64 0)) t0 (Go.Value.int Go.IntKind.i64 0)) fun t4 =>
  condV t4
  (Pu Tryz.prog (bopS Go.BinOp.leq 3 (Go.Operand.tmp 6) (Go.Operand.const (Go.Value.int Go.IntKind.i64 1099511627775)) t0 (Go.Value.int Go.IntKind.i64 1099511627775)) fun t7 =>
  K t7 w)
  (K (Go.Value.bool false) w)

def memory_word_ann : Ann :=
  { loop := fun _ => [],
    plan := fun _ => .done,
    hold := fun _ => fun _ => false,
    join := fun _ => none }

theorem memory_word_ok {K : Value → World → Prop} {t0 : Value} {w : World} (h : memory_word_w K t0 w) : Calls Tryz.prog 83 #[t0] w (Rt K) :=
  calls_of_wpC (A := memory_word_ann) (c := Tryz.f83.body.getD .skip) (args := [t0]) mixed Tryz.func83 rfl (by kernel_rfl) (Eq.mp (by kernel_rfl) h)

theorem memory_word_en : enters Tryz.prog 83 = true := by kernel_rfl

theorem memory_word_cl {K : Value → World → Prop} {t0 : Value} {w : World} (h : Calls Tryz.prog 83 #[t0] w (Rt K)) : Cl Tryz.prog 83 #[t0] w K := ⟨memory_word_en, h⟩

def memory_words_1_w (K : Value → World → Prop) (t0 : Value) (w : World) : Prop :=
  Cl Tryz.prog 83 #[t0] w fun t4 w_1 =>
  Pu Tryz.prog (Op.unary Go.UnOp.not t4) fun t5 =>
  K t5 w_1

def memory_words_1_ann : Ann :=
  { loop := fun _ => [],
    plan := fun _ => .done,
    hold := fun _ => fun _ => false,
    join := fun _ => none }

theorem memory_words_1_ok {K : Value → World → Prop} {t0 : Value} {w : World} (h : memory_words_1_w K t0 w) : Calls Tryz.prog 82 #[t0] w (Rt K) :=
  calls_of_wpC (A := memory_words_1_ann) (c := Tryz.f82.body.getD .skip) (args := [t0]) mixed Tryz.func82 rfl (by kernel_rfl) (Eq.mp (by kernel_rfl) h)

theorem memory_words_1_en : enters Tryz.prog 82 = true := by kernel_rfl

theorem memory_words_1_cl {K : Value → World → Prop} {t0 : Value} {w : World} (h : Calls Tryz.prog 82 #[t0] w (Rt K)) : Cl Tryz.prog 82 #[t0] w K := ⟨memory_words_1_en, h⟩

def memory_Memory_Lines_w (K : Value → World → Prop) (t0 : Value) (w : World) : Prop :=
  Pu Tryz.prog (nilC t0) fun t4 =>
  Pu Tryz.prog (Instr.fieldAt 88 t4 0) fun t5 =>
  Bn Tryz.prog (Instr.loadAt 79 t5) w fun t6 w_1 =>
  Bn Tryz.prog (Builtin.len_ #[79] 3 #[t6]) w_1 fun t7 w_2 =>
  K t7 w_2

def memory_Memory_Lines_ann : Ann :=
  { loop := fun _ => [],
    plan := fun _ => .done,
    hold := fun _ => fun _ => false,
    join := fun _ => none }

theorem memory_Memory_Lines_ok {K : Value → World → Prop} {t0 : Value} {w : World} (h : memory_Memory_Lines_w K t0 w) : Calls Tryz.prog 39 #[t0] w (Rt K) :=
  calls_of_wpC (A := memory_Memory_Lines_ann) (c := Tryz.f39.body.getD .skip) (args := [t0]) mixed Tryz.func39 rfl (by kernel_rfl) (Eq.mp (by kernel_rfl) h)

theorem memory_Memory_Lines_en : enters Tryz.prog 39 = true := by kernel_rfl

theorem memory_Memory_Lines_cl {K : Value → World → Prop} {t0 : Value} {w : World} (h : Calls Tryz.prog 39 #[t0] w (Rt K)) : Cl Tryz.prog 39 #[t0] w K := ⟨memory_Memory_Lines_en, h⟩

def memory_Memory_has_w (K : Value → World → Prop) (t0 t1 : Value) (w : World) : Prop :=
  Pu Tryz.prog (bopS Go.BinOp.geq 3 (Go.Operand.tmp 5) (Go.Operand.const (Go.Value.int Go.IntKind.i64 0)) t1 (Go.Value.int Go.IntKind.i64 0)) fun t6 =>
  condV t6
  (Pu Tryz.prog (nilC t0) fun t10 =>
  Pu Tryz.prog (Instr.fieldAt 88 t10 0) fun t11 =>
  Bn Tryz.prog (Instr.loadAt 79 t11) w fun t12 w_1 =>
  Bn Tryz.prog (Builtin.len_ #[79] 3 #[t12]) w_1 fun t13 w_2 =>
  Pu Tryz.prog (bopS Go.BinOp.lss 3 (Go.Operand.tmp 8) (Go.Operand.tmp 13) t1 t13) fun t14 =>
  K t14 w_2)
  (K (Go.Value.bool false) w)

def memory_Memory_has_ann : Ann :=
  { loop := fun _ => [],
    plan := fun _ => .done,
    hold := fun _ => fun _ => false,
    join := fun _ => none }

theorem memory_Memory_has_ok {K : Value → World → Prop} {t0 t1 : Value} {w : World} (h : memory_Memory_has_w K t0 t1 w) : Calls Tryz.prog 75 #[t0, t1] w (Rt K) :=
  calls_of_wpC (A := memory_Memory_has_ann) (c := Tryz.f75.body.getD .skip) (args := [t0, t1]) mixed Tryz.func75 rfl (by kernel_rfl) (Eq.mp (by kernel_rfl) h)

theorem memory_Memory_has_en : enters Tryz.prog 75 = true := by kernel_rfl

theorem memory_Memory_has_cl {K : Value → World → Prop} {t0 t1 : Value} {w : World} (h : Calls Tryz.prog 75 #[t0, t1] w (Rt K)) : Cl Tryz.prog 75 #[t0, t1] w K := ⟨memory_Memory_has_en, h⟩

def memory_words_w (K : Value → World → Prop) (t0 : Value) (w : World) : Prop :=
  Bn Tryz.prog (Instr.box 80 t0) w fun t1 w_1 =>
  Pu Tryz.prog (Instr.sliceAt 80 t1 none none none) fun t3 =>
  Cl Tryz.prog 81 #[t3, (Value.func (Fn.func 82) #[] #[])] w_1 fun t4 w_2 =>
  Pu Tryz.prog (Op.unary Go.UnOp.not t4) fun t5 =>
  K t5 w_2

def memory_words_ann : Ann :=
  { loop := fun _ => [],
    plan := fun _ => .done,
    hold := fun _ => fun _ => false,
    join := fun _ => none }

theorem memory_words_ok {K : Value → World → Prop} {t0 : Value} {w : World} (h : memory_words_w K t0 w) : Calls Tryz.prog 45 #[t0] w (Rt K) :=
  calls_of_wpC (A := memory_words_ann) (c := Tryz.f45.body.getD .skip) (args := [t0]) mixed Tryz.func45 rfl (by kernel_rfl) (Eq.mp (by kernel_rfl) h)

theorem memory_words_en : enters Tryz.prog 45 = true := by kernel_rfl

theorem memory_words_cl {K : Value → World → Prop} {t0 : Value} {w : World} (h : Calls Tryz.prog 45 #[t0] w (Rt K)) : Cl Tryz.prog 45 #[t0] w K := ⟨memory_words_en, h⟩

def memory_From_w (K : Value → World → Prop) (t0 : Value) (w : World) : Prop :=
  Bn Tryz.prog (Builtin.len_ #[23] 3 #[t0]) w fun t7 w_1 =>
  Pu Tryz.prog (bopS Go.BinOp.lss 3 (Go.Operand.tmp 7) (Go.Operand.const (Go.Value.int Go.IntKind.i64 1)) t7 (Go.Value.int Go.IntKind.i64 1)) fun t8 =>
  condV t8
  (K (Go.Value.pointer none) w_1)
  (Bn Tryz.prog (Builtin.len_ #[23] 3 #[t0]) w_1 fun t11 w_2 =>
  Pu Tryz.prog (bopS Go.BinOp.gtr 3 (Go.Operand.tmp 11) (Go.Operand.const (Go.Value.int Go.IntKind.i64 4096)) t11 (Go.Value.int Go.IntKind.i64 4096)) fun t12 =>
  condV t12
   (K (Go.Value.pointer none) w_2)
   (Bn Tryz.prog (Builtin.len_ #[23] 3 #[t0]) w_2 fun t15 w_3 =>
  Bn Tryz.prog (Instr.makeSlice 79 t15 t15) w_3 fun t16 w_4 =>
  Bn Tryz.prog (Builtin.len_ #[23] 3 #[t0]) w_4 fun t18 w_5 =>
  ∃ (I : Value → World → Prop) (μ : Value → World → Nat), I (Go.Value.int Go.IntKind.i64 0) w_5 ∧
   ∀ (u20 u21 u22 u23 u5 u4 u24 u25 u26 u27 u28 u29 u30 u31 u32 u33 u34 u35 u36 u37 u2 u38 u39 u40 u41 u42 u43 u19 : Value) (w_6 : World), I u19 w_6 →
   Pu Tryz.prog (bopS Go.BinOp.lss 3 (Go.Operand.tmp 19) (Go.Operand.tmp 18) u19 t18) fun t20 =>
   condV t20
    (Pu Tryz.prog (Instr.indexAt 23 t0 u19) fun t22 =>
   Bn Tryz.prog (Instr.loadAt 82 t22) w_6 fun t23 w_7 =>
   Bn Tryz.prog (Instr.alloc 82 true (Value.tuple #[])) w_7 fun t5 w_8 =>
   Bn Tryz.prog (unitV (Instr.storeAt 82 t5 t23)) w_8 fun _ w_9 =>
   Pu Tryz.prog (Instr.fieldAt 82 t5 0) fun t24 =>
   Bn Tryz.prog (Instr.loadAt 80 t24) w_9 fun t25 w_10 =>
   Cl Tryz.prog 45 #[t25] w_10 fun t26 w_11 =>
   Pu Tryz.prog (Op.unary Go.UnOp.not t26) fun t27 =>
   condV t27
   (K (Go.Value.pointer none) w_11)
   (Pu Tryz.prog (Instr.fieldAt 82 t5 1) fun t29 =>
   Bn Tryz.prog (Instr.loadAt 3 t29) w_11 fun t30 w_12 =>
   Pu Tryz.prog (bopS Go.BinOp.lss 3 (Go.Operand.tmp 30) (Go.Operand.const (Go.Value.int Go.IntKind.i64 0)) t30 (Go.Value.int Go.IntKind.i64 0)) fun t31 =>
   condV t31
   (K (Go.Value.pointer none) w_12)
   (Pu Tryz.prog (Instr.fieldAt 82 t5 1) fun t34 =>
   Bn Tryz.prog (Instr.loadAt 3 t34) w_12 fun t35 w_13 =>
   Pu Tryz.prog (bopS Go.BinOp.geq 3 (Go.Operand.tmp 35) (Go.Operand.const (Go.Value.int Go.IntKind.i64 1024)) t35 (Go.Value.int Go.IntKind.i64 1024)) fun t36 =>
   condV t36
    (K (Go.Value.pointer none) w_13)
    (Bn Tryz.prog (Instr.loadAt 82 t5) w_13 fun t40 w_14 =>
   Pu Tryz.prog (Instr.indexAt 79 t16 u19) fun t41 =>
   Pu Tryz.prog (Instr.fieldAt 85 t41 0) fun t42 =>
   Bn Tryz.prog (unitV (Instr.storeAt 82 t42 t40)) w_14 fun _ w_15 =>
   Pu Tryz.prog (bopS Go.BinOp.add 3 (Go.Operand.tmp 19) (Go.Operand.const (Go.Value.int Go.IntKind.i64 1)) u19 (Go.Value.int Go.IntKind.i64 1)) fun t43 =>
   I t43 w_15 ∧ μ t43 w_15 < μ u19 w_6))))
    (Bn Tryz.prog (Instr.makeMap 86 none) w_6 fun t45 w_16 =>
  Pu Tryz.prog (Instr.build 88 #[(0, t16), (1, t45)]) fun t46 =>
  Bn Tryz.prog (Instr.box 88 t46) w_16 fun t47 w_17 =>
  K t47 w_17)))

def memory_From_ann : Ann :=
  { loop := fun r => match r with | 5 => [19] | _ => [],
    plan := fun _ => .done,
    hold := fun _ => fun _ => false,
    join := fun _ => none }

theorem memory_From_ok {K : Value → World → Prop} {t0 : Value} {w : World} (h : memory_From_w K t0 w) : Calls Tryz.prog 6 #[t0] w (Rt K) :=
  calls_of_wpC (A := memory_From_ann) (c := Tryz.f6.body.getD .skip) (args := [t0]) mixed Tryz.func6 rfl (by kernel_rfl) (Eq.mp (by kernel_rfl) h)

theorem memory_From_en : enters Tryz.prog 6 = true := by kernel_rfl

theorem memory_From_cl {K : Value → World → Prop} {t0 : Value} {w : World} (h : Calls Tryz.prog 6 #[t0] w (Rt K)) : Cl Tryz.prog 6 #[t0] w K := ⟨memory_From_en, h⟩

def memory_New_w (K : Value → World → Prop) (t0 : Value) (w : World) : Prop :=
  Pu Tryz.prog (bopS Go.BinOp.lss 3 (Go.Operand.tmp 6) (Go.Operand.const (Go.Value.int Go.IntKind.i64 1)) t0 (Go.Value.int Go.IntKind.i64 1)) fun t7 =>
  condV t7
  (K (Go.Value.pointer none) w)
  (Pu Tryz.prog (bopS Go.BinOp.gtr 3 (Go.Operand.tmp 9) (Go.Operand.const (Go.Value.int Go.IntKind.i64 4096)) t0 (Go.Value.int Go.IntKind.i64 4096)) fun t10 =>
  condV t10
   (K (Go.Value.pointer none) w)
   (Bn Tryz.prog (Instr.makeSlice 79 t0 t0) w fun t13 w_1 =>
  Pu Tryz.prog (Instr.build 80 #[]) fun t14 =>
  Cl Tryz.prog 85 #[t14] w_1 fun t15 w_2 =>
  Bn Tryz.prog (Builtin.len_ #[79] 3 #[t13]) w_2 fun t17 w_3 =>
  ∃ (I : Value → World → Prop) (μ : Value → World → Nat), I (Go.Value.int Go.IntKind.i64 0) w_3 ∧
   ∀ (u19 u20 u5 u21 u22 u23 u24 u25 u26 u27 u18 : Value) (w_4 : World), I u18 w_4 →
   Pu Tryz.prog (bopS Go.BinOp.lss 3 (Go.Operand.tmp 18) (Go.Operand.tmp 17) u18 t17) fun t19 =>
   condV t19
    (Pu Tryz.prog (Instr.indexAt 79 t13 u18) fun t24 =>
   Pu Tryz.prog (Instr.fieldAt 85 t24 0) fun t25 =>
   Pu Tryz.prog (Instr.fieldAt 82 t25 1) fun t26 =>
   Bn Tryz.prog (unitV (Instr.storeAt 3 t26 t15)) w_4 fun _ w_5 =>
   Pu Tryz.prog (bopS Go.BinOp.add 3 (Go.Operand.tmp 18) (Go.Operand.const (Go.Value.int Go.IntKind.i64 1)) u18 (Go.Value.int Go.IntKind.i64 1)) fun t27 =>
   I t27 w_5 ∧ μ t27 w_5 < μ u18 w_4)
    (Bn Tryz.prog (Instr.makeMap 86 none) w_4 fun t29 w_6 =>
  Pu Tryz.prog (Instr.build 88 #[(0, t13), (1, t29)]) fun t30 =>
  Bn Tryz.prog (Instr.box 88 t30) w_6 fun t31 w_7 =>
  K t31 w_7)))

def memory_New_ann : Ann :=
  { loop := fun r => match r with | 6 => [18] | _ => [],
    plan := fun _ => .done,
    hold := fun _ => fun _ => false,
    join := fun _ => none }

theorem memory_New_ok {K : Value → World → Prop} {t0 : Value} {w : World} (h : memory_New_w K t0 w) : Calls Tryz.prog 47 #[t0] w (Rt K) :=
  calls_of_wpC (A := memory_New_ann) (c := Tryz.f47.body.getD .skip) (args := [t0]) mixed Tryz.func47 rfl (by kernel_rfl) (Eq.mp (by kernel_rfl) h)

theorem memory_New_en : enters Tryz.prog 47 = true := by kernel_rfl

theorem memory_New_cl {K : Value → World → Prop} {t0 : Value} {w : World} (h : Calls Tryz.prog 47 #[t0] w (Rt K)) : Cl Tryz.prog 47 #[t0] w K := ⟨memory_New_en, h⟩

def memory_Memory_State_w (K : Value → World → Prop) (t0 t1 : Value) (w : World) : Prop :=
  Cl Tryz.prog 75 #[t0, t1] w fun t10 w_1 =>
  Pu Tryz.prog (Op.unary Go.UnOp.not t10) fun t11 =>
  condV t11
   (K (Go.Value.int Go.IntKind.i64 (-1)) w_1)
   (∃ S R : World → Prop, S w_1.drew ∧ (∀ w_2, S w_2 → R w_2) ∧
  Pu Tryz.prog (nilC t0) fun t14 =>
  Pu Tryz.prog (Instr.fieldAt 88 t14 0) fun t15 =>
  Pu Tryz.prog (nilC t0) fun t23 =>
  Pu Tryz.prog (Instr.fieldAt 88 t23 0) fun t24 =>
  ∃ t16, (∀ w_3, R w_3 → (Instr.loadAt 79 t15).run Tryz.prog w_3 = .ok t16 w_3) ∧
  Pu Tryz.prog (Instr.indexAt 79 t16 t1) fun t18 =>
  Pu Tryz.prog (Instr.fieldAt 85 t18 0) fun t19 =>
  Pu Tryz.prog (Instr.fieldAt 82 t19 0) fun t20 =>
  ∃ t21, (∀ w_4, R w_4 → (Instr.loadAt 80 t20).run Tryz.prog w_4 = .ok t21 w_4) ∧
  ∃ t25, (∀ w_5, R w_5 → (Instr.loadAt 79 t24).run Tryz.prog w_5 = .ok t25 w_5) ∧
  Pu Tryz.prog (Instr.indexAt 79 t25 t1) fun t27 =>
  Pu Tryz.prog (Instr.fieldAt 85 t27 0) fun t28 =>
  Pu Tryz.prog (Instr.fieldAt 82 t28 1) fun t29 =>
  ∃ t30, (∀ w_6, R w_6 → (Instr.loadAt 3 t29).run Tryz.prog w_6 = .ok t30 w_6) ∧
  (∀ w_7, S w_7 →
  Cl Tryz.prog 77 #[t21, t30] w_7 fun t31 w_8 =>
  ∃ S_1 R_1 : World → Prop, S_1 w_8 ∧ (∀ w_10, S_1 w_10 → R_1 w_10) ∧ True ∧
  Pu Tryz.prog (Instr.extract t31 0) fun t32 =>
  Pu Tryz.prog (Instr.extract t31 1) fun t33 =>
  Pu Tryz.prog (Instr.extract t31 2) fun t34 =>
  ∀ w_11, S_1 w_11 →
  K t32 w_11) ∧
  True)

def memory_Memory_State_ann : Ann :=
  { loop := fun _ => [],
    plan := fun r => match r with | 3 => (.pure 0 (.pure 1 (.pure 2 (.pure 4 (.pure 9 (.pure 10 (.pure 11 (.pure 13 (.load 3 [3, 5, 6, 7, 8, 18, 19, 20, 21, 22, 23, 24, 25] (.pure 5 (.pure 6 (.pure 7 (.load 8 [8, 18, 19, 20, 21, 22, 23, 24, 25] (.load 12 [12, 14, 15, 16, 17, 18, 19, 20, 21, 22, 23, 24, 25] (.pure 14 (.pure 15 (.pure 16 (.load 17 [17, 18, 19, 20, 21, 22, 23, 24, 25] (.alt 18 (.pure 19 (.pure 20 (.pure 21 (.pure 22 (.pure 23 (.pure 24 (.pure 25 .done))))))) .stop))))))))))))))))))) | _ => .done,
    hold := fun r => match r with | 3 => (fun i => match i with | 12 => true | 14 => true | 15 => true | 16 => true | 17 => true | _ => false) | _ => fun _ => false,
    join := fun _ => none }

theorem memory_Memory_State_ok {K : Value → World → Prop} {t0 t1 : Value} {w : World} (h : memory_Memory_State_w K t0 t1 w) : Calls Tryz.prog 40 #[t0, t1] w (Rt K) :=
  calls_of_wpC (A := memory_Memory_State_ann) (c := Tryz.f40.body.getD .skip) (args := [t0, t1]) mixed Tryz.func40 rfl (by kernel_rfl) (Eq.mp (by kernel_rfl) h)

theorem memory_Memory_State_en : enters Tryz.prog 40 = true := by kernel_rfl

theorem memory_Memory_State_cl {K : Value → World → Prop} {t0 t1 : Value} {w : World} (h : Calls Tryz.prog 40 #[t0, t1] w (Rt K)) : Cl Tryz.prog 40 #[t0, t1] w K := ⟨memory_Memory_State_en, h⟩

def memory_line_shows_w (K : Value → World → Prop) (t0 t1 : Value) (w : World) : Prop :=
  Bn Tryz.prog (Instr.alloc 80 true (Value.tuple #[])) w fun t4 w_1 =>
  ∃ J : Value → Value → World → Prop,
  (∃ S R : World → Prop, S w_1.drew ∧ (∀ w_2, S w_2 → R w_2) ∧
  Pu Tryz.prog (nilC t0) fun t13 =>
  Pu Tryz.prog (Instr.fieldAt 85 t13 0) fun t14 =>
  Pu Tryz.prog (Instr.fieldAt 82 t14 0) fun t15 =>
  Pu Tryz.prog (nilC t0) fun t18 =>
  Pu Tryz.prog (Instr.fieldAt 85 t18 0) fun t19 =>
  Pu Tryz.prog (Instr.fieldAt 82 t19 1) fun t20 =>
  ∃ t16, (∀ w_3, R w_3 → (Instr.loadAt 80 t15).run Tryz.prog w_3 = .ok t16 w_3) ∧
  ∃ t21, (∀ w_4, R w_4 → (Instr.loadAt 3 t20).run Tryz.prog w_4 = .ok t21 w_4) ∧
  (∀ w_5, S w_5 →
  Cl Tryz.prog 95 #[t16, t21] w_5 fun t22 w_6 =>
  ∃ S_1 R_1 : World → Prop, S_1 w_6 ∧ (∀ w_8, S_1 w_8 → R_1 w_8) ∧ True ∧
  Pu Tryz.prog (Instr.extract t22 0) fun t23 =>
  Pu Tryz.prog (Instr.extract t22 1) fun t24 =>
  Pu Tryz.prog (Instr.extract t22 2) fun t25 =>
  (∀ w_9, S_1 w_9 →
  Bn Tryz.prog (Instr.alloc 80 true (Value.tuple #[])) w_9 fun t6 w_10 =>
  ∃ S_2 R_2 : World → Prop, S_2 w_10 ∧ (∀ w_12, S_2 w_12 → R_2 w_12) ∧ (∀ w_11, R_2 w_11 → R_1 w_11) ∧
  (∀ w_13, S_2 w_13 →
  Bn Tryz.prog (unitV (Instr.storeAt 80 t6 t23)) w_13 fun _ w_14 =>
  ∃ S_3 R_3 : World → Prop, S_3 w_14 ∧ (∀ w_16, S_3 w_16 → R_3 w_16) ∧ True ∧
  ∀ w_17, S_3 w_17 →
  J t6 t25 w_17) ∧
  True) ∧
  True) ∧
  (∀ w_18, S w_18 →
  Bn Tryz.prog (Instr.alloc 80 true (Value.tuple #[])) w_18 fun t6_1 w_19 =>
  ∃ S_4 R_4 : World → Prop, S_4 w_19 ∧ (∀ w_21, S_4 w_21 → R_4 w_21) ∧ (∀ w_20, R_4 w_20 → R w_20) ∧
  (∀ w_22, S_4 w_22 →
  Cl Tryz.prog 95 #[t16, t21] w_22 fun t22_1 w_23 =>
  ∃ S_5 R_5 : World → Prop, S_5 w_23 ∧ (∀ w_25, S_5 w_25 → R_5 w_25) ∧ True ∧
  Pu Tryz.prog (Instr.extract t22_1 0) fun t23_1 =>
  Pu Tryz.prog (Instr.extract t22_1 1) fun t24_1 =>
  Pu Tryz.prog (Instr.extract t22_1 2) fun t25_1 =>
  (∀ w_26, S_5 w_26 →
  Bn Tryz.prog (unitV (Instr.storeAt 80 t6_1 t23_1)) w_26 fun _ w_27 =>
  ∃ S_6 R_6 : World → Prop, S_6 w_27 ∧ (∀ w_29, S_6 w_29 → R_6 w_29) ∧ True ∧
  ∀ w_30, S_6 w_30 →
  J t6_1 t25_1 w_30) ∧
  True) ∧
  True) ∧
  True) ∧
  (∀ (u12 u13 u14 u15 u16 u17 u18 u19 u20 u21 u22 u11 u23 u24 u25 u6 u7 u8 : Value), ∀ w_31 : World, J u6 u8 w_31 →
  Pu Tryz.prog (bopS Go.BinOp.neq 40 (Go.Operand.tmp 26) (Go.Operand.const (Go.Value.int Go.IntKind.i64 0)) u8 (Go.Value.int Go.IntKind.i64 0)) fun t27 =>
  condV t27
   (Pu Tryz.prog (Instr.build 80 #[]) fun t28 =>
   Bn Tryz.prog (unitV (Instr.storeAt 80 t4 t28)) w_31 fun _ w_32 =>
   ∃ r, (Instr.loadAt 80 t4).run Tryz.prog w_32 = .ok r w_32 ∧ K (Value.tuple #[r, u8]) w_32)
   (Pu Tryz.prog (nilC t0) fun t31 =>
  Pu Tryz.prog (Instr.fieldAt 85 t31 1) fun t32 =>
  Bn Tryz.prog (Instr.loadAt 67 t32) w_31 fun t33 w_33 =>
  Pu Tryz.prog (Instr.sliceAt 67 t33 none (some t1) none) fun t35 =>
  Bn Tryz.prog (Builtin.len_ #[67] 3 #[t35]) w_33 fun t36 w_34 =>
  ∃ (I : Value → World → Prop) (μ : Value → World → Nat), I (Go.Value.int Go.IntKind.i64 0) w_34 ∧
   ∀ (u38 u39 u40 u10 u41 u42 u43 u44 u45 u46 u37 : Value) (w_35 : World), I u37 w_35 →
   Pu Tryz.prog (bopS Go.BinOp.lss 3 (Go.Operand.tmp 37) (Go.Operand.tmp 36) u37 t36) fun t38 =>
   condV t38
    (Pu Tryz.prog (Instr.indexAt 67 t35 u37) fun t39 =>
   Bn Tryz.prog (Instr.loadAt 118 t39) w_35 fun t40 w_36 =>
   Bn Tryz.prog (Instr.alloc 118 true (Value.tuple #[])) w_36 fun t10 w_37 =>
   Bn Tryz.prog (unitV (Instr.storeAt 118 t10 t40)) w_37 fun _ w_38 =>
   Pu Tryz.prog (Instr.fieldAt 118 t10 0) fun t41 =>
   Bn Tryz.prog (Instr.loadAt 3 t41) w_38 fun t42 w_39 =>
   Pu Tryz.prog (Instr.fieldAt 118 t10 1) fun t43 =>
   Bn Tryz.prog (Instr.loadAt 3 t43) w_39 fun t44 w_40 =>
   Pu Tryz.prog (Instr.indexAt 80 u6 t42) fun t45 =>
   Bn Tryz.prog (unitV (Instr.storeAt 3 t45 t44)) w_40 fun _ w_41 =>
   Pu Tryz.prog (bopS Go.BinOp.add 3 (Go.Operand.tmp 37) (Go.Operand.const (Go.Value.int Go.IntKind.i64 1)) u37 (Go.Value.int Go.IntKind.i64 1)) fun t46 =>
   I t46 w_41 ∧ μ t46 w_41 < μ u37 w_35)
    (Bn Tryz.prog (Instr.loadAt 80 u6) w_35 fun t47 w_42 =>
  Bn Tryz.prog (unitV (Instr.storeAt 80 t4 t47)) w_42 fun _ w_43 =>
  ∃ r_1, (Instr.loadAt 80 t4).run Tryz.prog w_43 = .ok r_1 w_43 ∧ K (Value.tuple #[r_1, (Go.Value.int Go.IntKind.i64 0)]) w_43)))

def memory_line_shows_ann : Ann :=
  { loop := fun r => match r with | 5 => [37] | _ => [],
    plan := fun r => match r with | 1 => (.pure 0 (.pure 1 (.pure 2 (.pure 3 (.pure 5 (.pure 6 (.pure 7 (.pure 8 (.load 4 [4, 10, 11, 12, 13, 14, 16, 17, 18] (.load 9 [9, 10, 11, 12, 13, 14, 16, 17, 18] (.alt 10 (.pure 11 (.pure 12 (.pure 13 (.pure 14 (.alt 15 (.alt 16 (.pure 17 (.pure 18 .done)) .stop) .stop))))) (.alt 15 (.alt 10 (.pure 11 (.pure 12 (.pure 13 (.pure 14 (.alt 16 (.pure 17 (.pure 18 .done)) .stop))))) .stop) .stop)))))))))))) | _ => .done,
    hold := fun r => match r with | 1 => (fun i => match i with | 9 => true | 15 => true | _ => false) | _ => fun _ => false,
    join := fun r => match r with | 2 => some [6, 8] | _ => none }

theorem memory_line_shows_ok {K : Value → World → Prop} {t0 t1 : Value} {w : World} (h : memory_line_shows_w K t0 t1 w) : Calls Tryz.prog 71 #[t0, t1] w (Rt K) :=
  calls_of_wpC (A := memory_line_shows_ann) (c := Tryz.f71.body.getD .skip) (args := [t0, t1]) mixed Tryz.func71 rfl (by kernel_rfl) (Eq.mp (by kernel_rfl) h)

theorem memory_line_shows_en : enters Tryz.prog 71 = true := by kernel_rfl

theorem memory_line_shows_cl {K : Value → World → Prop} {t0 t1 : Value} {w : World} (h : Calls Tryz.prog 71 #[t0, t1] w (Rt K)) : Cl Tryz.prog 71 #[t0, t1] w K := ⟨memory_line_shows_en, h⟩

def memory_Memory_Load_w (K : Value → World → Prop) (t0 t1 : Value) (w : World) : Prop :=
  Pu Tryz.prog (bopS Go.BinOp.lss 3 (Go.Operand.tmp 9) (Go.Operand.const (Go.Value.int Go.IntKind.i64 0)) t1 (Go.Value.int Go.IntKind.i64 0)) fun t10 =>
  condV t10
  (K (Value.tuple #[(Go.Value.int Go.IntKind.i64 0), (Go.Value.int Go.IntKind.i64 40)]) w)
  (Pu Tryz.prog (bopS Go.BinOp.quo 3 (Go.Operand.tmp 13) (Go.Operand.const (Go.Value.int Go.IntKind.i64 8)) t1 (Go.Value.int Go.IntKind.i64 8)) fun t14 =>
  Cl Tryz.prog 75 #[t0, t14] w fun t15 w_1 =>
  Pu Tryz.prog (Op.unary Go.UnOp.not t15) fun t16 =>
  condV t16
   (K (Value.tuple #[(Go.Value.int Go.IntKind.i64 0), (Go.Value.int Go.IntKind.i64 40)]) w_1)
   (Pu Tryz.prog (nilC t0) fun t19 =>
  Pu Tryz.prog (Instr.fieldAt 88 t19 0) fun t20 =>
  Bn Tryz.prog (Instr.loadAt 79 t20) w_1 fun t21 w_2 =>
  Pu Tryz.prog (bopS Go.BinOp.quo 3 (Go.Operand.tmp 22) (Go.Operand.const (Go.Value.int Go.IntKind.i64 8)) t1 (Go.Value.int Go.IntKind.i64 8)) fun t23 =>
  Pu Tryz.prog (Instr.indexAt 79 t21 t23) fun t24 =>
  Pu Tryz.prog (nilC t24) fun t28 =>
  Pu Tryz.prog (Instr.fieldAt 85 t28 1) fun t29 =>
  Bn Tryz.prog (Instr.loadAt 67 t29) w_2 fun t30 w_3 =>
  Bn Tryz.prog (Builtin.len_ #[67] 3 #[t30]) w_3 fun t31 w_4 =>
  Cl Tryz.prog 71 #[t24, t31] w_4 fun t32 w_5 =>
  Pu Tryz.prog (Instr.extract t32 0) fun t33 =>
  Pu Tryz.prog (Instr.extract t32 1) fun t34 =>
  Bn Tryz.prog (Instr.alloc 80 true (Value.tuple #[])) w_5 fun t7 w_6 =>
  Bn Tryz.prog (unitV (Instr.storeAt 80 t7 t33)) w_6 fun _ w_7 =>
  Pu Tryz.prog (bopS Go.BinOp.neq 40 (Go.Operand.tmp 35) (Go.Operand.const (Go.Value.int Go.IntKind.i64 0)) t34 (Go.Value.int Go.IntKind.i64 0)) fun t36 =>
  condV t36
   (K (Value.tuple #[(Go.Value.int Go.IntKind.i64 0), (Go.Value.int Go.IntKind.i64 9)]) w_7)
   (Pu Tryz.prog (bopS Go.BinOp.rem 3 (Go.Operand.tmp 37) (Go.Operand.const (Go.Value.int Go.IntKind.i64 8)) t1 (Go.Value.int Go.IntKind.i64 8)) fun t38 =>
  Pu Tryz.prog (Instr.indexAt 80 t7 t38) fun t39 =>
  Bn Tryz.prog (Instr.loadAt 3 t39) w_7 fun t40 w_8 =>
  K (Value.tuple #[t40, (Go.Value.int Go.IntKind.i64 0)]) w_8)))

def memory_Memory_Load_ann : Ann :=
  { loop := fun _ => [],
    plan := fun _ => .done,
    hold := fun _ => fun _ => false,
    join := fun _ => none }

theorem memory_Memory_Load_ok {K : Value → World → Prop} {t0 t1 : Value} {w : World} (h : memory_Memory_Load_w K t0 t1 w) : Calls Tryz.prog 38 #[t0, t1] w (Rt K) :=
  calls_of_wpC (A := memory_Memory_Load_ann) (c := Tryz.f38.body.getD .skip) (args := [t0, t1]) mixed Tryz.func38 rfl (by kernel_rfl) (Eq.mp (by kernel_rfl) h)

theorem memory_Memory_Load_en : enters Tryz.prog 38 = true := by kernel_rfl

theorem memory_Memory_Load_cl {K : Value → World → Prop} {t0 t1 : Value} {w : World} (h : Calls Tryz.prog 38 #[t0, t1] w (Rt K)) : Cl Tryz.prog 38 #[t0, t1] w K := ⟨memory_Memory_Load_en, h⟩

def memory_Memory_rest_w (K : Value → World → Prop) (t0 t1 : Value) (w : World) : Prop :=
  Pu Tryz.prog (nilC t0) fun t5 =>
  Pu Tryz.prog (Instr.fieldAt 88 t5 0) fun t6 =>
  Bn Tryz.prog (Instr.loadAt 79 t6) w fun t7 w_1 =>
  Pu Tryz.prog (Instr.indexAt 79 t7 t1) fun t9 =>
  Pu Tryz.prog (Instr.fieldAt 85 t9 1) fun t10 =>
  Bn Tryz.prog (Instr.loadAt 67 t10) w_1 fun t11 w_2 =>
  Bn Tryz.prog (Builtin.len_ #[67] 3 #[t11]) w_2 fun t12 w_3 =>
  Pu Tryz.prog (bopS Go.BinOp.eql 3 (Go.Operand.tmp 12) (Go.Operand.const (Go.Value.int Go.IntKind.i64 0)) t12 (Go.Value.int Go.IntKind.i64 0)) fun t13 =>
  condV t13
   (Pu Tryz.prog (nilC t0) fun t15 =>
   Pu Tryz.prog (Instr.fieldAt 88 t15 1) fun t16 =>
   Bn Tryz.prog (Instr.loadAt 86 t16) w_3 fun t17 w_4 =>
   Bn Tryz.prog (Builtin.delete_ #[86, 3] 0 #[t17, t1]) w_4 fun _ w_5 =>
   K (Value.tuple #[]) w_5)
   (Pu Tryz.prog (nilC t0) fun t20 =>
   Pu Tryz.prog (Instr.fieldAt 88 t20 1) fun t21 =>
   Bn Tryz.prog (Instr.loadAt 86 t21) w_3 fun t22 w_6 =>
   Bn Tryz.prog (unitV (Instr.mapUpdate 86 t22 t1 (Go.Value.bool true))) w_6 fun _ w_7 =>
   K (Value.tuple #[]) w_7)

def memory_Memory_rest_ann : Ann :=
  { loop := fun _ => [],
    plan := fun _ => .done,
    hold := fun _ => fun _ => false,
    join := fun _ => none }

theorem memory_Memory_rest_ok {K : Value → World → Prop} {t0 t1 : Value} {w : World} (h : memory_Memory_rest_w K t0 t1 w) : Calls Tryz.prog 98 #[t0, t1] w (Rt K) :=
  calls_of_wpC (A := memory_Memory_rest_ann) (c := Tryz.f98.body.getD .skip) (args := [t0, t1]) mixed Tryz.func98 rfl (by kernel_rfl) (Eq.mp (by kernel_rfl) h)

theorem memory_Memory_rest_en : enters Tryz.prog 98 = true := by kernel_rfl

theorem memory_Memory_rest_cl {K : Value → World → Prop} {t0 t1 : Value} {w : World} (h : Calls Tryz.prog 98 #[t0, t1] w (Rt K)) : Cl Tryz.prog 98 #[t0, t1] w K := ⟨memory_Memory_rest_en, h⟩

def memory_Memory_settle_w (K : Value → World → Prop) (t0 t1 t2 : Value) (w : World) : Prop :=
  Pu Tryz.prog (nilC t0) fun t8 =>
  Pu Tryz.prog (Instr.fieldAt 88 t8 0) fun t9 =>
  Bn Tryz.prog (Instr.loadAt 79 t9) w fun t10 w_1 =>
  Pu Tryz.prog (Instr.indexAt 79 t10 t1) fun t12 =>
  Pu Tryz.prog (bopS Go.BinOp.eql 3 (Go.Operand.tmp 13) (Go.Operand.const (Go.Value.int Go.IntKind.i64 0)) t2 (Go.Value.int Go.IntKind.i64 0)) fun t14 =>
  condV t14
   (K (Value.tuple #[]) w_1)
   (Cl Tryz.prog 71 #[t12, t2] w_1 fun t19 w_2 =>
  Pu Tryz.prog (Instr.extract t19 0) fun t20 =>
  Pu Tryz.prog (Instr.extract t19 1) fun t21 =>
  Pu Tryz.prog (nilC t12) fun t22 =>
  Pu Tryz.prog (Instr.fieldAt 85 t22 0) fun t23 =>
  Pu Tryz.prog (Instr.fieldAt 82 t23 0) fun t24 =>
  Bn Tryz.prog (unitV (Instr.storeAt 80 t24 t20)) w_2 fun _ w_3 =>
  Pu Tryz.prog (nilC t12) fun t27 =>
  Pu Tryz.prog (Instr.fieldAt 85 t27 0) fun t28 =>
  Pu Tryz.prog (Instr.fieldAt 82 t28 0) fun t29 =>
  Bn Tryz.prog (Instr.loadAt 80 t29) w_3 fun t30 w_4 =>
  Cl Tryz.prog 85 #[t30] w_4 fun t31 w_5 =>
  Pu Tryz.prog (nilC t12) fun t32 =>
  Pu Tryz.prog (Instr.fieldAt 85 t32 0) fun t33 =>
  Pu Tryz.prog (Instr.fieldAt 82 t33 1) fun t34 =>
  Bn Tryz.prog (unitV (Instr.storeAt 3 t34 t31)) w_5 fun _ w_6 =>
  Pu Tryz.prog (nilC t12) fun t37 =>
  Pu Tryz.prog (Instr.fieldAt 85 t37 1) fun t38 =>
  Bn Tryz.prog (Instr.loadAt 67 t38) w_6 fun t39 w_7 =>
  Pu Tryz.prog (Instr.sliceAt 67 t39 (some t2) none none) fun t41 =>
  Cl Tryz.prog 63 #[t41] w_7 fun t42 w_8 =>
  Pu Tryz.prog (nilC t12) fun t43 =>
  Pu Tryz.prog (Instr.fieldAt 85 t43 1) fun t44 =>
  Bn Tryz.prog (unitV (Instr.storeAt 67 t44 t42)) w_8 fun _ w_9 =>
  Pu Tryz.prog (nilC t12) fun t47 =>
  Pu Tryz.prog (Instr.fieldAt 85 t47 2) fun t48 =>
  Bn Tryz.prog (Instr.loadAt 3 t48) w_9 fun t49 w_10 =>
  Pu Tryz.prog (bopS Go.BinOp.sub 3 (Go.Operand.tmp 49) (Go.Operand.tmp 50) t49 t2) fun t51 =>
  Pu Tryz.prog (Builtin.max_ #[3, 3] 3 #[(Go.Value.int Go.IntKind.i64 0), t51]) fun t52 =>
  Pu Tryz.prog (nilC t12) fun t53 =>
  Pu Tryz.prog (Instr.fieldAt 85 t53 2) fun t54 =>
  Bn Tryz.prog (unitV (Instr.storeAt 3 t54 t52)) w_10 fun _ w_11 =>
  Cl Tryz.prog 98 #[t0, t1] w_11 fun t57 w_12 =>
  K (Value.tuple #[]) w_12)

def memory_Memory_settle_ann : Ann :=
  { loop := fun _ => [],
    plan := fun _ => .done,
    hold := fun _ => fun _ => false,
    join := fun _ => none }

theorem memory_Memory_settle_ok {K : Value → World → Prop} {t0 t1 t2 : Value} {w : World} (h : memory_Memory_settle_w K t0 t1 t2 w) : Calls Tryz.prog 76 #[t0, t1, t2] w (Rt K) :=
  calls_of_wpC (A := memory_Memory_settle_ann) (c := Tryz.f76.body.getD .skip) (args := [t0, t1, t2]) mixed Tryz.func76 rfl (by kernel_rfl) (Eq.mp (by kernel_rfl) h)

theorem memory_Memory_settle_en : enters Tryz.prog 76 = true := by kernel_rfl

theorem memory_Memory_settle_cl {K : Value → World → Prop} {t0 t1 t2 : Value} {w : World} (h : Calls Tryz.prog 76 #[t0, t1, t2] w (Rt K)) : Cl Tryz.prog 76 #[t0, t1, t2] w K := ⟨memory_Memory_settle_en, h⟩

def memory_Memory_note_w (K : Value → World → Prop) (t0 t1 : Value) (w : World) : Prop :=
  Bn Tryz.prog (Instr.box 111 t1) w fun t3 w_1 =>
  ∃ S R : World → Prop, S w_1.drew ∧ (∀ w_2, S w_2 → R w_2) ∧
  Pu Tryz.prog (nilC t0) fun t6 =>
  Pu Tryz.prog (Instr.fieldAt 88 t6 3) fun t7 =>
  ∃ t8, (∀ w_3, R w_3 → (Instr.loadAt 31 t7).run Tryz.prog w_3 = .ok t8 w_3) ∧
  ∃ t9, (∀ w_4, R w_4 → (Instr.loadAt 111 t3).run Tryz.prog w_4 = .ok t9 w_4) ∧
  (∀ w_5, S w_5 →
  Bn Tryz.prog (Instr.buildSlice 31 1 #[(0, t9)]) w_5 fun t10 w_6 =>
  ∃ S_1 R_1 : World → Prop, S_1 w_6 ∧ (∀ w_8, S_1 w_8 → R_1 w_8) ∧ (∀ w_7, R_1 w_7 → R w_7) ∧
  (∀ w_9, S_1 w_9 →
  Bn Tryz.prog (Builtin.append_ #[31, 31] 31 #[t8, t10]) w_9 fun t11 w_10 =>
  ∃ S_2 R_2 : World → Prop, S_2 w_10 ∧ (∀ w_12, S_2 w_12 → R_2 w_12) ∧ True ∧
  Pu Tryz.prog (nilC t0) fun t12 =>
  Pu Tryz.prog (Instr.fieldAt 88 t12 3) fun t13 =>
  (∀ w_13, S_2 w_13 →
  Bn Tryz.prog (unitV (Instr.storeAt 31 t13 t11)) w_13 fun _ w_14 =>
  ∃ S_3 R_3 : World → Prop, S_3 w_14 ∧ (∀ w_16, S_3 w_16 → R_3 w_16) ∧ True ∧
  ∀ w_17, S_3 w_17 →
  K (Value.tuple #[]) w_17) ∧
  True) ∧
  True) ∧
  True

def memory_Memory_note_ann : Ann :=
  { loop := fun _ => [],
    plan := fun r => match r with | 1 => (.pure 0 (.pure 1 (.pure 2 (.pure 3 (.load 4 [4, 7, 8, 9, 10] (.load 5 [5, 6, 7, 8, 9, 10] (.alt 6 (.alt 7 (.pure 8 (.pure 9 (.alt 10 .done .stop))) .stop) .stop))))))) | _ => .done,
    hold := fun r => match r with | 1 => (fun i => match i with | 5 => true | 6 => true | _ => false) | _ => fun _ => false,
    join := fun _ => none }

theorem memory_Memory_note_ok {K : Value → World → Prop} {t0 t1 : Value} {w : World} (h : memory_Memory_note_w K t0 t1 w) : Calls Tryz.prog 60 #[t0, t1] w (Rt K) :=
  calls_of_wpC (A := memory_Memory_note_ann) (c := Tryz.f60.body.getD .skip) (args := [t0, t1]) mixed Tryz.func60 rfl (by kernel_rfl) (Eq.mp (by kernel_rfl) h)

theorem memory_Memory_note_en : enters Tryz.prog 60 = true := by kernel_rfl

theorem memory_Memory_note_cl {K : Value → World → Prop} {t0 t1 : Value} {w : World} (h : Calls Tryz.prog 60 #[t0, t1] w (Rt K)) : Cl Tryz.prog 60 #[t0, t1] w K := ⟨memory_Memory_note_en, h⟩

def memory_Memory_put_w (K : Value → World → Prop) (t0 t1 t2 t3 t4 : Value) (w : World) : Prop :=
  Pu Tryz.prog (bopS Go.BinOp.quo 3 (Go.Operand.tmp 12) (Go.Operand.const (Go.Value.int Go.IntKind.i64 8)) t2 (Go.Value.int Go.IntKind.i64 8)) fun t13 =>
  Pu Tryz.prog (bopS Go.BinOp.lss 3 (Go.Operand.tmp 41) (Go.Operand.const (Go.Value.int Go.IntKind.i64 0)) t2 (Go.Value.int Go.IntKind.i64 0)) fun t42 =>
  condV t42
  (K (Go.Value.int Go.IntKind.i64 40) w)
  (Cl Tryz.prog 75 #[t0, t13] w fun t46 w_1 =>
  Pu Tryz.prog (Op.unary Go.UnOp.not t46) fun t47 =>
  condV t47
   (K (Go.Value.int Go.IntKind.i64 40) w_1)
   (Cl Tryz.prog 83 #[t3] w_1 fun t51 w_2 =>
   Pu Tryz.prog (Op.unary Go.UnOp.not t51) fun t52 =>
   condV t52
    (K (Go.Value.int Go.IntKind.i64 1) w_2)
    (Cl Tryz.prog 40 #[t0, t13] w_2 fun t56 w_3 =>
    Pu Tryz.prog (bopS Go.BinOp.eql 3 (Go.Operand.tmp 56) (Go.Operand.const (Go.Value.int Go.IntKind.i64 2)) t56 (Go.Value.int Go.IntKind.i64 2)) fun t57 =>
    condV t57
     (K (Go.Value.int Go.IntKind.i64 9) w_3)
     (∃ S R : World → Prop, S w_3.drew ∧ (∀ w_4, S w_4 → R w_4) ∧
     Pu Tryz.prog (nilC t0) fun t15 =>
     Pu Tryz.prog (Instr.fieldAt 88 t15 0) fun t16 =>
     Pu Tryz.prog (nilC t0) fun t20 =>
     Pu Tryz.prog (Instr.fieldAt 88 t20 0) fun t21 =>
     Pu Tryz.prog (bopS Go.BinOp.rem 3 (Go.Operand.tmp 27) (Go.Operand.const (Go.Value.int Go.IntKind.i64 8)) t2 (Go.Value.int Go.IntKind.i64 8)) fun t28 =>
     Pu Tryz.prog (Instr.build 118 #[(0, t28), (1, t3)]) fun t30 =>
     ∃ t17, (∀ w_5, R w_5 → (Instr.loadAt 79 t16).run Tryz.prog w_5 = .ok t17 w_5) ∧
     ∃ t22, (∀ w_6, R w_6 → (Instr.loadAt 79 t21).run Tryz.prog w_6 = .ok t22 w_6) ∧
     Pu Tryz.prog (Instr.indexAt 79 t22 t13) fun t24 =>
     Pu Tryz.prog (Instr.fieldAt 85 t24 1) fun t25 =>
     ∃ t26, (∀ w_7, R w_7 → (Instr.loadAt 67 t25).run Tryz.prog w_7 = .ok t26 w_7) ∧
     (∀ w_8, S w_8 →
     Bn Tryz.prog (Instr.buildSlice 67 1 #[(0, t30)]) w_8 fun t31 w_9 =>
     ∃ S_1 R_1 : World → Prop, S_1 w_9 ∧ (∀ w_11, S_1 w_11 → R_1 w_11) ∧ (∀ w_10, R_1 w_10 → R w_10) ∧
     (∀ w_12, S_1 w_12 →
     Bn Tryz.prog (Builtin.append_ #[67, 67] 67 #[t26, t31]) w_12 fun t32 w_13 =>
     ∃ S_2 R_2 : World → Prop, S_2 w_13 ∧ (∀ w_15, S_2 w_15 → R_2 w_15) ∧ (∀ w_14, R_2 w_14 → R_1 w_14) ∧
     Pu Tryz.prog (Instr.indexAt 79 t17 t13) fun t33 =>
     Pu Tryz.prog (Instr.fieldAt 85 t33 1) fun t34 =>
     (∀ w_16, S_2 w_16 →
     Bn Tryz.prog (unitV (Instr.storeAt 67 t34 t32)) w_16 fun _ w_17 =>
     ∃ S_3 R_3 : World → Prop, S_3 w_17 ∧ (∀ w_19, S_3 w_19 → R_3 w_19) ∧ True ∧
     ∀ w_20, S_3 w_20 →
     Pu Tryz.prog (nilC t0) fun t36 =>
     Pu Tryz.prog (Instr.fieldAt 88 t36 1) fun t37 =>
     Bn Tryz.prog (Instr.loadAt 86 t37) w_20 fun t38 w_21 =>
     Bn Tryz.prog (unitV (Instr.mapUpdate 86 t38 t13 (Go.Value.bool true))) w_21 fun _ w_22 =>
     Pu Tryz.prog (nilC t0) fun t63 =>
  Pu Tryz.prog (Instr.fieldAt 88 t63 2) fun t64 =>
  Bn Tryz.prog (Instr.loadAt 3 t64) w_22 fun t65 w_23 =>
  Pu Tryz.prog (Instr.build 111 #[(0, t1), (1, t2), (2, t3), (3, t65)]) fun t66 =>
  Clv Tryz.prog t4 #[t66] w_23 fun t67 w_24 =>
  K (Go.Value.int Go.IntKind.i64 0) w_24) ∧
     True) ∧
     True) ∧
     True))))

def memory_Memory_put_ann : Ann :=
  { loop := fun _ => [],
    plan := fun r => match r with | 2 => (.pure 0 (.pure 1 (.pure 2 (.pure 4 (.pure 5 (.pure 6 (.pure 7 (.pure 9 (.pure 13 (.pure 14 (.pure 15 (.pure 16 (.load 3 [3, 19, 20, 21] (.load 8 [8, 10, 11, 12, 18, 19, 20, 21] (.pure 10 (.pure 11 (.load 12 [12, 18, 19, 20, 21] (.alt 17 (.alt 18 (.pure 19 (.pure 20 (.alt 21 .done .stop))) .stop) .stop)))))))))))))))))) | _ => .done,
    hold := fun r => match r with | 2 => (fun i => match i with | 8 => true | 10 => true | 11 => true | 12 => true | 17 => true | 18 => true | _ => false) | _ => fun _ => false,
    join := fun _ => none }

theorem memory_Memory_put_ok {K : Value → World → Prop} {t0 t1 t2 t3 t4 : Value} {w : World} (h : memory_Memory_put_w K t0 t1 t2 t3 t4 w) : Calls Tryz.prog 59 #[t0, t1, t2, t3, t4] w (Rt K) :=
  calls_of_wpC (A := memory_Memory_put_ann) (c := Tryz.f59.body.getD .skip) (args := [t0, t1, t2, t3, t4]) mixed Tryz.func59 rfl (by kernel_rfl) (Eq.mp (by kernel_rfl) h)

theorem memory_Memory_put_en : enters Tryz.prog 59 = true := by kernel_rfl

theorem memory_Memory_put_cl {K : Value → World → Prop} {t0 t1 t2 t3 t4 : Value} {w : World} (h : Calls Tryz.prog 59 #[t0, t1, t2, t3, t4] w (Rt K)) : Cl Tryz.prog 59 #[t0, t1, t2, t3, t4] w K := ⟨memory_Memory_put_en, h⟩

def memory_Memory_Store_w (K : Value → World → Prop) (t0 t1 t2 : Value) (w : World) : Prop :=
  Pu Tryz.prog (Instr.makeFunc (Go.Fn.func 60) #[t0] #[]) fun t11 =>
  Cl Tryz.prog 59 #[t0, (Go.Value.int Go.IntKind.i64 1), t1, t2, t11] w fun t12 w_1 =>
  K t12 w_1

def memory_Memory_Store_ann : Ann :=
  { loop := fun _ => [],
    plan := fun _ => .done,
    hold := fun _ => fun _ => false,
    join := fun _ => none }

theorem memory_Memory_Store_ok {K : Value → World → Prop} {t0 t1 t2 : Value} {w : World} (h : memory_Memory_Store_w K t0 t1 t2 w) : Calls Tryz.prog 25 #[t0, t1, t2] w (Rt K) :=
  calls_of_wpC (A := memory_Memory_Store_ann) (c := Tryz.f25.body.getD .skip) (args := [t0, t1, t2]) mixed Tryz.func25 rfl (by kernel_rfl) (Eq.mp (by kernel_rfl) h)

theorem memory_Memory_Store_en : enters Tryz.prog 25 = true := by kernel_rfl

theorem memory_Memory_Store_cl {K : Value → World → Prop} {t0 t1 t2 : Value} {w : World} (h : Calls Tryz.prog 25 #[t0, t1, t2] w (Rt K)) : Cl Tryz.prog 25 #[t0, t1, t2] w K := ⟨memory_Memory_Store_en, h⟩

def memory_Memory_Publish_w (K : Value → World → Prop) (t0 t1 t2 : Value) (w : World) : Prop :=
  Pu Tryz.prog (Instr.makeFunc (Go.Fn.func 60) #[t0] #[]) fun t11 =>
  Cl Tryz.prog 59 #[t0, (Go.Value.int Go.IntKind.i64 2), t1, t2, t11] w fun t12 w_1 =>
  K t12 w_1

def memory_Memory_Publish_ann : Ann :=
  { loop := fun _ => [],
    plan := fun _ => .done,
    hold := fun _ => fun _ => false,
    join := fun _ => none }

theorem memory_Memory_Publish_ok {K : Value → World → Prop} {t0 t1 t2 : Value} {w : World} (h : memory_Memory_Publish_w K t0 t1 t2 w) : Calls Tryz.prog 78 #[t0, t1, t2] w (Rt K) :=
  calls_of_wpC (A := memory_Memory_Publish_ann) (c := Tryz.f78.body.getD .skip) (args := [t0, t1, t2]) mixed Tryz.func78 rfl (by kernel_rfl) (Eq.mp (by kernel_rfl) h)

theorem memory_Memory_Publish_en : enters Tryz.prog 78 = true := by kernel_rfl

theorem memory_Memory_Publish_cl {K : Value → World → Prop} {t0 t1 t2 : Value} {w : World} (h : Calls Tryz.prog 78 #[t0, t1, t2] w (Rt K)) : Cl Tryz.prog 78 #[t0, t1, t2] w K := ⟨memory_Memory_Publish_en, h⟩

def memory_Memory_Flush_w (K : Value → World → Prop) (t0 t1 : Value) (w : World) : Prop :=
  Cl Tryz.prog 75 #[t0, t1] w fun t7 w_1 =>
  Pu Tryz.prog (Op.unary Go.UnOp.not t7) fun t8 =>
  condV t8
   (K (Go.Value.int Go.IntKind.i64 40) w_1)
   (∃ S R : World → Prop, S w_1.drew ∧ (∀ w_2, S w_2 → R w_2) ∧
  Pu Tryz.prog (nilC t0) fun t10 =>
  Pu Tryz.prog (Instr.fieldAt 88 t10 0) fun t11 =>
  Pu Tryz.prog (nilC t0) fun t15 =>
  Pu Tryz.prog (Instr.fieldAt 88 t15 0) fun t16 =>
  ∃ t12, (∀ w_3, R w_3 → (Instr.loadAt 79 t11).run Tryz.prog w_3 = .ok t12 w_3) ∧
  ∃ t17, (∀ w_4, R w_4 → (Instr.loadAt 79 t16).run Tryz.prog w_4 = .ok t17 w_4) ∧
  Pu Tryz.prog (Instr.indexAt 79 t17 t1) fun t19 =>
  Pu Tryz.prog (Instr.fieldAt 85 t19 1) fun t20 =>
  ∃ t21, (∀ w_5, R w_5 → (Instr.loadAt 67 t20).run Tryz.prog w_5 = .ok t21 w_5) ∧
  ∃ t22, (∀ w_6, R w_6 → (Builtin.len_ #[67] 3 #[t21]).run Tryz.prog w_6 = .ok t22 w_6) ∧
  Pu Tryz.prog (Instr.indexAt 79 t12 t1) fun t23 =>
  Pu Tryz.prog (Instr.fieldAt 85 t23 2) fun t24 =>
  (∀ w_7, S w_7 →
  Bn Tryz.prog (unitV (Instr.storeAt 3 t24 t22)) w_7 fun _ w_8 =>
  ∃ S_1 R_1 : World → Prop, S_1 w_8 ∧ (∀ w_10, S_1 w_10 → R_1 w_10) ∧ True ∧
  ∀ w_11, S_1 w_11 →
  Pu Tryz.prog (Instr.build 111 #[(0, (Go.Value.int Go.IntKind.i64 3)), (1, t1)]) fun t27 =>
  Cl Tryz.prog 60 #[t0, t27] w_11 fun t28 w_12 =>
  K (Go.Value.int Go.IntKind.i64 0) w_12) ∧
  True)

def memory_Memory_Flush_ann : Ann :=
  { loop := fun _ => [],
    plan := fun r => match r with | 3 => (.pure 0 (.pure 1 (.pure 2 (.pure 4 (.pure 5 (.pure 6 (.pure 7 (.pure 9 (.load 3 [3, 14, 15, 16] (.load 8 [8, 10, 11, 12, 13, 14, 15, 16] (.pure 10 (.pure 11 (.load 12 [12, 13, 14, 15, 16] (.load 13 [13, 14, 15, 16] (.pure 14 (.pure 15 (.alt 16 .done .stop))))))))))))))))) | _ => .done,
    hold := fun r => match r with | 3 => (fun i => match i with | 8 => true | 10 => true | 11 => true | 12 => true | 13 => true | _ => false) | _ => fun _ => false,
    join := fun _ => none }

theorem memory_Memory_Flush_ok {K : Value → World → Prop} {t0 t1 : Value} {w : World} (h : memory_Memory_Flush_w K t0 t1 w) : Calls Tryz.prog 69 #[t0, t1] w (Rt K) :=
  calls_of_wpC (A := memory_Memory_Flush_ann) (c := Tryz.f69.body.getD .skip) (args := [t0, t1]) mixed Tryz.func69 rfl (by kernel_rfl) (Eq.mp (by kernel_rfl) h)

theorem memory_Memory_Flush_en : enters Tryz.prog 69 = true := by kernel_rfl

theorem memory_Memory_Flush_cl {K : Value → World → Prop} {t0 t1 : Value} {w : World} (h : Calls Tryz.prog 69 #[t0, t1] w (Rt K)) : Cl Tryz.prog 69 #[t0, t1] w K := ⟨memory_Memory_Flush_en, h⟩

def memory_Memory_Fence_w (K : Value → World → Prop) (t0 : Value) (w : World) : Prop :=
  Pu Tryz.prog (nilC t0) fun t4 =>
  Pu Tryz.prog (Instr.fieldAt 88 t4 1) fun t5 =>
  Bn Tryz.prog (Instr.loadAt 86 t5) w fun t6 w_1 =>
  Bn Tryz.prog (Instr.range 86 t6) w_1 fun t7 w_2 =>
  ∃ (I : World → Prop) (μ : World → Nat), I w_2 ∧
   ∀ (u8 u9 u10 u11 u2 u12 u13 u14 u15 u16 u17 u18 u19 u20 u21 u22 : Value) (w_3 : World), I w_3 →
   Bn Tryz.prog (Instr.next t7 false 0) w_3 fun t8 w_4 =>
   Pu Tryz.prog (Instr.extract t8 0) fun t9 =>
   condV t9
    (Bn Tryz.prog (Instr.entry t7) w_4 fun t10 w_5 =>
   Pu Tryz.prog (Instr.extract t10 0) fun t11 =>
   Pu Tryz.prog (nilC t0) fun t15 =>
   Pu Tryz.prog (Instr.fieldAt 88 t15 0) fun t16 =>
   Bn Tryz.prog (Instr.loadAt 79 t16) w_5 fun t17 w_6 =>
   Pu Tryz.prog (Instr.indexAt 79 t17 t11) fun t19 =>
   Pu Tryz.prog (Instr.fieldAt 85 t19 2) fun t20 =>
   Bn Tryz.prog (Instr.loadAt 3 t20) w_6 fun t21 w_7 =>
   Cl Tryz.prog 76 #[t0, t11, t21] w_7 fun t22 w_8 =>
   I w_8 ∧ μ w_8 < μ w_3)
    (Pu Tryz.prog (Instr.build 111 #[(0, (Go.Value.int Go.IntKind.i64 4))]) fun t24 =>
  Cl Tryz.prog 60 #[t0, t24] w_4 fun t25 w_9 =>
  K (Value.tuple #[]) w_9)

def memory_Memory_Fence_ann : Ann :=
  { loop := fun r => match r with | 1 => [] | _ => [],
    plan := fun _ => .done,
    hold := fun _ => fun _ => false,
    join := fun _ => none }

theorem memory_Memory_Fence_ok {K : Value → World → Prop} {t0 : Value} {w : World} (h : memory_Memory_Fence_w K t0 w) : Calls Tryz.prog 70 #[t0] w (Rt K) :=
  calls_of_wpC (A := memory_Memory_Fence_ann) (c := Tryz.f70.body.getD .skip) (args := [t0]) mixed Tryz.func70 rfl (by kernel_rfl) (Eq.mp (by kernel_rfl) h)

theorem memory_Memory_Fence_en : enters Tryz.prog 70 = true := by kernel_rfl

theorem memory_Memory_Fence_cl {K : Value → World → Prop} {t0 : Value} {w : World} (h : Calls Tryz.prog 70 #[t0] w (Rt K)) : Cl Tryz.prog 70 #[t0] w K := ⟨memory_Memory_Fence_en, h⟩

def memory_Memory_Evict_w (K : Value → World → Prop) (t0 t1 t2 : Value) (w : World) : Prop :=
  Cl Tryz.prog 75 #[t0, t1] w fun t9 w_1 =>
  Pu Tryz.prog (Op.unary Go.UnOp.not t9) fun t10 =>
  condV t10
   (K (Go.Value.int Go.IntKind.i64 40) w_1)
   (Pu Tryz.prog (bopS Go.BinOp.lss 3 (Go.Operand.tmp 11) (Go.Operand.const (Go.Value.int Go.IntKind.i64 1)) t2 (Go.Value.int Go.IntKind.i64 1)) fun t12 =>
  condV t12
  (K (Go.Value.int Go.IntKind.i64 1) w_1)
  (Pu Tryz.prog (nilC t0) fun t16 =>
  Pu Tryz.prog (Instr.fieldAt 88 t16 0) fun t17 =>
  Bn Tryz.prog (Instr.loadAt 79 t17) w_1 fun t18 w_2 =>
  Pu Tryz.prog (Instr.indexAt 79 t18 t1) fun t20 =>
  Pu Tryz.prog (Instr.fieldAt 85 t20 1) fun t21 =>
  Bn Tryz.prog (Instr.loadAt 67 t21) w_2 fun t22 w_3 =>
  Bn Tryz.prog (Builtin.len_ #[67] 3 #[t22]) w_3 fun t23 w_4 =>
  Pu Tryz.prog (bopS Go.BinOp.gtr 3 (Go.Operand.tmp 14) (Go.Operand.tmp 23) t2 t23) fun t24 =>
  condV t24
   (K (Go.Value.int Go.IntKind.i64 1) w_4)
   (Cl Tryz.prog 76 #[t0, t1, t2] w_4 fun t29 w_5 =>
  Pu Tryz.prog (Instr.build 111 #[(0, (Go.Value.int Go.IntKind.i64 5)), (1, t1), (2, t2)]) fun t33 =>
  Cl Tryz.prog 60 #[t0, t33] w_5 fun t34 w_6 =>
  K (Go.Value.int Go.IntKind.i64 0) w_6)))

def memory_Memory_Evict_ann : Ann :=
  { loop := fun _ => [],
    plan := fun _ => .done,
    hold := fun _ => fun _ => false,
    join := fun _ => none }

theorem memory_Memory_Evict_ok {K : Value → World → Prop} {t0 t1 t2 : Value} {w : World} (h : memory_Memory_Evict_w K t0 t1 t2 w) : Calls Tryz.prog 79 #[t0, t1, t2] w (Rt K) :=
  calls_of_wpC (A := memory_Memory_Evict_ann) (c := Tryz.f79.body.getD .skip) (args := [t0, t1, t2]) mixed Tryz.func79 rfl (by kernel_rfl) (Eq.mp (by kernel_rfl) h)

theorem memory_Memory_Evict_en : enters Tryz.prog 79 = true := by kernel_rfl

theorem memory_Memory_Evict_cl {K : Value → World → Prop} {t0 t1 t2 : Value} {w : World} (h : Calls Tryz.prog 79 #[t0, t1, t2] w (Rt K)) : Cl Tryz.prog 79 #[t0, t1, t2] w K := ⟨memory_Memory_Evict_en, h⟩

def memory_Memory_Heal_w (K : Value → World → Prop) (t0 t1 t2 : Value) (w : World) : Prop :=
  Bn Tryz.prog (Instr.box 80 t2) w fun t5 w_1 =>
  Cl Tryz.prog 75 #[t0, t1] w_1 fun t9 w_2 =>
  Pu Tryz.prog (Op.unary Go.UnOp.not t9) fun t10 =>
  condV t10
   (K (Go.Value.int Go.IntKind.i64 40) w_2)
   (Bn Tryz.prog (Instr.loadAt 80 t5) w_2 fun t11 w_3 =>
  Cl Tryz.prog 45 #[t11] w_3 fun t12 w_4 =>
  Pu Tryz.prog (Op.unary Go.UnOp.not t12) fun t13 =>
  condV t13
   (K (Go.Value.int Go.IntKind.i64 1) w_4)
   (∃ S R : World → Prop, S w_4.drew ∧ (∀ w_5, S w_5 → R w_5) ∧
  Pu Tryz.prog (nilC t0) fun t15 =>
  Pu Tryz.prog (Instr.fieldAt 88 t15 0) fun t16 =>
  ∃ t17, (∀ w_6, R w_6 → (Instr.loadAt 79 t16).run Tryz.prog w_6 = .ok t17 w_6) ∧
  ∃ t19, (∀ w_7, R w_7 → (Instr.loadAt 80 t5).run Tryz.prog w_7 = .ok t19 w_7) ∧
  ∃ t20, (∀ w_8, R w_8 → (Instr.loadAt 80 t5).run Tryz.prog w_8 = .ok t20 w_8) ∧
  (∀ w_9, S w_9 →
  Cl Tryz.prog 85 #[t20] w_9 fun t21 w_10 =>
  ∃ S_1 R_1 : World → Prop, S_1 w_10 ∧ (∀ w_12, S_1 w_12 → R_1 w_12) ∧ (∀ w_11, R_1 w_11 → R w_11) ∧
  Pu Tryz.prog (Instr.build 82 #[(0, t19), (1, t21)]) fun t22 =>
  Pu Tryz.prog (Instr.build 85 #[(0, t22)]) fun t23 =>
  Pu Tryz.prog (Instr.indexAt 79 t17 t1) fun t24 =>
  (∀ w_13, S_1 w_13 →
  Bn Tryz.prog (unitV (Instr.storeAt 85 t24 t23)) w_13 fun _ w_14 =>
  ∃ S_2 R_2 : World → Prop, S_2 w_14 ∧ (∀ w_16, S_2 w_16 → R_2 w_16) ∧ True ∧
  ∀ w_17, S_2 w_17 →
  Cl Tryz.prog 98 #[t0, t1] w_17 fun t27 w_18 =>
  Bn Tryz.prog (Instr.loadAt 80 t5) w_18 fun t30 w_19 =>
  Pu Tryz.prog (Instr.build 111 #[(0, (Go.Value.int Go.IntKind.i64 6)), (1, t1), (4, t30)]) fun t31 =>
  Cl Tryz.prog 60 #[t0, t31] w_19 fun t32 w_20 =>
  K (Go.Value.int Go.IntKind.i64 0) w_20) ∧
  True) ∧
  True))

def memory_Memory_Heal_ann : Ann :=
  { loop := fun _ => [],
    plan := fun r => match r with | 5 => (.pure 0 (.pure 1 (.pure 2 (.pure 4 (.load 3 [3, 10, 11] (.load 5 [5, 8, 9, 10, 11] (.load 6 [6, 7, 8, 9, 10, 11] (.alt 7 (.pure 8 (.pure 9 (.pure 10 (.alt 11 .done .stop)))) .stop)))))))) | _ => .done,
    hold := fun r => match r with | 5 => (fun i => match i with | 5 => true | 6 => true | 7 => true | 8 => true | 9 => true | _ => false) | _ => fun _ => false,
    join := fun _ => none }

theorem memory_Memory_Heal_ok {K : Value → World → Prop} {t0 t1 t2 : Value} {w : World} (h : memory_Memory_Heal_w K t0 t1 t2 w) : Calls Tryz.prog 80 #[t0, t1, t2] w (Rt K) :=
  calls_of_wpC (A := memory_Memory_Heal_ann) (c := Tryz.f80.body.getD .skip) (args := [t0, t1, t2]) mixed Tryz.func80 rfl (by kernel_rfl) (Eq.mp (by kernel_rfl) h)

theorem memory_Memory_Heal_en : enters Tryz.prog 80 = true := by kernel_rfl

theorem memory_Memory_Heal_cl {K : Value → World → Prop} {t0 t1 t2 : Value} {w : World} (h : Calls Tryz.prog 80 #[t0, t1, t2] w (Rt K)) : Cl Tryz.prog 80 #[t0, t1, t2] w K := ⟨memory_Memory_Heal_en, h⟩

def memory_Memory_Pending_w (K : Value → World → Prop) (t0 t1 : Value) (w : World) : Prop :=
  Cl Tryz.prog 75 #[t0, t1] w fun t7 w_1 =>
  Pu Tryz.prog (Op.unary Go.UnOp.not t7) fun t8 =>
  condV t8
   (K (Go.Value.slice none 0 0) w_1)
   (Pu Tryz.prog (nilC t0) fun t10 =>
  Pu Tryz.prog (Instr.fieldAt 88 t10 0) fun t11 =>
  Bn Tryz.prog (Instr.loadAt 79 t11) w_1 fun t12 w_2 =>
  Pu Tryz.prog (Instr.indexAt 79 t12 t1) fun t14 =>
  Pu Tryz.prog (Instr.fieldAt 85 t14 1) fun t15 =>
  Bn Tryz.prog (Instr.loadAt 67 t15) w_2 fun t16 w_3 =>
  Cl Tryz.prog 63 #[t16] w_3 fun t17 w_4 =>
  K t17 w_4)

def memory_Memory_Pending_ann : Ann :=
  { loop := fun _ => [],
    plan := fun _ => .done,
    hold := fun _ => fun _ => false,
    join := fun _ => none }

theorem memory_Memory_Pending_ok {K : Value → World → Prop} {t0 t1 : Value} {w : World} (h : memory_Memory_Pending_w K t0 t1 w) : Calls Tryz.prog 36 #[t0, t1] w (Rt K) :=
  calls_of_wpC (A := memory_Memory_Pending_ann) (c := Tryz.f36.body.getD .skip) (args := [t0, t1]) mixed Tryz.func36 rfl (by kernel_rfl) (Eq.mp (by kernel_rfl) h)

theorem memory_Memory_Pending_en : enters Tryz.prog 36 = true := by kernel_rfl

theorem memory_Memory_Pending_cl {K : Value → World → Prop} {t0 t1 : Value} {w : World} (h : Calls Tryz.prog 36 #[t0, t1] w (Rt K)) : Cl Tryz.prog 36 #[t0, t1] w K := ⟨memory_Memory_Pending_en, h⟩

def memory_Memory_Crash_w (K : Value → World → Prop) (t0 t1 : Value) (w : World) : Prop :=
  Bn Tryz.prog (Builtin.len_ #[76] 3 #[t1]) w fun t11 w_1 =>
  ∃ (I : Value → World → Prop) (μ : Value → World → Nat), I (Go.Value.int Go.IntKind.i64 0) w_1 ∧
   ∀ (u13 u14 u15 u16 u6 u5 u17 u18 u19 u20 u21 u22 u23 u24 u25 u26 u27 u28 u29 u30 u31 u32 u33 u34 u35 u36 u37 u38 u39 u40 u41 u42 u43 u44 u45 u46 u47 u48 u49 u50 u51 u52 u53 u54 u55 u56 u4 u57 u12 : Value) (w_2 : World), I u12 w_2 →
   Pu Tryz.prog (bopS Go.BinOp.lss 3 (Go.Operand.tmp 12) (Go.Operand.tmp 11) u12 t11) fun t13 =>
   condV t13
    (Pu Tryz.prog (Instr.indexAt 76 t1 u12) fun t15 =>
   Bn Tryz.prog (Instr.loadAt 127 t15) w_2 fun t16 w_3 =>
   Bn Tryz.prog (Instr.alloc 127 true (Value.tuple #[])) w_3 fun t6 w_4 =>
   Bn Tryz.prog (unitV (Instr.storeAt 127 t6 t16)) w_4 fun _ w_5 =>
   ∃ S R : World → Prop, S w_5.drew ∧ (∀ w_6, S w_6 → R w_6) ∧
   Pu Tryz.prog (Instr.fieldAt 127 t6 0) fun t18 =>
   ∃ t19, (∀ w_7, R w_7 → (Instr.loadAt 3 t18).run Tryz.prog w_7 = .ok t19 w_7) ∧
   (∀ w_8, S w_8 →
   Cl Tryz.prog 75 #[t0, t19] w_8 fun t20 w_9 =>
   ∃ S_1 R_1 : World → Prop, S_1 w_9 ∧ (∀ w_11, S_1 w_11 → R_1 w_11) ∧ True ∧
   Pu Tryz.prog (Op.unary Go.UnOp.not t20) fun t21 =>
   condV t21
   (∀ w_12, S_1 w_12 →
   K (Go.Value.int Go.IntKind.i64 1) w_12)
   (Pu Tryz.prog (bopS Go.BinOp.gtr 3 (Go.Operand.tmp 23) (Go.Operand.const (Go.Value.int Go.IntKind.i64 0)) u12 (Go.Value.int Go.IntKind.i64 0)) fun t24 =>
   condV t24
   (Pu Tryz.prog (Instr.fieldAt 127 t6 0) fun t26 =>
   Pu Tryz.prog (bopS Go.BinOp.sub 3 (Go.Operand.tmp 29) (Go.Operand.const (Go.Value.int Go.IntKind.i64 1)) u12 (Go.Value.int Go.IntKind.i64 1)) fun t30 =>
   Pu Tryz.prog (Instr.indexAt 76 t1 t30) fun t31 =>
   Pu Tryz.prog (Instr.fieldAt 127 t31 0) fun t32 =>
   ∃ t27, (∀ w_13, R_1 w_13 → (Instr.loadAt 3 t26).run Tryz.prog w_13 = .ok t27 w_13) ∧
   ∃ t33, (∀ w_14, R_1 w_14 → (Instr.loadAt 3 t32).run Tryz.prog w_14 = .ok t33 w_14) ∧
   Pu Tryz.prog (bopS Go.BinOp.leq 3 (Go.Operand.tmp 27) (Go.Operand.tmp 33) t27 t33) fun t34 =>
   condV t34
   (∀ w_15, S_1 w_15 →
   K (Go.Value.int Go.IntKind.i64 1) w_15)
   (Pu Tryz.prog (Instr.fieldAt 127 t6 1) fun t38 =>
   ∃ t39, (∀ w_16, R_1 w_16 → (Instr.loadAt 3 t38).run Tryz.prog w_16 = .ok t39 w_16) ∧
   Pu Tryz.prog (bopS Go.BinOp.lss 3 (Go.Operand.tmp 39) (Go.Operand.const (Go.Value.int Go.IntKind.i64 0)) t39 (Go.Value.int Go.IntKind.i64 0)) fun t40 =>
   condV t40
   (∀ w_17, S_1 w_17 →
   K (Go.Value.int Go.IntKind.i64 1) w_17)
   (Pu Tryz.prog (Instr.fieldAt 127 t6 1) fun t43 =>
   Pu Tryz.prog (nilC t0) fun t46 =>
   Pu Tryz.prog (Instr.fieldAt 88 t46 0) fun t47 =>
   Pu Tryz.prog (Instr.fieldAt 127 t6 0) fun t49 =>
   ∃ t44, (∀ w_18, R_1 w_18 → (Instr.loadAt 3 t43).run Tryz.prog w_18 = .ok t44 w_18) ∧
   ∃ t48, (∀ w_19, R_1 w_19 → (Instr.loadAt 79 t47).run Tryz.prog w_19 = .ok t48 w_19) ∧
   ∃ t50, (∀ w_20, R_1 w_20 → (Instr.loadAt 3 t49).run Tryz.prog w_20 = .ok t50 w_20) ∧
   Pu Tryz.prog (Instr.indexAt 79 t48 t50) fun t51 =>
   Pu Tryz.prog (Instr.fieldAt 85 t51 1) fun t52 =>
   ∃ t53, (∀ w_21, R_1 w_21 → (Instr.loadAt 67 t52).run Tryz.prog w_21 = .ok t53 w_21) ∧
   ∃ t54, (∀ w_22, R_1 w_22 → (Builtin.len_ #[67] 3 #[t53]).run Tryz.prog w_22 = .ok t54 w_22) ∧
   Pu Tryz.prog (bopS Go.BinOp.gtr 3 (Go.Operand.tmp 44) (Go.Operand.tmp 54) t44 t54) fun t55 =>
   ∀ w_23, S_1 w_23 →
   condV t55
    (K (Go.Value.int Go.IntKind.i64 1) w_23)
    (Pu Tryz.prog (bopS Go.BinOp.add 3 (Go.Operand.tmp 12) (Go.Operand.const (Go.Value.int Go.IntKind.i64 1)) u12 (Go.Value.int Go.IntKind.i64 1)) fun t57 =>
   I t57 w_23 ∧ μ t57 w_23 < μ u12 w_2))))
   (Pu Tryz.prog (Instr.fieldAt 127 t6 1) fun t38_1 =>
   ∃ t39_1, (∀ w_24, R_1 w_24 → (Instr.loadAt 3 t38_1).run Tryz.prog w_24 = .ok t39_1 w_24) ∧
   Pu Tryz.prog (bopS Go.BinOp.lss 3 (Go.Operand.tmp 39) (Go.Operand.const (Go.Value.int Go.IntKind.i64 0)) t39_1 (Go.Value.int Go.IntKind.i64 0)) fun t40_1 =>
   condV t40_1
   (∀ w_25, S_1 w_25 →
   K (Go.Value.int Go.IntKind.i64 1) w_25)
   (Pu Tryz.prog (Instr.fieldAt 127 t6 1) fun t43_1 =>
   Pu Tryz.prog (nilC t0) fun t46_1 =>
   Pu Tryz.prog (Instr.fieldAt 88 t46_1 0) fun t47_1 =>
   Pu Tryz.prog (Instr.fieldAt 127 t6 0) fun t49_1 =>
   ∃ t44_1, (∀ w_26, R_1 w_26 → (Instr.loadAt 3 t43_1).run Tryz.prog w_26 = .ok t44_1 w_26) ∧
   ∃ t48_1, (∀ w_27, R_1 w_27 → (Instr.loadAt 79 t47_1).run Tryz.prog w_27 = .ok t48_1 w_27) ∧
   ∃ t50_1, (∀ w_28, R_1 w_28 → (Instr.loadAt 3 t49_1).run Tryz.prog w_28 = .ok t50_1 w_28) ∧
   Pu Tryz.prog (Instr.indexAt 79 t48_1 t50_1) fun t51_1 =>
   Pu Tryz.prog (Instr.fieldAt 85 t51_1 1) fun t52_1 =>
   ∃ t53_1, (∀ w_29, R_1 w_29 → (Instr.loadAt 67 t52_1).run Tryz.prog w_29 = .ok t53_1 w_29) ∧
   ∃ t54_1, (∀ w_30, R_1 w_30 → (Builtin.len_ #[67] 3 #[t53_1]).run Tryz.prog w_30 = .ok t54_1 w_30) ∧
   Pu Tryz.prog (bopS Go.BinOp.gtr 3 (Go.Operand.tmp 44) (Go.Operand.tmp 54) t44_1 t54_1) fun t55_1 =>
   ∀ w_31, S_1 w_31 →
   condV t55_1
    (K (Go.Value.int Go.IntKind.i64 1) w_31)
    (Pu Tryz.prog (bopS Go.BinOp.add 3 (Go.Operand.tmp 12) (Go.Operand.const (Go.Value.int Go.IntKind.i64 1)) u12 (Go.Value.int Go.IntKind.i64 1)) fun t57_1 =>
   I t57_1 w_31 ∧ μ t57_1 w_31 < μ u12 w_2))))) ∧
   True)
    (Bn Tryz.prog (Builtin.len_ #[76] 3 #[t1]) w_2 fun t59 w_32 =>
  ∃ (I_1 : Value → World → Prop) (μ_1 : Value → World → Nat), I_1 (Go.Value.int Go.IntKind.i64 0) w_32 ∧
   ∀ (u61 u62 u63 u8 u64 u65 u66 u67 u68 u69 u70 u60 : Value) (w_33 : World), I_1 u60 w_33 →
   Pu Tryz.prog (bopS Go.BinOp.lss 3 (Go.Operand.tmp 60) (Go.Operand.tmp 59) u60 t59) fun t61 =>
   condV t61
    (Pu Tryz.prog (Instr.indexAt 76 t1 u60) fun t62 =>
   Bn Tryz.prog (Instr.loadAt 127 t62) w_33 fun t63 w_34 =>
   Bn Tryz.prog (Instr.alloc 127 true (Value.tuple #[])) w_34 fun t8 w_35 =>
   Bn Tryz.prog (unitV (Instr.storeAt 127 t8 t63)) w_35 fun _ w_36 =>
   Pu Tryz.prog (Instr.fieldAt 127 t8 0) fun t65 =>
   Bn Tryz.prog (Instr.loadAt 3 t65) w_36 fun t66 w_37 =>
   Pu Tryz.prog (Instr.fieldAt 127 t8 1) fun t67 =>
   Bn Tryz.prog (Instr.loadAt 3 t67) w_37 fun t68 w_38 =>
   Cl Tryz.prog 76 #[t0, t66, t68] w_38 fun t69 w_39 =>
   Pu Tryz.prog (bopS Go.BinOp.add 3 (Go.Operand.tmp 60) (Go.Operand.const (Go.Value.int Go.IntKind.i64 1)) u60 (Go.Value.int Go.IntKind.i64 1)) fun t70 =>
   I_1 t70 w_39 ∧ μ_1 t70 w_39 < μ_1 u60 w_33)
    (Pu Tryz.prog (nilC t0) fun t72 =>
  Pu Tryz.prog (Instr.fieldAt 88 t72 1) fun t73 =>
  Bn Tryz.prog (Instr.loadAt 86 t73) w_33 fun t74 w_40 =>
  Bn Tryz.prog (Instr.range 86 t74) w_40 fun t75 w_41 =>
  ∃ (I_2 : World → Prop) (μ_2 : World → Nat), I_2 w_41 ∧
   ∀ (u76 u77 u78 u79 u9 u80 u81 u82 u83 u84 u85 u86 u87 u88 u89 u90 u91 u92 u93 : Value) (w_42 : World), I_2 w_42 →
   Bn Tryz.prog (Instr.next t75 false 0) w_42 fun t76 w_43 =>
   Pu Tryz.prog (Instr.extract t76 0) fun t77 =>
   condV t77
    (Bn Tryz.prog (Instr.entry t75) w_43 fun t78 w_44 =>
   Pu Tryz.prog (Instr.extract t78 0) fun t79 =>
   ∃ S_2 R_2 : World → Prop, S_2 w_44.drew ∧ (∀ w_45, S_2 w_45 → R_2 w_45) ∧
   Pu Tryz.prog (nilC t0) fun t81 =>
   Pu Tryz.prog (Instr.fieldAt 88 t81 0) fun t82 =>
   Pu Tryz.prog (nilC t0) fun t86 =>
   Pu Tryz.prog (Instr.fieldAt 88 t86 0) fun t87 =>
   ∃ t83, (∀ w_46, R_2 w_46 → (Instr.loadAt 79 t82).run Tryz.prog w_46 = .ok t83 w_46) ∧
   ∃ t88, (∀ w_47, R_2 w_47 → (Instr.loadAt 79 t87).run Tryz.prog w_47 = .ok t88 w_47) ∧
   Pu Tryz.prog (Instr.indexAt 79 t83 t79) fun t90 =>
   Pu Tryz.prog (Instr.fieldAt 85 t90 1) fun t91 =>
   (∀ w_48, S_2 w_48 →
   Bn Tryz.prog (unitV (Instr.storeAt 67 t91 (Go.Value.slice none 0 0))) w_48 fun _ w_49 =>
   ∃ S_3 R_3 : World → Prop, S_3 w_49 ∧ (∀ w_51, S_3 w_51 → R_3 w_51) ∧ True ∧
   Pu Tryz.prog (Instr.indexAt 79 t88 t79) fun t92 =>
   Pu Tryz.prog (Instr.fieldAt 85 t92 2) fun t93 =>
   (∀ w_52, S_3 w_52 →
   Bn Tryz.prog (unitV (Instr.storeAt 3 t93 (Go.Value.int Go.IntKind.i64 0))) w_52 fun _ w_53 =>
   ∃ S_4 R_4 : World → Prop, S_4 w_53 ∧ (∀ w_55, S_4 w_55 → R_4 w_55) ∧ True ∧
   ∀ w_56, S_4 w_56 →
   I_2 w_56 ∧ μ_2 w_56 < μ_2 w_42) ∧
   True) ∧
   True)
    (Pu Tryz.prog (nilC t0) fun t95 =>
  Pu Tryz.prog (Instr.fieldAt 88 t95 1) fun t96 =>
  Bn Tryz.prog (Instr.loadAt 86 t96) w_43 fun t97 w_57 =>
  Bn Tryz.prog (Builtin.clear_ #[86] 0 #[t97]) w_57 fun _ w_58 =>
  Pu Tryz.prog (nilC t0) fun t100 =>
  Pu Tryz.prog (Instr.fieldAt 88 t100 2) fun t101 =>
  Bn Tryz.prog (unitV (Instr.storeAt 3 t101 (Go.Value.int Go.IntKind.i64 0))) w_58 fun _ w_59 =>
  Pu Tryz.prog (nilC t0) fun t102 =>
  Pu Tryz.prog (Instr.fieldAt 88 t102 3) fun t103 =>
  Bn Tryz.prog (unitV (Instr.storeAt 31 t103 (Go.Value.slice none 0 0))) w_59 fun _ w_60 =>
  K (Go.Value.int Go.IntKind.i64 0) w_60)))

def memory_Memory_Crash_ann : Ann :=
  { loop := fun r => match r with | 2 => [12] | 8 => [60] | 13 => [] | _ => [],
    plan := fun r => match r with | 4 => (.pure 0 (.pure 1 (.load 2 [2, 3, 4, 5, 6, 7, 8, 9, 10, 11, 12, 13, 14, 15, 16, 17, 18, 19, 20, 21, 22, 23, 24, 25, 26, 27, 28, 29, 30, 31, 32, 33, 34, 35, 36, 37, 38, 39] (.alt 3 (.pure 4 (.pure 5 (.pure 6 (.pure 7 (.pure 8 (.pure 9 (.pure 11 (.pure 12 (.pure 13 (.pure 14 (.pure 15 (.load 10 [10, 17, 18, 19, 20, 21, 22, 23, 24, 25, 26, 27, 28, 29, 30, 31, 32, 33, 34, 35, 36, 37, 38, 39] (.load 16 [16, 17, 18, 19, 20, 21, 22, 23, 24, 25, 26, 27, 28, 29, 30, 31, 32, 33, 34, 35, 36, 37, 38, 39] (.pure 17 (.pure 18 (.pure 19 (.pure 20 (.pure 21 (.load 22 [22, 23, 24, 25, 26, 27, 28, 29, 30, 31, 32, 33, 34, 35, 36, 37, 38, 39] (.pure 23 (.pure 24 (.pure 25 (.pure 26 (.pure 28 (.pure 29 (.pure 30 (.pure 32 (.load 27 [27, 38, 39] (.load 31 [31, 34, 35, 36, 37, 38, 39] (.load 33 [33, 34, 35, 36, 37, 38, 39] (.pure 34 (.pure 35 (.load 36 [36, 37, 38, 39] (.load 37 [37, 38, 39] (.pure 38 (.pure 39 .done)))))))))))))))))))))))))))))))))))) .stop)))) | 15 => (.pure 0 (.pure 1 (.pure 2 (.pure 4 (.pure 5 (.pure 6 (.pure 7 (.pure 9 (.load 3 [3, 10, 11, 12, 13, 14, 15] (.load 8 [8, 10, 11, 12, 13, 14, 15] (.pure 10 (.pure 11 (.alt 12 (.pure 13 (.pure 14 (.alt 15 .done .stop))) .stop))))))))))))) | _ => .done,
    hold := fun r => match r with | 4 => (fun i => match i with | 16 => true | 31 => true | 33 => true | 34 => true | 35 => true | 36 => true | 37 => true | _ => false) | 15 => (fun i => match i with | 8 => true | _ => false) | _ => fun _ => false,
    join := fun _ => none }

theorem memory_Memory_Crash_ok {K : Value → World → Prop} {t0 t1 : Value} {w : World} (h : memory_Memory_Crash_w K t0 t1 w) : Calls Tryz.prog 37 #[t0, t1] w (Rt K) :=
  calls_of_wpC (A := memory_Memory_Crash_ann) (c := Tryz.f37.body.getD .skip) (args := [t0, t1]) mixed Tryz.func37 rfl (by kernel_rfl) (Eq.mp (by kernel_rfl) h)

theorem memory_Memory_Crash_en : enters Tryz.prog 37 = true := by kernel_rfl

theorem memory_Memory_Crash_cl {K : Value → World → Prop} {t0 t1 : Value} {w : World} (h : Calls Tryz.prog 37 #[t0, t1] w (Rt K)) : Cl Tryz.prog 37 #[t0, t1] w K := ⟨memory_Memory_Crash_en, h⟩

def memory_Memory_Image_w (K : Value → World → Prop) (t0 : Value) (w : World) : Prop :=
  Pu Tryz.prog (nilC t0) fun t7 =>
  Pu Tryz.prog (Instr.fieldAt 88 t7 0) fun t8 =>
  Bn Tryz.prog (Instr.loadAt 79 t8) w fun t9 w_1 =>
  Bn Tryz.prog (Builtin.len_ #[79] 3 #[t9]) w_1 fun t10 w_2 =>
  Bn Tryz.prog (Instr.makeSlice 23 t10 t10) w_2 fun t11 w_3 =>
  Pu Tryz.prog (nilC t0) fun t13 =>
  Pu Tryz.prog (Instr.fieldAt 88 t13 0) fun t14 =>
  Bn Tryz.prog (Instr.loadAt 79 t14) w_3 fun t15 w_4 =>
  Bn Tryz.prog (Builtin.len_ #[79] 3 #[t15]) w_4 fun t16 w_5 =>
  ∃ (I : Value → World → Prop) (μ : Value → World → Nat), I (Go.Value.int Go.IntKind.i64 0) w_5 ∧
   ∀ (u18 u19 u20 u21 u5 u4 u22 u23 u24 u25 u26 u27 u17 : Value) (w_6 : World), I u17 w_6 →
   Pu Tryz.prog (bopS Go.BinOp.lss 3 (Go.Operand.tmp 17) (Go.Operand.tmp 16) u17 t16) fun t18 =>
   condV t18
    (Pu Tryz.prog (Instr.indexAt 79 t15 u17) fun t20 =>
   Bn Tryz.prog (Instr.loadAt 85 t20) w_6 fun t21 w_7 =>
   Bn Tryz.prog (Instr.alloc 85 true (Value.tuple #[])) w_7 fun t5 w_8 =>
   Bn Tryz.prog (unitV (Instr.storeAt 85 t5 t21)) w_8 fun _ w_9 =>
   Pu Tryz.prog (Instr.fieldAt 85 t5 0) fun t24 =>
   Bn Tryz.prog (Instr.loadAt 82 t24) w_9 fun t25 w_10 =>
   Pu Tryz.prog (Instr.indexAt 23 t11 u17) fun t26 =>
   Bn Tryz.prog (unitV (Instr.storeAt 82 t26 t25)) w_10 fun _ w_11 =>
   Pu Tryz.prog (bopS Go.BinOp.add 3 (Go.Operand.tmp 17) (Go.Operand.const (Go.Value.int Go.IntKind.i64 1)) u17 (Go.Value.int Go.IntKind.i64 1)) fun t27 =>
   I t27 w_11 ∧ μ t27 w_11 < μ u17 w_6)
    (K t11 w_6)

def memory_Memory_Image_ann : Ann :=
  { loop := fun r => match r with | 3 => [17] | _ => [],
    plan := fun _ => .done,
    hold := fun _ => fun _ => false,
    join := fun _ => none }

theorem memory_Memory_Image_ok {K : Value → World → Prop} {t0 : Value} {w : World} (h : memory_Memory_Image_w K t0 w) : Calls Tryz.prog 22 #[t0] w (Rt K) :=
  calls_of_wpC (A := memory_Memory_Image_ann) (c := Tryz.f22.body.getD .skip) (args := [t0]) mixed Tryz.func22 rfl (by kernel_rfl) (Eq.mp (by kernel_rfl) h)

theorem memory_Memory_Image_en : enters Tryz.prog 22 = true := by kernel_rfl

theorem memory_Memory_Image_cl {K : Value → World → Prop} {t0 : Value} {w : World} (h : Calls Tryz.prog 22 #[t0] w (Rt K)) : Cl Tryz.prog 22 #[t0] w K := ⟨memory_Memory_Image_en, h⟩

def memory_Memory_Seen_w (K : Value → World → Prop) (t0 : Value) (w : World) : Prop :=
  Pu Tryz.prog (nilC t0) fun t6 =>
  Pu Tryz.prog (Instr.fieldAt 88 t6 0) fun t7 =>
  Bn Tryz.prog (Instr.loadAt 79 t7) w fun t8 w_1 =>
  Bn Tryz.prog (Builtin.len_ #[79] 3 #[t8]) w_1 fun t9 w_2 =>
  Bn Tryz.prog (Instr.makeSlice 63 t9 t9) w_2 fun t10 w_3 =>
  Pu Tryz.prog (nilC t0) fun t12 =>
  Pu Tryz.prog (Instr.fieldAt 88 t12 0) fun t13 =>
  Bn Tryz.prog (Instr.loadAt 79 t13) w_3 fun t14 w_4 =>
  Bn Tryz.prog (Builtin.len_ #[79] 3 #[t14]) w_4 fun t15 w_5 =>
  ∃ (I : Value → World → Prop) (μ : Value → World → Nat), I (Go.Value.int Go.IntKind.i64 0) w_5 ∧
   ∀ (u17 u18 u4 u20 u21 u22 u23 u24 u25 u26 u27 u28 u29 u30 u31 u32 u33 u34 u35 u36 u37 u19 u38 u39 u40 u41 u16 : Value) (w_6 : World), I u16 w_6 →
   Pu Tryz.prog (bopS Go.BinOp.lss 3 (Go.Operand.tmp 16) (Go.Operand.tmp 15) u16 t15) fun t17 =>
   condV t17
    (∃ S R : World → Prop, S w_6.drew ∧ (∀ w_7, S w_7 → R w_7) ∧
   Pu Tryz.prog (nilC t0) fun t23 =>
   Pu Tryz.prog (Instr.fieldAt 88 t23 0) fun t24 =>
   Pu Tryz.prog (nilC t0) fun t29 =>
   Pu Tryz.prog (Instr.fieldAt 88 t29 0) fun t30 =>
   ∃ t25, (∀ w_8, R w_8 → (Instr.loadAt 79 t24).run Tryz.prog w_8 = .ok t25 w_8) ∧
   Pu Tryz.prog (Instr.indexAt 79 t25 u16) fun t27 =>
   ∃ t31, (∀ w_9, R w_9 → (Instr.loadAt 79 t30).run Tryz.prog w_9 = .ok t31 w_9) ∧
   Pu Tryz.prog (Instr.indexAt 79 t31 u16) fun t33 =>
   Pu Tryz.prog (Instr.fieldAt 85 t33 1) fun t34 =>
   ∃ t35, (∀ w_10, R w_10 → (Instr.loadAt 67 t34).run Tryz.prog w_10 = .ok t35 w_10) ∧
   ∃ t36, (∀ w_11, R w_11 → (Builtin.len_ #[67] 3 #[t35]).run Tryz.prog w_11 = .ok t36 w_11) ∧
   (∀ w_12, S w_12 →
   Cl Tryz.prog 71 #[t27, t36] w_12 fun t37 w_13 =>
   ∃ S_1 R_1 : World → Prop, S_1 w_13 ∧ (∀ w_15, S_1 w_15 → R_1 w_15) ∧ True ∧
   Pu Tryz.prog (Instr.extract t37 0) fun t38 =>
   Pu Tryz.prog (Instr.extract t37 1) fun t39 =>
   Pu Tryz.prog (Instr.indexAt 63 t10 u16) fun t40 =>
   (∀ w_16, S_1 w_16 →
   Bn Tryz.prog (unitV (Instr.storeAt 80 t40 t38)) w_16 fun _ w_17 =>
   ∃ S_2 R_2 : World → Prop, S_2 w_17 ∧ (∀ w_19, S_2 w_19 → R_2 w_19) ∧ True ∧
   ∀ w_20, S_2 w_20 →
   Pu Tryz.prog (bopS Go.BinOp.add 3 (Go.Operand.tmp 16) (Go.Operand.const (Go.Value.int Go.IntKind.i64 1)) u16 (Go.Value.int Go.IntKind.i64 1)) fun t41 =>
   I t41 w_20 ∧ μ t41 w_20 < μ u16 w_6) ∧
   True) ∧
   True)
    (K t10 w_6)

def memory_Memory_Seen_ann : Ann :=
  { loop := fun r => match r with | 3 => [16] | _ => [],
    plan := fun r => match r with | 5 => (.pure 0 (.pure 1 (.pure 2 (.pure 3 (.pure 4 (.pure 6 (.pure 8 (.pure 9 (.pure 10 (.pure 12 (.load 5 [5, 7, 17, 18, 19, 20, 21, 22] (.pure 7 (.load 11 [11, 13, 14, 15, 16, 17, 18, 19, 20, 21, 22] (.pure 13 (.pure 14 (.load 15 [15, 16, 17, 18, 19, 20, 21, 22] (.load 16 [16, 17, 18, 19, 20, 21, 22] (.alt 17 (.pure 18 (.pure 19 (.pure 20 (.pure 21 (.alt 22 .done .stop))))) .stop)))))))))))))))))) | _ => .done,
    hold := fun r => match r with | 5 => (fun i => match i with | 11 => true | 13 => true | 14 => true | 15 => true | 16 => true | _ => false) | _ => fun _ => false,
    join := fun _ => none }

theorem memory_Memory_Seen_ok {K : Value → World → Prop} {t0 : Value} {w : World} (h : memory_Memory_Seen_w K t0 w) : Calls Tryz.prog 32 #[t0] w (Rt K) :=
  calls_of_wpC (A := memory_Memory_Seen_ann) (c := Tryz.f32.body.getD .skip) (args := [t0]) mixed Tryz.func32 rfl (by kernel_rfl) (Eq.mp (by kernel_rfl) h)

theorem memory_Memory_Seen_en : enters Tryz.prog 32 = true := by kernel_rfl

theorem memory_Memory_Seen_cl {K : Value → World → Prop} {t0 : Value} {w : World} (h : Calls Tryz.prog 32 #[t0] w (Rt K)) : Cl Tryz.prog 32 #[t0] w K := ⟨memory_Memory_Seen_en, h⟩

def memory_Memory_Events_w (K : Value → World → Prop) (t0 : Value) (w : World) : Prop :=
  Pu Tryz.prog (nilC t0) fun t4 =>
  Pu Tryz.prog (Instr.fieldAt 88 t4 3) fun t5 =>
  Bn Tryz.prog (Instr.loadAt 31 t5) w fun t6 w_1 =>
  Cl Tryz.prog 58 #[t6] w_1 fun t7 w_2 =>
  K t7 w_2

def memory_Memory_Events_ann : Ann :=
  { loop := fun _ => [],
    plan := fun _ => .done,
    hold := fun _ => fun _ => false,
    join := fun _ => none }

theorem memory_Memory_Events_ok {K : Value → World → Prop} {t0 : Value} {w : World} (h : memory_Memory_Events_w K t0 w) : Calls Tryz.prog 23 #[t0] w (Rt K) :=
  calls_of_wpC (A := memory_Memory_Events_ann) (c := Tryz.f23.body.getD .skip) (args := [t0]) mixed Tryz.func23 rfl (by kernel_rfl) (Eq.mp (by kernel_rfl) h)

theorem memory_Memory_Events_en : enters Tryz.prog 23 = true := by kernel_rfl

theorem memory_Memory_Events_cl {K : Value → World → Prop} {t0 : Value} {w : World} (h : Calls Tryz.prog 23 #[t0] w (Rt K)) : Cl Tryz.prog 23 #[t0] w K := ⟨memory_Memory_Events_en, h⟩

def memory_Memory_Forget_w (K : Value → World → Prop) (t0 : Value) (w : World) : Prop :=
  Pu Tryz.prog (nilC t0) fun t3 =>
  Pu Tryz.prog (Instr.fieldAt 88 t3 3) fun t4 =>
  Bn Tryz.prog (unitV (Instr.storeAt 31 t4 (Go.Value.slice none 0 0))) w fun _ w_1 =>
  K (Value.tuple #[]) w_1

def memory_Memory_Forget_ann : Ann :=
  { loop := fun _ => [],
    plan := fun _ => .done,
    hold := fun _ => fun _ => false,
    join := fun _ => none }

theorem memory_Memory_Forget_ok {K : Value → World → Prop} {t0 : Value} {w : World} (h : memory_Memory_Forget_w K t0 w) : Calls Tryz.prog 41 #[t0] w (Rt K) :=
  calls_of_wpC (A := memory_Memory_Forget_ann) (c := Tryz.f41.body.getD .skip) (args := [t0]) mixed Tryz.func41 rfl (by kernel_rfl) (Eq.mp (by kernel_rfl) h)

theorem memory_Memory_Forget_en : enters Tryz.prog 41 = true := by kernel_rfl

theorem memory_Memory_Forget_cl {K : Value → World → Prop} {t0 : Value} {w : World} (h : Calls Tryz.prog 41 #[t0] w (Rt K)) : Cl Tryz.prog 41 #[t0] w K := ⟨memory_Memory_Forget_en, h⟩

def memory_Memory_Copy_w (K : Value → World → Prop) (t0 : Value) (w : World) : Prop :=
  ∃ J : Value → World → Prop,
  (∃ S R : World → Prop, S w.drew ∧ (∀ w_1, S w_1 → R w_1) ∧
  Pu Tryz.prog (nilC t0) fun t6 =>
  Pu Tryz.prog (Instr.fieldAt 88 t6 0) fun t7 =>
  Pu Tryz.prog (nilC t0) fun t12 =>
  Pu Tryz.prog (Instr.fieldAt 88 t12 2) fun t13 =>
  Pu Tryz.prog (nilC t0) fun t16 =>
  Pu Tryz.prog (Instr.fieldAt 88 t16 3) fun t17 =>
  ∃ t8, (∀ w_2, R w_2 → (Instr.loadAt 79 t7).run Tryz.prog w_2 = .ok t8 w_2) ∧
  ∃ t14, (∀ w_3, R w_3 → (Instr.loadAt 3 t13).run Tryz.prog w_3 = .ok t14 w_3) ∧
  ∃ t18, (∀ w_4, R w_4 → (Instr.loadAt 31 t17).run Tryz.prog w_4 = .ok t18 w_4) ∧
  (∀ w_5, S w_5 →
  Cl Tryz.prog 62 #[t8] w_5 fun t9 w_6 =>
  ∃ S_1 R_1 : World → Prop, S_1 w_6 ∧ (∀ w_8, S_1 w_8 → R_1 w_8) ∧ (∀ w_7, R_1 w_7 → R w_7) ∧
  (∀ w_9, S_1 w_9 →
  Bn Tryz.prog (Instr.makeMap 86 none) w_9 fun t10 w_10 =>
  ∃ S_2 R_2 : World → Prop, S_2 w_10 ∧ (∀ w_12, S_2 w_12 → R_2 w_12) ∧ (∀ w_11, R_2 w_11 → R_1 w_11) ∧
  (∀ w_13, S_2 w_13 →
  Cl Tryz.prog 58 #[t18] w_13 fun t19 w_14 =>
  ∃ S_3 R_3 : World → Prop, S_3 w_14 ∧ (∀ w_16, S_3 w_16 → R_3 w_16) ∧ (∀ w_15, R_3 w_15 → R_2 w_15) ∧
  Pu Tryz.prog (Instr.build 88 #[(0, t9), (1, t10), (2, t14), (3, t19)]) fun t20 =>
  (∀ w_17, S_3 w_17 →
  Bn Tryz.prog (Instr.box 88 t20) w_17 fun t21 w_18 =>
  ∃ S_4 R_4 : World → Prop, S_4 w_18 ∧ (∀ w_20, S_4 w_20 → R_4 w_20) ∧ True ∧
  ∀ w_21, S_4 w_21 →
  J t21 w_21) ∧
  True) ∧
  True) ∧
  (∀ w_22, S_1 w_22 →
  Cl Tryz.prog 58 #[t18] w_22 fun t19_1 w_23 =>
  ∃ S_5 R_5 : World → Prop, S_5 w_23 ∧ (∀ w_25, S_5 w_25 → R_5 w_25) ∧ (∀ w_24, R_5 w_24 → R_1 w_24) ∧
  (∀ w_26, S_5 w_26 →
  Bn Tryz.prog (Instr.makeMap 86 none) w_26 fun t10_1 w_27 =>
  ∃ S_6 R_6 : World → Prop, S_6 w_27 ∧ (∀ w_29, S_6 w_29 → R_6 w_29) ∧ (∀ w_28, R_6 w_28 → R_5 w_28) ∧
  Pu Tryz.prog (Instr.build 88 #[(0, t9), (1, t10_1), (2, t14), (3, t19_1)]) fun t20_1 =>
  (∀ w_30, S_6 w_30 →
  Bn Tryz.prog (Instr.box 88 t20_1) w_30 fun t21_1 w_31 =>
  ∃ S_7 R_7 : World → Prop, S_7 w_31 ∧ (∀ w_33, S_7 w_33 → R_7 w_33) ∧ True ∧
  ∀ w_34, S_7 w_34 →
  J t21_1 w_34) ∧
  True) ∧
  True) ∧
  True) ∧
  (∀ w_35, S w_35 →
  Bn Tryz.prog (Instr.makeMap 86 none) w_35 fun t10_2 w_36 =>
  ∃ S_8 R_8 : World → Prop, S_8 w_36 ∧ (∀ w_38, S_8 w_38 → R_8 w_38) ∧ (∀ w_37, R_8 w_37 → R w_37) ∧
  (∀ w_39, S_8 w_39 →
  Cl Tryz.prog 62 #[t8] w_39 fun t9_1 w_40 =>
  ∃ S_9 R_9 : World → Prop, S_9 w_40 ∧ (∀ w_42, S_9 w_42 → R_9 w_42) ∧ (∀ w_41, R_9 w_41 → R_8 w_41) ∧
  (∀ w_43, S_9 w_43 →
  Cl Tryz.prog 58 #[t18] w_43 fun t19_2 w_44 =>
  ∃ S_10 R_10 : World → Prop, S_10 w_44 ∧ (∀ w_46, S_10 w_46 → R_10 w_46) ∧ (∀ w_45, R_10 w_45 → R_9 w_45) ∧
  Pu Tryz.prog (Instr.build 88 #[(0, t9_1), (1, t10_2), (2, t14), (3, t19_2)]) fun t20_2 =>
  (∀ w_47, S_10 w_47 →
  Bn Tryz.prog (Instr.box 88 t20_2) w_47 fun t21_2 w_48 =>
  ∃ S_11 R_11 : World → Prop, S_11 w_48 ∧ (∀ w_50, S_11 w_50 → R_11 w_50) ∧ True ∧
  ∀ w_51, S_11 w_51 →
  J t21_2 w_51) ∧
  True) ∧
  True) ∧
  True) ∧
  True) ∧
  (∀ (u5 u6 u7 u8 u9 u10 u11 u12 u13 u14 u15 u16 u17 u18 u19 u20 u21 u3 : Value), ∀ w_52 : World, J u3 w_52 →
  Pu Tryz.prog (nilC t0) fun t23 =>
  Pu Tryz.prog (Instr.fieldAt 88 t23 1) fun t24 =>
  Bn Tryz.prog (Instr.loadAt 86 t24) w_52 fun t25 w_53 =>
  Bn Tryz.prog (Instr.range 86 t25) w_53 fun t26 w_54 =>
  ∃ (I : World → Prop) (μ : World → Nat), I w_54 ∧
   ∀ (u27 u28 u29 u30 u4 u31 u32 u33 u34 u35 u36 u37 u38 u39 u40 u41 u42 u43 u44 u45 u46 u47 u48 u49 u50 u51 : Value) (w_55 : World), I w_55 →
   Bn Tryz.prog (Instr.next t26 false 0) w_55 fun t27 w_56 =>
   Pu Tryz.prog (Instr.extract t27 0) fun t28 =>
   condV t28
    (Bn Tryz.prog (Instr.entry t26) w_56 fun t29 w_57 =>
   Pu Tryz.prog (Instr.extract t29 0) fun t30 =>
   ∃ S_12 R_12 : World → Prop, S_12 w_57.drew ∧ (∀ w_58, S_12 w_58 → R_12 w_58) ∧
   Pu Tryz.prog (nilC u3) fun t32 =>
   Pu Tryz.prog (Instr.fieldAt 88 t32 0) fun t33 =>
   Pu Tryz.prog (nilC t0) fun t37 =>
   Pu Tryz.prog (Instr.fieldAt 88 t37 0) fun t38 =>
   ∃ t34, (∀ w_59, R_12 w_59 → (Instr.loadAt 79 t33).run Tryz.prog w_59 = .ok t34 w_59) ∧
   ∃ t39, (∀ w_60, R_12 w_60 → (Instr.loadAt 79 t38).run Tryz.prog w_60 = .ok t39 w_60) ∧
   Pu Tryz.prog (Instr.indexAt 79 t39 t30) fun t41 =>
   Pu Tryz.prog (Instr.fieldAt 85 t41 1) fun t42 =>
   ∃ t43, (∀ w_61, R_12 w_61 → (Instr.loadAt 67 t42).run Tryz.prog w_61 = .ok t43 w_61) ∧
   (∀ w_62, S_12 w_62 →
   Cl Tryz.prog 63 #[t43] w_62 fun t44 w_63 =>
   ∃ S_13 R_13 : World → Prop, S_13 w_63 ∧ (∀ w_65, S_13 w_65 → R_13 w_65) ∧ (∀ w_64, R_13 w_64 → R_12 w_64) ∧
   Pu Tryz.prog (Instr.indexAt 79 t34 t30) fun t45 =>
   Pu Tryz.prog (Instr.fieldAt 85 t45 1) fun t46 =>
   (∀ w_66, S_13 w_66 →
   Bn Tryz.prog (unitV (Instr.storeAt 67 t46 t44)) w_66 fun _ w_67 =>
   ∃ S_14 R_14 : World → Prop, S_14 w_67 ∧ (∀ w_69, S_14 w_69 → R_14 w_69) ∧ True ∧
   ∀ w_70, S_14 w_70 →
   Pu Tryz.prog (nilC u3) fun t48 =>
   Pu Tryz.prog (Instr.fieldAt 88 t48 1) fun t49 =>
   Bn Tryz.prog (Instr.loadAt 86 t49) w_70 fun t50 w_71 =>
   Bn Tryz.prog (unitV (Instr.mapUpdate 86 t50 t30 (Go.Value.bool true))) w_71 fun _ w_72 =>
   I w_72 ∧ μ w_72 < μ w_55) ∧
   True) ∧
   True)
    (K u3 w_56))

def memory_Memory_Copy_ann : Ann :=
  { loop := fun r => match r with | 3 => [] | _ => [],
    plan := fun r => match r with | 1 => (.pure 0 (.pure 1 (.pure 2 (.pure 6 (.pure 7 (.pure 8 (.pure 10 (.pure 11 (.pure 12 (.load 3 [3, 4, 14, 15, 16, 17] (.load 9 [9, 15, 16, 17] (.load 13 [13, 14, 15, 16, 17] (.alt 4 (.alt 5 (.alt 14 (.pure 15 (.alt 16 (.pure 17 .done) .stop)) .stop) (.alt 14 (.alt 5 (.pure 15 (.alt 16 (.pure 17 .done) .stop)) .stop) .stop)) (.alt 5 (.alt 4 (.alt 14 (.pure 15 (.alt 16 (.pure 17 .done) .stop)) .stop) .stop) .stop)))))))))))))) | 5 => (.pure 0 (.pure 1 (.pure 2 (.pure 4 (.pure 5 (.pure 6 (.pure 7 (.pure 9 (.load 3 [3, 14, 15, 16] (.load 8 [8, 10, 11, 12, 13, 14, 15, 16] (.pure 10 (.pure 11 (.load 12 [12, 13, 14, 15, 16] (.alt 13 (.pure 14 (.pure 15 (.alt 16 .done .stop))) .stop)))))))))))))) | _ => .done,
    hold := fun r => match r with | 1 => (fun i => match i with | 4 => true | 5 => true | 9 => true | 13 => true | 14 => true | _ => false) | 5 => (fun i => match i with | 8 => true | 10 => true | 11 => true | 12 => true | 13 => true | _ => false) | _ => fun _ => false,
    join := fun r => match r with | 2 => some [3] | _ => none }

theorem memory_Memory_Copy_ok {K : Value → World → Prop} {t0 : Value} {w : World} (h : memory_Memory_Copy_w K t0 w) : Calls Tryz.prog 27 #[t0] w (Rt K) :=
  calls_of_wpC (A := memory_Memory_Copy_ann) (c := Tryz.f27.body.getD .skip) (args := [t0]) mixed Tryz.func27 rfl (by kernel_rfl) (Eq.mp (by kernel_rfl) h)

theorem memory_Memory_Copy_en : enters Tryz.prog 27 = true := by kernel_rfl

theorem memory_Memory_Copy_cl {K : Value → World → Prop} {t0 : Value} {w : World} (h : Calls Tryz.prog 27 #[t0] w (Rt K)) : Cl Tryz.prog 27 #[t0] w K := ⟨memory_Memory_Copy_en, h⟩

def slices_Clone_api_Store_api_Store_w (K : Value → World → Prop) (t0 : Value) (w : World) : Prop :=
  Pu Tryz.prog (bopS Go.BinOp.eql 67 (Go.Operand.tmp 3) (Go.Operand.const (Go.Value.slice none 0 0)) t0 (Go.Value.slice none 0 0)) fun t4 =>
  condV t4
   (K (Go.Value.slice none 0 0) w)
   (Bn Tryz.prog (Instr.buildSlice 67 0 #[]) w fun t5 w_1 =>
  Bn Tryz.prog (Builtin.append_ #[67, 67] 67 #[t5, t0]) w_1 fun t7 w_2 =>
  K t7 w_2)

def slices_Clone_api_Store_api_Store_ann : Ann :=
  { loop := fun _ => [],
    plan := fun _ => .done,
    hold := fun _ => fun _ => false,
    join := fun _ => none }

theorem slices_Clone_api_Store_api_Store_ok {K : Value → World → Prop} {t0 : Value} {w : World} (h : slices_Clone_api_Store_api_Store_w K t0 w) : Calls Tryz.prog 63 #[t0] w (Rt K) :=
  calls_of_wpC (A := slices_Clone_api_Store_api_Store_ann) (c := Tryz.f63.body.getD .skip) (args := [t0]) mixed Tryz.func63 rfl (by kernel_rfl) (Eq.mp (by kernel_rfl) h)

theorem slices_Clone_api_Store_api_Store_en : enters Tryz.prog 63 = true := by kernel_rfl

theorem slices_Clone_api_Store_api_Store_cl {K : Value → World → Prop} {t0 : Value} {w : World} (h : Calls Tryz.prog 63 #[t0] w (Rt K)) : Cl Tryz.prog 63 #[t0] w K := ⟨slices_Clone_api_Store_api_Store_en, h⟩

def slices_Clone_api_Event_api_Event_w (K : Value → World → Prop) (t0 : Value) (w : World) : Prop :=
  Pu Tryz.prog (bopS Go.BinOp.eql 31 (Go.Operand.tmp 3) (Go.Operand.const (Go.Value.slice none 0 0)) t0 (Go.Value.slice none 0 0)) fun t4 =>
  condV t4
   (K (Go.Value.slice none 0 0) w)
   (Bn Tryz.prog (Instr.buildSlice 31 0 #[]) w fun t5 w_1 =>
  Bn Tryz.prog (Builtin.append_ #[31, 31] 31 #[t5, t0]) w_1 fun t7 w_2 =>
  K t7 w_2)

def slices_Clone_api_Event_api_Event_ann : Ann :=
  { loop := fun _ => [],
    plan := fun _ => .done,
    hold := fun _ => fun _ => false,
    join := fun _ => none }

theorem slices_Clone_api_Event_api_Event_ok {K : Value → World → Prop} {t0 : Value} {w : World} (h : slices_Clone_api_Event_api_Event_w K t0 w) : Calls Tryz.prog 58 #[t0] w (Rt K) :=
  calls_of_wpC (A := slices_Clone_api_Event_api_Event_ann) (c := Tryz.f58.body.getD .skip) (args := [t0]) mixed Tryz.func58 rfl (by kernel_rfl) (Eq.mp (by kernel_rfl) h)

theorem slices_Clone_api_Event_api_Event_en : enters Tryz.prog 58 = true := by kernel_rfl

theorem slices_Clone_api_Event_api_Event_cl {K : Value → World → Prop} {t0 : Value} {w : World} (h : Calls Tryz.prog 58 #[t0] w (Rt K)) : Cl Tryz.prog 58 #[t0] w K := ⟨slices_Clone_api_Event_api_Event_en, h⟩

def slices_Clone_memory_line_memory_line_w (K : Value → World → Prop) (t0 : Value) (w : World) : Prop :=
  Pu Tryz.prog (bopS Go.BinOp.eql 79 (Go.Operand.tmp 3) (Go.Operand.const (Go.Value.slice none 0 0)) t0 (Go.Value.slice none 0 0)) fun t4 =>
  condV t4
   (K (Go.Value.slice none 0 0) w)
   (Bn Tryz.prog (Instr.buildSlice 79 0 #[]) w fun t5 w_1 =>
  Bn Tryz.prog (Builtin.append_ #[79, 79] 79 #[t5, t0]) w_1 fun t7 w_2 =>
  K t7 w_2)

def slices_Clone_memory_line_memory_line_ann : Ann :=
  { loop := fun _ => [],
    plan := fun _ => .done,
    hold := fun _ => fun _ => false,
    join := fun _ => none }

theorem slices_Clone_memory_line_memory_line_ok {K : Value → World → Prop} {t0 : Value} {w : World} (h : slices_Clone_memory_line_memory_line_w K t0 w) : Calls Tryz.prog 62 #[t0] w (Rt K) :=
  calls_of_wpC (A := slices_Clone_memory_line_memory_line_ann) (c := Tryz.f62.body.getD .skip) (args := [t0]) mixed Tryz.func62 rfl (by kernel_rfl) (Eq.mp (by kernel_rfl) h)

theorem slices_Clone_memory_line_memory_line_en : enters Tryz.prog 62 = true := by kernel_rfl

theorem slices_Clone_memory_line_memory_line_cl {K : Value → World → Prop} {t0 : Value} {w : World} (h : Calls Tryz.prog 62 #[t0] w (Rt K)) : Cl Tryz.prog 62 #[t0] w K := ⟨slices_Clone_memory_line_memory_line_en, h⟩

def slices_IndexFunc_int_int_w (K : Value → World → Prop) (t0 t1 : Value) (w : World) : Prop :=
  Bn Tryz.prog (Builtin.len_ #[65] 3 #[t0]) w fun t7 w_1 =>
  ∃ (I : Value → World → Prop) (μ : Value → World → Nat), I (Go.Value.int Go.IntKind.i64 0) w_1 ∧
   ∀ (u9 u10 u5 u11 u12 u13 u14 u15 u16 u17 u4 u18 u8 : Value) (w_2 : World), I u8 w_2 →
   Pu Tryz.prog (bopS Go.BinOp.lss 3 (Go.Operand.tmp 8) (Go.Operand.tmp 7) u8 t7) fun t9 =>
   condV t9
    (Pu Tryz.prog (Instr.indexAt 65 t0 u8) fun t14 =>
   Bn Tryz.prog (Instr.loadAt 3 t14) w_2 fun t15 w_3 =>
   Clv Tryz.prog t1 #[t15] w_3 fun t16 w_4 =>
   condV t16
    (K u8 w_4)
    (Pu Tryz.prog (bopS Go.BinOp.add 3 (Go.Operand.tmp 8) (Go.Operand.const (Go.Value.int Go.IntKind.i64 1)) u8 (Go.Value.int Go.IntKind.i64 1)) fun t18 =>
   I t18 w_4 ∧ μ t18 w_4 < μ u8 w_2))
    (K (Go.Value.int Go.IntKind.i64 (-1)) w_2)

def slices_IndexFunc_int_int_ann : Ann :=
  { loop := fun r => match r with | 2 => [8] | _ => [],
    plan := fun _ => .done,
    hold := fun _ => fun _ => false,
    join := fun _ => none }

theorem slices_IndexFunc_int_int_ok {K : Value → World → Prop} {t0 t1 : Value} {w : World} (h : slices_IndexFunc_int_int_w K t0 t1 w) : Calls Tryz.prog 104 #[t0, t1] w (Rt K) :=
  calls_of_wpC (A := slices_IndexFunc_int_int_ann) (c := Tryz.f104.body.getD .skip) (args := [t0, t1]) mixed Tryz.func104 rfl (by kernel_rfl) (Eq.mp (by kernel_rfl) h)

theorem slices_IndexFunc_int_int_en : enters Tryz.prog 104 = true := by kernel_rfl

theorem slices_IndexFunc_int_int_cl {K : Value → World → Prop} {t0 t1 : Value} {w : World} (h : Calls Tryz.prog 104 #[t0, t1] w (Rt K)) : Cl Tryz.prog 104 #[t0, t1] w K := ⟨slices_IndexFunc_int_int_en, h⟩

def slices_ContainsFunc_int_int_w (K : Value → World → Prop) (t0 t1 : Value) (w : World) : Prop :=
  Cl Tryz.prog 104 #[t0, t1] w fun t7 w_1 =>
  Pu Tryz.prog (bopS Go.BinOp.geq 3 (Go.Operand.tmp 7) (Go.Operand.const (Go.Value.int Go.IntKind.i64 0)) t7 (Go.Value.int Go.IntKind.i64 0)) fun t8 =>
  K t8 w_1

def slices_ContainsFunc_int_int_ann : Ann :=
  { loop := fun _ => [],
    plan := fun _ => .done,
    hold := fun _ => fun _ => false,
    join := fun _ => none }

theorem slices_ContainsFunc_int_int_ok {K : Value → World → Prop} {t0 t1 : Value} {w : World} (h : slices_ContainsFunc_int_int_w K t0 t1 w) : Calls Tryz.prog 81 #[t0, t1] w (Rt K) :=
  calls_of_wpC (A := slices_ContainsFunc_int_int_ann) (c := Tryz.f81.body.getD .skip) (args := [t0, t1]) mixed Tryz.func81 rfl (by kernel_rfl) (Eq.mp (by kernel_rfl) h)

theorem slices_ContainsFunc_int_int_en : enters Tryz.prog 81 = true := by kernel_rfl

theorem slices_ContainsFunc_int_int_cl {K : Value → World → Prop} {t0 t1 : Value} {w : World} (h : Calls Tryz.prog 81 #[t0, t1] w (Rt K)) : Cl Tryz.prog 81 #[t0, t1] w K := ⟨slices_ContainsFunc_int_int_en, h⟩

end Go.Proofs.YtlolaieolgmdnaaGreatDoor
