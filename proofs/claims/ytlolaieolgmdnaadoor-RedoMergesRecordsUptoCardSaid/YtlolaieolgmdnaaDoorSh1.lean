import Derived.Test.YtlolaieolgmdnaaDoorWpC
import Derived.Test.YtlolaieolgmdnaaDoorProg
import Derived.KernelRfl
namespace Go.Proofs.YtlolaieolgmdnaaDoor
open Go.RowKit
set_option linter.unusedVariables false
set_option maxRecDepth 100000

theorem mixed : Tryd.prog.follows .mixedOrders = true := by kernel_rfl

def memory_word_w (K : Value → World → Prop) (t0 : Value) (w : World) : Prop :=
  Pu Tryd.prog (bopS Go.BinOp.geq 3 (Go.Operand.tmp 3) (Go.Operand.const (Go.Value.int Go.IntKind.i64 0)) t0 (Go.Value.int Go.IntKind.i64 0)) fun t4 =>
  condV t4
  (Pu Tryd.prog (bopS Go.BinOp.leq 3 (Go.Operand.tmp 6) (Go.Operand.const (Go.Value.int Go.IntKind.i64 1099511627775)) t0 (Go.Value.int Go.IntKind.i64 1099511627775)) fun t7 =>
  K t7 w)
  (K (Go.Value.bool false) w)

def memory_word_ann : Ann :=
  { loop := fun _ => [],
    plan := fun _ => .done,
    hold := fun _ => fun _ => false,
    join := fun _ => none }

theorem memory_word_ok {K : Value → World → Prop} {t0 : Value} {w : World} (h : memory_word_w K t0 w) : Calls Tryd.prog 45 #[t0] w (Rt K) :=
  calls_of_wpC (A := memory_word_ann) (c := Tryd.f45.body.getD .skip) (args := [t0]) mixed Tryd.func45 rfl (by kernel_rfl) (Eq.mp (by kernel_rfl) h)

theorem memory_word_en : enters Tryd.prog 45 = true := by kernel_rfl

theorem memory_word_cl {K : Value → World → Prop} {t0 : Value} {w : World} (h : Calls Tryd.prog 45 #[t0] w (Rt K)) : Cl Tryd.prog 45 #[t0] w K := ⟨memory_word_en, h⟩

def memory_words_1_w (K : Value → World → Prop) (t0 : Value) (w : World) : Prop :=
  Cl Tryd.prog 45 #[t0] w fun t4 w_1 =>
  Pu Tryd.prog (Op.unary Go.UnOp.not t4) fun t5 =>
  K t5 w_1

def memory_words_1_ann : Ann :=
  { loop := fun _ => [],
    plan := fun _ => .done,
    hold := fun _ => fun _ => false,
    join := fun _ => none }

theorem memory_words_1_ok {K : Value → World → Prop} {t0 : Value} {w : World} (h : memory_words_1_w K t0 w) : Calls Tryd.prog 44 #[t0] w (Rt K) :=
  calls_of_wpC (A := memory_words_1_ann) (c := Tryd.f44.body.getD .skip) (args := [t0]) mixed Tryd.func44 rfl (by kernel_rfl) (Eq.mp (by kernel_rfl) h)

theorem memory_words_1_en : enters Tryd.prog 44 = true := by kernel_rfl

theorem memory_words_1_cl {K : Value → World → Prop} {t0 : Value} {w : World} (h : Calls Tryd.prog 44 #[t0] w (Rt K)) : Cl Tryd.prog 44 #[t0] w K := ⟨memory_words_1_en, h⟩

def memory_Memory_Lines_w (K : Value → World → Prop) (t0 : Value) (w : World) : Prop :=
  Pu Tryd.prog (nilC t0) fun t4 =>
  Pu Tryd.prog (Instr.fieldAt 61 t4 0) fun t5 =>
  Bn Tryd.prog (Instr.loadAt 50 t5) w fun t6 w_1 =>
  Bn Tryd.prog (Builtin.len_ #[50] 3 #[t6]) w_1 fun t7 w_2 =>
  K t7 w_2

def memory_Memory_Lines_ann : Ann :=
  { loop := fun _ => [],
    plan := fun _ => .done,
    hold := fun _ => fun _ => false,
    join := fun _ => none }

theorem memory_Memory_Lines_ok {K : Value → World → Prop} {t0 : Value} {w : World} (h : memory_Memory_Lines_w K t0 w) : Calls Tryd.prog 13 #[t0] w (Rt K) :=
  calls_of_wpC (A := memory_Memory_Lines_ann) (c := Tryd.f13.body.getD .skip) (args := [t0]) mixed Tryd.func13 rfl (by kernel_rfl) (Eq.mp (by kernel_rfl) h)

theorem memory_Memory_Lines_en : enters Tryd.prog 13 = true := by kernel_rfl

theorem memory_Memory_Lines_cl {K : Value → World → Prop} {t0 : Value} {w : World} (h : Calls Tryd.prog 13 #[t0] w (Rt K)) : Cl Tryd.prog 13 #[t0] w K := ⟨memory_Memory_Lines_en, h⟩

def memory_Memory_has_w (K : Value → World → Prop) (t0 t1 : Value) (w : World) : Prop :=
  Pu Tryd.prog (bopS Go.BinOp.geq 3 (Go.Operand.tmp 5) (Go.Operand.const (Go.Value.int Go.IntKind.i64 0)) t1 (Go.Value.int Go.IntKind.i64 0)) fun t6 =>
  condV t6
  (Pu Tryd.prog (nilC t0) fun t10 =>
  Pu Tryd.prog (Instr.fieldAt 61 t10 0) fun t11 =>
  Bn Tryd.prog (Instr.loadAt 50 t11) w fun t12 w_1 =>
  Bn Tryd.prog (Builtin.len_ #[50] 3 #[t12]) w_1 fun t13 w_2 =>
  Pu Tryd.prog (bopS Go.BinOp.lss 3 (Go.Operand.tmp 8) (Go.Operand.tmp 13) t1 t13) fun t14 =>
  K t14 w_2)
  (K (Go.Value.bool false) w)

def memory_Memory_has_ann : Ann :=
  { loop := fun _ => [],
    plan := fun _ => .done,
    hold := fun _ => fun _ => false,
    join := fun _ => none }

theorem memory_Memory_has_ok {K : Value → World → Prop} {t0 t1 : Value} {w : World} (h : memory_Memory_has_w K t0 t1 w) : Calls Tryd.prog 41 #[t0, t1] w (Rt K) :=
  calls_of_wpC (A := memory_Memory_has_ann) (c := Tryd.f41.body.getD .skip) (args := [t0, t1]) mixed Tryd.func41 rfl (by kernel_rfl) (Eq.mp (by kernel_rfl) h)

theorem memory_Memory_has_en : enters Tryd.prog 41 = true := by kernel_rfl

theorem memory_Memory_has_cl {K : Value → World → Prop} {t0 t1 : Value} {w : World} (h : Calls Tryd.prog 41 #[t0, t1] w (Rt K)) : Cl Tryd.prog 41 #[t0, t1] w K := ⟨memory_Memory_has_en, h⟩

def memory_words_w (K : Value → World → Prop) (t0 : Value) (w : World) : Prop :=
  Bn Tryd.prog (Instr.box 51 t0) w fun t1 w_1 =>
  Pu Tryd.prog (Instr.sliceAt 51 t1 none none none) fun t3 =>
  Cl Tryd.prog 43 #[t3, (Value.func (Fn.func 44) #[] #[])] w_1 fun t4 w_2 =>
  Pu Tryd.prog (Op.unary Go.UnOp.not t4) fun t5 =>
  K t5 w_2

def memory_words_ann : Ann :=
  { loop := fun _ => [],
    plan := fun _ => .done,
    hold := fun _ => fun _ => false,
    join := fun _ => none }

theorem memory_words_ok {K : Value → World → Prop} {t0 : Value} {w : World} (h : memory_words_w K t0 w) : Calls Tryd.prog 21 #[t0] w (Rt K) :=
  calls_of_wpC (A := memory_words_ann) (c := Tryd.f21.body.getD .skip) (args := [t0]) mixed Tryd.func21 rfl (by kernel_rfl) (Eq.mp (by kernel_rfl) h)

theorem memory_words_en : enters Tryd.prog 21 = true := by kernel_rfl

theorem memory_words_cl {K : Value → World → Prop} {t0 : Value} {w : World} (h : Calls Tryd.prog 21 #[t0] w (Rt K)) : Cl Tryd.prog 21 #[t0] w K := ⟨memory_words_en, h⟩

def memory_From_w (K : Value → World → Prop) (t0 : Value) (w : World) : Prop :=
  Bn Tryd.prog (Builtin.len_ #[23] 3 #[t0]) w fun t7 w_1 =>
  Pu Tryd.prog (bopS Go.BinOp.lss 3 (Go.Operand.tmp 7) (Go.Operand.const (Go.Value.int Go.IntKind.i64 1)) t7 (Go.Value.int Go.IntKind.i64 1)) fun t8 =>
  condV t8
  (K (Go.Value.pointer none) w_1)
  (Bn Tryd.prog (Builtin.len_ #[23] 3 #[t0]) w_1 fun t11 w_2 =>
  Pu Tryd.prog (bopS Go.BinOp.gtr 3 (Go.Operand.tmp 11) (Go.Operand.const (Go.Value.int Go.IntKind.i64 4096)) t11 (Go.Value.int Go.IntKind.i64 4096)) fun t12 =>
  condV t12
   (K (Go.Value.pointer none) w_2)
   (Bn Tryd.prog (Builtin.len_ #[23] 3 #[t0]) w_2 fun t15 w_3 =>
  Bn Tryd.prog (Instr.makeSlice 50 t15 t15) w_3 fun t16 w_4 =>
  Bn Tryd.prog (Builtin.len_ #[23] 3 #[t0]) w_4 fun t18 w_5 =>
  ∃ (I : Value → World → Prop) (μ : Value → World → Nat), I (Go.Value.int Go.IntKind.i64 0) w_5 ∧
   ∀ (u20 u21 u22 u23 u5 u4 u24 u25 u26 u27 u28 u29 u30 u31 u32 u33 u34 u35 u36 u37 u2 u38 u39 u40 u41 u42 u43 u19 : Value) (w_6 : World), I u19 w_6 →
   Pu Tryd.prog (bopS Go.BinOp.lss 3 (Go.Operand.tmp 19) (Go.Operand.tmp 18) u19 t18) fun t20 =>
   condV t20
    (Pu Tryd.prog (Instr.indexAt 23 t0 u19) fun t22 =>
   Bn Tryd.prog (Instr.loadAt 53 t22) w_6 fun t23 w_7 =>
   Bn Tryd.prog (Instr.alloc 53 true (Value.tuple #[])) w_7 fun t5 w_8 =>
   Bn Tryd.prog (unitV (Instr.storeAt 53 t5 t23)) w_8 fun _ w_9 =>
   Pu Tryd.prog (Instr.fieldAt 53 t5 0) fun t24 =>
   Bn Tryd.prog (Instr.loadAt 51 t24) w_9 fun t25 w_10 =>
   Cl Tryd.prog 21 #[t25] w_10 fun t26 w_11 =>
   Pu Tryd.prog (Op.unary Go.UnOp.not t26) fun t27 =>
   condV t27
   (K (Go.Value.pointer none) w_11)
   (Pu Tryd.prog (Instr.fieldAt 53 t5 1) fun t29 =>
   Bn Tryd.prog (Instr.loadAt 3 t29) w_11 fun t30 w_12 =>
   Pu Tryd.prog (bopS Go.BinOp.lss 3 (Go.Operand.tmp 30) (Go.Operand.const (Go.Value.int Go.IntKind.i64 0)) t30 (Go.Value.int Go.IntKind.i64 0)) fun t31 =>
   condV t31
   (K (Go.Value.pointer none) w_12)
   (Pu Tryd.prog (Instr.fieldAt 53 t5 1) fun t34 =>
   Bn Tryd.prog (Instr.loadAt 3 t34) w_12 fun t35 w_13 =>
   Pu Tryd.prog (bopS Go.BinOp.geq 3 (Go.Operand.tmp 35) (Go.Operand.const (Go.Value.int Go.IntKind.i64 1024)) t35 (Go.Value.int Go.IntKind.i64 1024)) fun t36 =>
   condV t36
    (K (Go.Value.pointer none) w_13)
    (Bn Tryd.prog (Instr.loadAt 53 t5) w_13 fun t40 w_14 =>
   Pu Tryd.prog (Instr.indexAt 50 t16 u19) fun t41 =>
   Pu Tryd.prog (Instr.fieldAt 57 t41 0) fun t42 =>
   Bn Tryd.prog (unitV (Instr.storeAt 53 t42 t40)) w_14 fun _ w_15 =>
   Pu Tryd.prog (bopS Go.BinOp.add 3 (Go.Operand.tmp 19) (Go.Operand.const (Go.Value.int Go.IntKind.i64 1)) u19 (Go.Value.int Go.IntKind.i64 1)) fun t43 =>
   I t43 w_15 ∧ μ t43 w_15 < μ u19 w_6))))
    (Bn Tryd.prog (Instr.makeMap 58 none) w_6 fun t45 w_16 =>
  Pu Tryd.prog (Instr.build 61 #[(0, t16), (1, t45)]) fun t46 =>
  Bn Tryd.prog (Instr.box 61 t46) w_16 fun t47 w_17 =>
  K t47 w_17)))

def memory_From_ann : Ann :=
  { loop := fun r => match r with | 5 => [19] | _ => [],
    plan := fun _ => .done,
    hold := fun _ => fun _ => false,
    join := fun _ => none }

theorem memory_From_ok {K : Value → World → Prop} {t0 : Value} {w : World} (h : memory_From_w K t0 w) : Calls Tryd.prog 5 #[t0] w (Rt K) :=
  calls_of_wpC (A := memory_From_ann) (c := Tryd.f5.body.getD .skip) (args := [t0]) mixed Tryd.func5 rfl (by kernel_rfl) (Eq.mp (by kernel_rfl) h)

theorem memory_From_en : enters Tryd.prog 5 = true := by kernel_rfl

theorem memory_From_cl {K : Value → World → Prop} {t0 : Value} {w : World} (h : Calls Tryd.prog 5 #[t0] w (Rt K)) : Cl Tryd.prog 5 #[t0] w K := ⟨memory_From_en, h⟩

def memory_New_w (K : Value → World → Prop) (t0 : Value) (w : World) : Prop :=
  Pu Tryd.prog (bopS Go.BinOp.lss 3 (Go.Operand.tmp 6) (Go.Operand.const (Go.Value.int Go.IntKind.i64 1)) t0 (Go.Value.int Go.IntKind.i64 1)) fun t7 =>
  condV t7
  (K (Go.Value.pointer none) w)
  (Pu Tryd.prog (bopS Go.BinOp.gtr 3 (Go.Operand.tmp 9) (Go.Operand.const (Go.Value.int Go.IntKind.i64 4096)) t0 (Go.Value.int Go.IntKind.i64 4096)) fun t10 =>
  condV t10
   (K (Go.Value.pointer none) w)
   (Bn Tryd.prog (Instr.makeSlice 50 t0 t0) w fun t13 w_1 =>
  Pu Tryd.prog (Instr.build 51 #[]) fun t14 =>
  Cl Tryd.prog 48 #[t14] w_1 fun t15 w_2 =>
  Bn Tryd.prog (Builtin.len_ #[50] 3 #[t13]) w_2 fun t17 w_3 =>
  ∃ (I : Value → World → Prop) (μ : Value → World → Nat), I (Go.Value.int Go.IntKind.i64 0) w_3 ∧
   ∀ (u19 u20 u5 u21 u22 u23 u24 u25 u26 u27 u18 : Value) (w_4 : World), I u18 w_4 →
   Pu Tryd.prog (bopS Go.BinOp.lss 3 (Go.Operand.tmp 18) (Go.Operand.tmp 17) u18 t17) fun t19 =>
   condV t19
    (Pu Tryd.prog (Instr.indexAt 50 t13 u18) fun t24 =>
   Pu Tryd.prog (Instr.fieldAt 57 t24 0) fun t25 =>
   Pu Tryd.prog (Instr.fieldAt 53 t25 1) fun t26 =>
   Bn Tryd.prog (unitV (Instr.storeAt 3 t26 t15)) w_4 fun _ w_5 =>
   Pu Tryd.prog (bopS Go.BinOp.add 3 (Go.Operand.tmp 18) (Go.Operand.const (Go.Value.int Go.IntKind.i64 1)) u18 (Go.Value.int Go.IntKind.i64 1)) fun t27 =>
   I t27 w_5 ∧ μ t27 w_5 < μ u18 w_4)
    (Bn Tryd.prog (Instr.makeMap 58 none) w_4 fun t29 w_6 =>
  Pu Tryd.prog (Instr.build 61 #[(0, t13), (1, t29)]) fun t30 =>
  Bn Tryd.prog (Instr.box 61 t30) w_6 fun t31 w_7 =>
  K t31 w_7)))

def memory_New_ann : Ann :=
  { loop := fun r => match r with | 6 => [18] | _ => [],
    plan := fun _ => .done,
    hold := fun _ => fun _ => false,
    join := fun _ => none }

theorem memory_New_ok {K : Value → World → Prop} {t0 : Value} {w : World} (h : memory_New_w K t0 w) : Calls Tryd.prog 28 #[t0] w (Rt K) :=
  calls_of_wpC (A := memory_New_ann) (c := Tryd.f28.body.getD .skip) (args := [t0]) mixed Tryd.func28 rfl (by kernel_rfl) (Eq.mp (by kernel_rfl) h)

theorem memory_New_en : enters Tryd.prog 28 = true := by kernel_rfl

theorem memory_New_cl {K : Value → World → Prop} {t0 : Value} {w : World} (h : Calls Tryd.prog 28 #[t0] w (Rt K)) : Cl Tryd.prog 28 #[t0] w K := ⟨memory_New_en, h⟩

def memory_Memory_State_w (K : Value → World → Prop) (t0 t1 : Value) (w : World) : Prop :=
  Cl Tryd.prog 41 #[t0, t1] w fun t10 w_1 =>
  Pu Tryd.prog (Op.unary Go.UnOp.not t10) fun t11 =>
  condV t11
   (K (Go.Value.int Go.IntKind.i64 (-1)) w_1)
   (∃ S R : World → Prop, S w_1.drew ∧ (∀ w_2, S w_2 → R w_2) ∧
  Pu Tryd.prog (nilC t0) fun t14 =>
  Pu Tryd.prog (Instr.fieldAt 61 t14 0) fun t15 =>
  Pu Tryd.prog (nilC t0) fun t23 =>
  Pu Tryd.prog (Instr.fieldAt 61 t23 0) fun t24 =>
  ∃ t16, (∀ w_3, R w_3 → (Instr.loadAt 50 t15).run Tryd.prog w_3 = .ok t16 w_3) ∧
  Pu Tryd.prog (Instr.indexAt 50 t16 t1) fun t18 =>
  Pu Tryd.prog (Instr.fieldAt 57 t18 0) fun t19 =>
  Pu Tryd.prog (Instr.fieldAt 53 t19 0) fun t20 =>
  ∃ t21, (∀ w_4, R w_4 → (Instr.loadAt 51 t20).run Tryd.prog w_4 = .ok t21 w_4) ∧
  ∃ t25, (∀ w_5, R w_5 → (Instr.loadAt 50 t24).run Tryd.prog w_5 = .ok t25 w_5) ∧
  Pu Tryd.prog (Instr.indexAt 50 t25 t1) fun t27 =>
  Pu Tryd.prog (Instr.fieldAt 57 t27 0) fun t28 =>
  Pu Tryd.prog (Instr.fieldAt 53 t28 1) fun t29 =>
  ∃ t30, (∀ w_6, R w_6 → (Instr.loadAt 3 t29).run Tryd.prog w_6 = .ok t30 w_6) ∧
  (∀ w_7, S w_7 →
  Cl Tryd.prog 47 #[t21, t30] w_7 fun t31 w_8 =>
  ∃ S_1 R_1 : World → Prop, S_1 w_8 ∧ (∀ w_10, S_1 w_10 → R_1 w_10) ∧ True ∧
  Pu Tryd.prog (Instr.extract t31 0) fun t32 =>
  Pu Tryd.prog (Instr.extract t31 1) fun t33 =>
  Pu Tryd.prog (Instr.extract t31 2) fun t34 =>
  ∀ w_11, S_1 w_11 →
  K t32 w_11) ∧
  True)

def memory_Memory_State_ann : Ann :=
  { loop := fun _ => [],
    plan := fun r => match r with | 3 => (.pure 0 (.pure 1 (.pure 2 (.pure 4 (.pure 9 (.pure 10 (.pure 11 (.pure 13 (.load 3 [3, 5, 6, 7, 8, 18, 19, 20, 21, 22, 23, 24, 25] (.pure 5 (.pure 6 (.pure 7 (.load 8 [8, 18, 19, 20, 21, 22, 23, 24, 25] (.load 12 [12, 14, 15, 16, 17, 18, 19, 20, 21, 22, 23, 24, 25] (.pure 14 (.pure 15 (.pure 16 (.load 17 [17, 18, 19, 20, 21, 22, 23, 24, 25] (.alt 18 (.pure 19 (.pure 20 (.pure 21 (.pure 22 (.pure 23 (.pure 24 (.pure 25 .done))))))) .stop))))))))))))))))))) | _ => .done,
    hold := fun r => match r with | 3 => (fun i => match i with | 12 => true | 14 => true | 15 => true | 16 => true | 17 => true | _ => false) | _ => fun _ => false,
    join := fun _ => none }

theorem memory_Memory_State_ok {K : Value → World → Prop} {t0 t1 : Value} {w : World} (h : memory_Memory_State_w K t0 t1 w) : Calls Tryd.prog 27 #[t0, t1] w (Rt K) :=
  calls_of_wpC (A := memory_Memory_State_ann) (c := Tryd.f27.body.getD .skip) (args := [t0, t1]) mixed Tryd.func27 rfl (by kernel_rfl) (Eq.mp (by kernel_rfl) h)

theorem memory_Memory_State_en : enters Tryd.prog 27 = true := by kernel_rfl

theorem memory_Memory_State_cl {K : Value → World → Prop} {t0 t1 : Value} {w : World} (h : Calls Tryd.prog 27 #[t0, t1] w (Rt K)) : Cl Tryd.prog 27 #[t0, t1] w K := ⟨memory_Memory_State_en, h⟩

def memory_line_shows_w (K : Value → World → Prop) (t0 t1 : Value) (w : World) : Prop :=
  Bn Tryd.prog (Instr.alloc 51 true (Value.tuple #[])) w fun t4 w_1 =>
  ∃ J : Value → Value → World → Prop,
  (∃ S R : World → Prop, S w_1.drew ∧ (∀ w_2, S w_2 → R w_2) ∧
  Pu Tryd.prog (nilC t0) fun t13 =>
  Pu Tryd.prog (Instr.fieldAt 57 t13 0) fun t14 =>
  Pu Tryd.prog (Instr.fieldAt 53 t14 0) fun t15 =>
  Pu Tryd.prog (nilC t0) fun t18 =>
  Pu Tryd.prog (Instr.fieldAt 57 t18 0) fun t19 =>
  Pu Tryd.prog (Instr.fieldAt 53 t19 1) fun t20 =>
  ∃ t16, (∀ w_3, R w_3 → (Instr.loadAt 51 t15).run Tryd.prog w_3 = .ok t16 w_3) ∧
  ∃ t21, (∀ w_4, R w_4 → (Instr.loadAt 3 t20).run Tryd.prog w_4 = .ok t21 w_4) ∧
  (∀ w_5, S w_5 →
  Cl Tryd.prog 57 #[t16, t21] w_5 fun t22 w_6 =>
  ∃ S_1 R_1 : World → Prop, S_1 w_6 ∧ (∀ w_8, S_1 w_8 → R_1 w_8) ∧ True ∧
  Pu Tryd.prog (Instr.extract t22 0) fun t23 =>
  Pu Tryd.prog (Instr.extract t22 1) fun t24 =>
  Pu Tryd.prog (Instr.extract t22 2) fun t25 =>
  (∀ w_9, S_1 w_9 →
  Bn Tryd.prog (Instr.alloc 51 true (Value.tuple #[])) w_9 fun t6 w_10 =>
  ∃ S_2 R_2 : World → Prop, S_2 w_10 ∧ (∀ w_12, S_2 w_12 → R_2 w_12) ∧ (∀ w_11, R_2 w_11 → R_1 w_11) ∧
  (∀ w_13, S_2 w_13 →
  Bn Tryd.prog (unitV (Instr.storeAt 51 t6 t23)) w_13 fun _ w_14 =>
  ∃ S_3 R_3 : World → Prop, S_3 w_14 ∧ (∀ w_16, S_3 w_16 → R_3 w_16) ∧ True ∧
  ∀ w_17, S_3 w_17 →
  J t6 t25 w_17) ∧
  True) ∧
  True) ∧
  (∀ w_18, S w_18 →
  Bn Tryd.prog (Instr.alloc 51 true (Value.tuple #[])) w_18 fun t6_1 w_19 =>
  ∃ S_4 R_4 : World → Prop, S_4 w_19 ∧ (∀ w_21, S_4 w_21 → R_4 w_21) ∧ (∀ w_20, R_4 w_20 → R w_20) ∧
  (∀ w_22, S_4 w_22 →
  Cl Tryd.prog 57 #[t16, t21] w_22 fun t22_1 w_23 =>
  ∃ S_5 R_5 : World → Prop, S_5 w_23 ∧ (∀ w_25, S_5 w_25 → R_5 w_25) ∧ True ∧
  Pu Tryd.prog (Instr.extract t22_1 0) fun t23_1 =>
  Pu Tryd.prog (Instr.extract t22_1 1) fun t24_1 =>
  Pu Tryd.prog (Instr.extract t22_1 2) fun t25_1 =>
  (∀ w_26, S_5 w_26 →
  Bn Tryd.prog (unitV (Instr.storeAt 51 t6_1 t23_1)) w_26 fun _ w_27 =>
  ∃ S_6 R_6 : World → Prop, S_6 w_27 ∧ (∀ w_29, S_6 w_29 → R_6 w_29) ∧ True ∧
  ∀ w_30, S_6 w_30 →
  J t6_1 t25_1 w_30) ∧
  True) ∧
  True) ∧
  True) ∧
  (∀ (u12 u13 u14 u15 u16 u17 u18 u19 u20 u21 u22 u11 u23 u24 u25 u6 u7 u8 : Value), ∀ w_31 : World, J u6 u8 w_31 →
  Pu Tryd.prog (bopS Go.BinOp.neq 27 (Go.Operand.tmp 26) (Go.Operand.const (Go.Value.int Go.IntKind.i64 0)) u8 (Go.Value.int Go.IntKind.i64 0)) fun t27 =>
  condV t27
   (Pu Tryd.prog (Instr.build 51 #[]) fun t28 =>
   Bn Tryd.prog (unitV (Instr.storeAt 51 t4 t28)) w_31 fun _ w_32 =>
   ∃ r, (Instr.loadAt 51 t4).run Tryd.prog w_32 = .ok r w_32 ∧ K (Value.tuple #[r, u8]) w_32)
   (Pu Tryd.prog (nilC t0) fun t31 =>
  Pu Tryd.prog (Instr.fieldAt 57 t31 1) fun t32 =>
  Bn Tryd.prog (Instr.loadAt 55 t32) w_31 fun t33 w_33 =>
  Pu Tryd.prog (Instr.sliceAt 55 t33 none (some t1) none) fun t35 =>
  Bn Tryd.prog (Builtin.len_ #[55] 3 #[t35]) w_33 fun t36 w_34 =>
  ∃ (I : Value → World → Prop) (μ : Value → World → Nat), I (Go.Value.int Go.IntKind.i64 0) w_34 ∧
   ∀ (u38 u39 u40 u10 u41 u42 u43 u44 u45 u46 u37 : Value) (w_35 : World), I u37 w_35 →
   Pu Tryd.prog (bopS Go.BinOp.lss 3 (Go.Operand.tmp 37) (Go.Operand.tmp 36) u37 t36) fun t38 =>
   condV t38
    (Pu Tryd.prog (Instr.indexAt 55 t35 u37) fun t39 =>
   Bn Tryd.prog (Instr.loadAt 80 t39) w_35 fun t40 w_36 =>
   Bn Tryd.prog (Instr.alloc 80 true (Value.tuple #[])) w_36 fun t10 w_37 =>
   Bn Tryd.prog (unitV (Instr.storeAt 80 t10 t40)) w_37 fun _ w_38 =>
   Pu Tryd.prog (Instr.fieldAt 80 t10 0) fun t41 =>
   Bn Tryd.prog (Instr.loadAt 3 t41) w_38 fun t42 w_39 =>
   Pu Tryd.prog (Instr.fieldAt 80 t10 1) fun t43 =>
   Bn Tryd.prog (Instr.loadAt 3 t43) w_39 fun t44 w_40 =>
   Pu Tryd.prog (Instr.indexAt 51 u6 t42) fun t45 =>
   Bn Tryd.prog (unitV (Instr.storeAt 3 t45 t44)) w_40 fun _ w_41 =>
   Pu Tryd.prog (bopS Go.BinOp.add 3 (Go.Operand.tmp 37) (Go.Operand.const (Go.Value.int Go.IntKind.i64 1)) u37 (Go.Value.int Go.IntKind.i64 1)) fun t46 =>
   I t46 w_41 ∧ μ t46 w_41 < μ u37 w_35)
    (Bn Tryd.prog (Instr.loadAt 51 u6) w_35 fun t47 w_42 =>
  Bn Tryd.prog (unitV (Instr.storeAt 51 t4 t47)) w_42 fun _ w_43 =>
  ∃ r_1, (Instr.loadAt 51 t4).run Tryd.prog w_43 = .ok r_1 w_43 ∧ K (Value.tuple #[r_1, (Go.Value.int Go.IntKind.i64 0)]) w_43)))

def memory_line_shows_ann : Ann :=
  { loop := fun r => match r with | 5 => [37] | _ => [],
    plan := fun r => match r with | 1 => (.pure 0 (.pure 1 (.pure 2 (.pure 3 (.pure 5 (.pure 6 (.pure 7 (.pure 8 (.load 4 [4, 10, 11, 12, 13, 14, 16, 17, 18] (.load 9 [9, 10, 11, 12, 13, 14, 16, 17, 18] (.alt 10 (.pure 11 (.pure 12 (.pure 13 (.pure 14 (.alt 15 (.alt 16 (.pure 17 (.pure 18 .done)) .stop) .stop))))) (.alt 15 (.alt 10 (.pure 11 (.pure 12 (.pure 13 (.pure 14 (.alt 16 (.pure 17 (.pure 18 .done)) .stop))))) .stop) .stop)))))))))))) | _ => .done,
    hold := fun r => match r with | 1 => (fun i => match i with | 9 => true | 15 => true | _ => false) | _ => fun _ => false,
    join := fun r => match r with | 2 => some [6, 8] | _ => none }

theorem memory_line_shows_ok {K : Value → World → Prop} {t0 t1 : Value} {w : World} (h : memory_line_shows_w K t0 t1 w) : Calls Tryd.prog 42 #[t0, t1] w (Rt K) :=
  calls_of_wpC (A := memory_line_shows_ann) (c := Tryd.f42.body.getD .skip) (args := [t0, t1]) mixed Tryd.func42 rfl (by kernel_rfl) (Eq.mp (by kernel_rfl) h)

theorem memory_line_shows_en : enters Tryd.prog 42 = true := by kernel_rfl

theorem memory_line_shows_cl {K : Value → World → Prop} {t0 t1 : Value} {w : World} (h : Calls Tryd.prog 42 #[t0, t1] w (Rt K)) : Cl Tryd.prog 42 #[t0, t1] w K := ⟨memory_line_shows_en, h⟩

def memory_Memory_Load_w (K : Value → World → Prop) (t0 t1 : Value) (w : World) : Prop :=
  Pu Tryd.prog (bopS Go.BinOp.lss 3 (Go.Operand.tmp 9) (Go.Operand.const (Go.Value.int Go.IntKind.i64 0)) t1 (Go.Value.int Go.IntKind.i64 0)) fun t10 =>
  condV t10
  (K (Value.tuple #[(Go.Value.int Go.IntKind.i64 0), (Go.Value.int Go.IntKind.i64 40)]) w)
  (Pu Tryd.prog (bopS Go.BinOp.quo 3 (Go.Operand.tmp 13) (Go.Operand.const (Go.Value.int Go.IntKind.i64 8)) t1 (Go.Value.int Go.IntKind.i64 8)) fun t14 =>
  Cl Tryd.prog 41 #[t0, t14] w fun t15 w_1 =>
  Pu Tryd.prog (Op.unary Go.UnOp.not t15) fun t16 =>
  condV t16
   (K (Value.tuple #[(Go.Value.int Go.IntKind.i64 0), (Go.Value.int Go.IntKind.i64 40)]) w_1)
   (Pu Tryd.prog (nilC t0) fun t19 =>
  Pu Tryd.prog (Instr.fieldAt 61 t19 0) fun t20 =>
  Bn Tryd.prog (Instr.loadAt 50 t20) w_1 fun t21 w_2 =>
  Pu Tryd.prog (bopS Go.BinOp.quo 3 (Go.Operand.tmp 22) (Go.Operand.const (Go.Value.int Go.IntKind.i64 8)) t1 (Go.Value.int Go.IntKind.i64 8)) fun t23 =>
  Pu Tryd.prog (Instr.indexAt 50 t21 t23) fun t24 =>
  Pu Tryd.prog (nilC t24) fun t28 =>
  Pu Tryd.prog (Instr.fieldAt 57 t28 1) fun t29 =>
  Bn Tryd.prog (Instr.loadAt 55 t29) w_2 fun t30 w_3 =>
  Bn Tryd.prog (Builtin.len_ #[55] 3 #[t30]) w_3 fun t31 w_4 =>
  Cl Tryd.prog 42 #[t24, t31] w_4 fun t32 w_5 =>
  Pu Tryd.prog (Instr.extract t32 0) fun t33 =>
  Pu Tryd.prog (Instr.extract t32 1) fun t34 =>
  Bn Tryd.prog (Instr.alloc 51 true (Value.tuple #[])) w_5 fun t7 w_6 =>
  Bn Tryd.prog (unitV (Instr.storeAt 51 t7 t33)) w_6 fun _ w_7 =>
  Pu Tryd.prog (bopS Go.BinOp.neq 27 (Go.Operand.tmp 35) (Go.Operand.const (Go.Value.int Go.IntKind.i64 0)) t34 (Go.Value.int Go.IntKind.i64 0)) fun t36 =>
  condV t36
   (K (Value.tuple #[(Go.Value.int Go.IntKind.i64 0), (Go.Value.int Go.IntKind.i64 9)]) w_7)
   (Pu Tryd.prog (bopS Go.BinOp.rem 3 (Go.Operand.tmp 37) (Go.Operand.const (Go.Value.int Go.IntKind.i64 8)) t1 (Go.Value.int Go.IntKind.i64 8)) fun t38 =>
  Pu Tryd.prog (Instr.indexAt 51 t7 t38) fun t39 =>
  Bn Tryd.prog (Instr.loadAt 3 t39) w_7 fun t40 w_8 =>
  K (Value.tuple #[t40, (Go.Value.int Go.IntKind.i64 0)]) w_8)))

def memory_Memory_Load_ann : Ann :=
  { loop := fun _ => [],
    plan := fun _ => .done,
    hold := fun _ => fun _ => false,
    join := fun _ => none }

theorem memory_Memory_Load_ok {K : Value → World → Prop} {t0 t1 : Value} {w : World} (h : memory_Memory_Load_w K t0 t1 w) : Calls Tryd.prog 15 #[t0, t1] w (Rt K) :=
  calls_of_wpC (A := memory_Memory_Load_ann) (c := Tryd.f15.body.getD .skip) (args := [t0, t1]) mixed Tryd.func15 rfl (by kernel_rfl) (Eq.mp (by kernel_rfl) h)

theorem memory_Memory_Load_en : enters Tryd.prog 15 = true := by kernel_rfl

theorem memory_Memory_Load_cl {K : Value → World → Prop} {t0 t1 : Value} {w : World} (h : Calls Tryd.prog 15 #[t0, t1] w (Rt K)) : Cl Tryd.prog 15 #[t0, t1] w K := ⟨memory_Memory_Load_en, h⟩

def memory_Memory_rest_w (K : Value → World → Prop) (t0 t1 : Value) (w : World) : Prop :=
  Pu Tryd.prog (nilC t0) fun t5 =>
  Pu Tryd.prog (Instr.fieldAt 61 t5 0) fun t6 =>
  Bn Tryd.prog (Instr.loadAt 50 t6) w fun t7 w_1 =>
  Pu Tryd.prog (Instr.indexAt 50 t7 t1) fun t9 =>
  Pu Tryd.prog (Instr.fieldAt 57 t9 1) fun t10 =>
  Bn Tryd.prog (Instr.loadAt 55 t10) w_1 fun t11 w_2 =>
  Bn Tryd.prog (Builtin.len_ #[55] 3 #[t11]) w_2 fun t12 w_3 =>
  Pu Tryd.prog (bopS Go.BinOp.eql 3 (Go.Operand.tmp 12) (Go.Operand.const (Go.Value.int Go.IntKind.i64 0)) t12 (Go.Value.int Go.IntKind.i64 0)) fun t13 =>
  condV t13
   (Pu Tryd.prog (nilC t0) fun t15 =>
   Pu Tryd.prog (Instr.fieldAt 61 t15 1) fun t16 =>
   Bn Tryd.prog (Instr.loadAt 58 t16) w_3 fun t17 w_4 =>
   Bn Tryd.prog (Builtin.delete_ #[58, 3] 0 #[t17, t1]) w_4 fun _ w_5 =>
   K (Value.tuple #[]) w_5)
   (Pu Tryd.prog (nilC t0) fun t20 =>
   Pu Tryd.prog (Instr.fieldAt 61 t20 1) fun t21 =>
   Bn Tryd.prog (Instr.loadAt 58 t21) w_3 fun t22 w_6 =>
   Bn Tryd.prog (unitV (Instr.mapUpdate 58 t22 t1 (Go.Value.bool true))) w_6 fun _ w_7 =>
   K (Value.tuple #[]) w_7)

def memory_Memory_rest_ann : Ann :=
  { loop := fun _ => [],
    plan := fun _ => .done,
    hold := fun _ => fun _ => false,
    join := fun _ => none }

theorem memory_Memory_rest_ok {K : Value → World → Prop} {t0 t1 : Value} {w : World} (h : memory_Memory_rest_w K t0 t1 w) : Calls Tryd.prog 66 #[t0, t1] w (Rt K) :=
  calls_of_wpC (A := memory_Memory_rest_ann) (c := Tryd.f66.body.getD .skip) (args := [t0, t1]) mixed Tryd.func66 rfl (by kernel_rfl) (Eq.mp (by kernel_rfl) h)

theorem memory_Memory_rest_en : enters Tryd.prog 66 = true := by kernel_rfl

theorem memory_Memory_rest_cl {K : Value → World → Prop} {t0 t1 : Value} {w : World} (h : Calls Tryd.prog 66 #[t0, t1] w (Rt K)) : Cl Tryd.prog 66 #[t0, t1] w K := ⟨memory_Memory_rest_en, h⟩

def memory_Memory_settle_w (K : Value → World → Prop) (t0 t1 t2 : Value) (w : World) : Prop :=
  Pu Tryd.prog (nilC t0) fun t8 =>
  Pu Tryd.prog (Instr.fieldAt 61 t8 0) fun t9 =>
  Bn Tryd.prog (Instr.loadAt 50 t9) w fun t10 w_1 =>
  Pu Tryd.prog (Instr.indexAt 50 t10 t1) fun t12 =>
  Pu Tryd.prog (bopS Go.BinOp.eql 3 (Go.Operand.tmp 13) (Go.Operand.const (Go.Value.int Go.IntKind.i64 0)) t2 (Go.Value.int Go.IntKind.i64 0)) fun t14 =>
  condV t14
   (K (Value.tuple #[]) w_1)
   (Cl Tryd.prog 42 #[t12, t2] w_1 fun t19 w_2 =>
  Pu Tryd.prog (Instr.extract t19 0) fun t20 =>
  Pu Tryd.prog (Instr.extract t19 1) fun t21 =>
  Pu Tryd.prog (nilC t12) fun t22 =>
  Pu Tryd.prog (Instr.fieldAt 57 t22 0) fun t23 =>
  Pu Tryd.prog (Instr.fieldAt 53 t23 0) fun t24 =>
  Bn Tryd.prog (unitV (Instr.storeAt 51 t24 t20)) w_2 fun _ w_3 =>
  Pu Tryd.prog (nilC t12) fun t27 =>
  Pu Tryd.prog (Instr.fieldAt 57 t27 0) fun t28 =>
  Pu Tryd.prog (Instr.fieldAt 53 t28 0) fun t29 =>
  Bn Tryd.prog (Instr.loadAt 51 t29) w_3 fun t30 w_4 =>
  Cl Tryd.prog 48 #[t30] w_4 fun t31 w_5 =>
  Pu Tryd.prog (nilC t12) fun t32 =>
  Pu Tryd.prog (Instr.fieldAt 57 t32 0) fun t33 =>
  Pu Tryd.prog (Instr.fieldAt 53 t33 1) fun t34 =>
  Bn Tryd.prog (unitV (Instr.storeAt 3 t34 t31)) w_5 fun _ w_6 =>
  Pu Tryd.prog (nilC t12) fun t37 =>
  Pu Tryd.prog (Instr.fieldAt 57 t37 1) fun t38 =>
  Bn Tryd.prog (Instr.loadAt 55 t38) w_6 fun t39 w_7 =>
  Pu Tryd.prog (Instr.sliceAt 55 t39 (some t2) none none) fun t41 =>
  Cl Tryd.prog 35 #[t41] w_7 fun t42 w_8 =>
  Pu Tryd.prog (nilC t12) fun t43 =>
  Pu Tryd.prog (Instr.fieldAt 57 t43 1) fun t44 =>
  Bn Tryd.prog (unitV (Instr.storeAt 55 t44 t42)) w_8 fun _ w_9 =>
  Pu Tryd.prog (nilC t12) fun t47 =>
  Pu Tryd.prog (Instr.fieldAt 57 t47 2) fun t48 =>
  Bn Tryd.prog (Instr.loadAt 3 t48) w_9 fun t49 w_10 =>
  Pu Tryd.prog (bopS Go.BinOp.sub 3 (Go.Operand.tmp 49) (Go.Operand.tmp 50) t49 t2) fun t51 =>
  Pu Tryd.prog (Builtin.max_ #[3, 3] 3 #[(Go.Value.int Go.IntKind.i64 0), t51]) fun t52 =>
  Pu Tryd.prog (nilC t12) fun t53 =>
  Pu Tryd.prog (Instr.fieldAt 57 t53 2) fun t54 =>
  Bn Tryd.prog (unitV (Instr.storeAt 3 t54 t52)) w_10 fun _ w_11 =>
  Cl Tryd.prog 66 #[t0, t1] w_11 fun t57 w_12 =>
  K (Value.tuple #[]) w_12)

def memory_Memory_settle_ann : Ann :=
  { loop := fun _ => [],
    plan := fun _ => .done,
    hold := fun _ => fun _ => false,
    join := fun _ => none }

theorem memory_Memory_settle_ok {K : Value → World → Prop} {t0 t1 t2 : Value} {w : World} (h : memory_Memory_settle_w K t0 t1 t2 w) : Calls Tryd.prog 53 #[t0, t1, t2] w (Rt K) :=
  calls_of_wpC (A := memory_Memory_settle_ann) (c := Tryd.f53.body.getD .skip) (args := [t0, t1, t2]) mixed Tryd.func53 rfl (by kernel_rfl) (Eq.mp (by kernel_rfl) h)

theorem memory_Memory_settle_en : enters Tryd.prog 53 = true := by kernel_rfl

theorem memory_Memory_settle_cl {K : Value → World → Prop} {t0 t1 t2 : Value} {w : World} (h : Calls Tryd.prog 53 #[t0, t1, t2] w (Rt K)) : Cl Tryd.prog 53 #[t0, t1, t2] w K := ⟨memory_Memory_settle_en, h⟩

def memory_Memory_note_w (K : Value → World → Prop) (t0 t1 : Value) (w : World) : Prop :=
  Bn Tryd.prog (Instr.box 77 t1) w fun t3 w_1 =>
  ∃ S R : World → Prop, S w_1.drew ∧ (∀ w_2, S w_2 → R w_2) ∧
  Pu Tryd.prog (nilC t0) fun t6 =>
  Pu Tryd.prog (Instr.fieldAt 61 t6 3) fun t7 =>
  ∃ t8, (∀ w_3, R w_3 → (Instr.loadAt 59 t7).run Tryd.prog w_3 = .ok t8 w_3) ∧
  ∃ t9, (∀ w_4, R w_4 → (Instr.loadAt 77 t3).run Tryd.prog w_4 = .ok t9 w_4) ∧
  (∀ w_5, S w_5 →
  Bn Tryd.prog (Instr.buildSlice 59 1 #[(0, t9)]) w_5 fun t10 w_6 =>
  ∃ S_1 R_1 : World → Prop, S_1 w_6 ∧ (∀ w_8, S_1 w_8 → R_1 w_8) ∧ (∀ w_7, R_1 w_7 → R w_7) ∧
  (∀ w_9, S_1 w_9 →
  Bn Tryd.prog (Builtin.append_ #[59, 59] 59 #[t8, t10]) w_9 fun t11 w_10 =>
  ∃ S_2 R_2 : World → Prop, S_2 w_10 ∧ (∀ w_12, S_2 w_12 → R_2 w_12) ∧ True ∧
  Pu Tryd.prog (nilC t0) fun t12 =>
  Pu Tryd.prog (Instr.fieldAt 61 t12 3) fun t13 =>
  (∀ w_13, S_2 w_13 →
  Bn Tryd.prog (unitV (Instr.storeAt 59 t13 t11)) w_13 fun _ w_14 =>
  ∃ S_3 R_3 : World → Prop, S_3 w_14 ∧ (∀ w_16, S_3 w_16 → R_3 w_16) ∧ True ∧
  ∀ w_17, S_3 w_17 →
  K (Value.tuple #[]) w_17) ∧
  True) ∧
  True) ∧
  True

def memory_Memory_note_ann : Ann :=
  { loop := fun _ => [],
    plan := fun r => match r with | 1 => (.pure 0 (.pure 1 (.pure 2 (.pure 3 (.load 4 [4, 7, 8, 9, 10] (.load 5 [5, 6, 7, 8, 9, 10] (.alt 6 (.alt 7 (.pure 8 (.pure 9 (.alt 10 .done .stop))) .stop) .stop))))))) | _ => .done,
    hold := fun r => match r with | 1 => (fun i => match i with | 5 => true | 6 => true | _ => false) | _ => fun _ => false,
    join := fun _ => none }

theorem memory_Memory_note_ok {K : Value → World → Prop} {t0 t1 : Value} {w : World} (h : memory_Memory_note_w K t0 t1 w) : Calls Tryd.prog 52 #[t0, t1] w (Rt K) :=
  calls_of_wpC (A := memory_Memory_note_ann) (c := Tryd.f52.body.getD .skip) (args := [t0, t1]) mixed Tryd.func52 rfl (by kernel_rfl) (Eq.mp (by kernel_rfl) h)

theorem memory_Memory_note_en : enters Tryd.prog 52 = true := by kernel_rfl

theorem memory_Memory_note_cl {K : Value → World → Prop} {t0 t1 : Value} {w : World} (h : Calls Tryd.prog 52 #[t0, t1] w (Rt K)) : Cl Tryd.prog 52 #[t0, t1] w K := ⟨memory_Memory_note_en, h⟩

def memory_Memory_put_w (K : Value → World → Prop) (t0 t1 t2 t3 t4 : Value) (w : World) : Prop :=
  Pu Tryd.prog (bopS Go.BinOp.quo 3 (Go.Operand.tmp 12) (Go.Operand.const (Go.Value.int Go.IntKind.i64 8)) t2 (Go.Value.int Go.IntKind.i64 8)) fun t13 =>
  Pu Tryd.prog (bopS Go.BinOp.lss 3 (Go.Operand.tmp 41) (Go.Operand.const (Go.Value.int Go.IntKind.i64 0)) t2 (Go.Value.int Go.IntKind.i64 0)) fun t42 =>
  condV t42
  (K (Go.Value.int Go.IntKind.i64 40) w)
  (Cl Tryd.prog 41 #[t0, t13] w fun t46 w_1 =>
  Pu Tryd.prog (Op.unary Go.UnOp.not t46) fun t47 =>
  condV t47
   (K (Go.Value.int Go.IntKind.i64 40) w_1)
   (Cl Tryd.prog 45 #[t3] w_1 fun t51 w_2 =>
   Pu Tryd.prog (Op.unary Go.UnOp.not t51) fun t52 =>
   condV t52
    (K (Go.Value.int Go.IntKind.i64 1) w_2)
    (Cl Tryd.prog 27 #[t0, t13] w_2 fun t56 w_3 =>
    Pu Tryd.prog (bopS Go.BinOp.eql 3 (Go.Operand.tmp 56) (Go.Operand.const (Go.Value.int Go.IntKind.i64 2)) t56 (Go.Value.int Go.IntKind.i64 2)) fun t57 =>
    condV t57
     (K (Go.Value.int Go.IntKind.i64 9) w_3)
     (∃ S R : World → Prop, S w_3.drew ∧ (∀ w_4, S w_4 → R w_4) ∧
     Pu Tryd.prog (nilC t0) fun t15 =>
     Pu Tryd.prog (Instr.fieldAt 61 t15 0) fun t16 =>
     Pu Tryd.prog (nilC t0) fun t20 =>
     Pu Tryd.prog (Instr.fieldAt 61 t20 0) fun t21 =>
     Pu Tryd.prog (bopS Go.BinOp.rem 3 (Go.Operand.tmp 27) (Go.Operand.const (Go.Value.int Go.IntKind.i64 8)) t2 (Go.Value.int Go.IntKind.i64 8)) fun t28 =>
     Pu Tryd.prog (Instr.build 80 #[(0, t28), (1, t3)]) fun t30 =>
     ∃ t17, (∀ w_5, R w_5 → (Instr.loadAt 50 t16).run Tryd.prog w_5 = .ok t17 w_5) ∧
     ∃ t22, (∀ w_6, R w_6 → (Instr.loadAt 50 t21).run Tryd.prog w_6 = .ok t22 w_6) ∧
     Pu Tryd.prog (Instr.indexAt 50 t22 t13) fun t24 =>
     Pu Tryd.prog (Instr.fieldAt 57 t24 1) fun t25 =>
     ∃ t26, (∀ w_7, R w_7 → (Instr.loadAt 55 t25).run Tryd.prog w_7 = .ok t26 w_7) ∧
     (∀ w_8, S w_8 →
     Bn Tryd.prog (Instr.buildSlice 55 1 #[(0, t30)]) w_8 fun t31 w_9 =>
     ∃ S_1 R_1 : World → Prop, S_1 w_9 ∧ (∀ w_11, S_1 w_11 → R_1 w_11) ∧ (∀ w_10, R_1 w_10 → R w_10) ∧
     (∀ w_12, S_1 w_12 →
     Bn Tryd.prog (Builtin.append_ #[55, 55] 55 #[t26, t31]) w_12 fun t32 w_13 =>
     ∃ S_2 R_2 : World → Prop, S_2 w_13 ∧ (∀ w_15, S_2 w_15 → R_2 w_15) ∧ (∀ w_14, R_2 w_14 → R_1 w_14) ∧
     Pu Tryd.prog (Instr.indexAt 50 t17 t13) fun t33 =>
     Pu Tryd.prog (Instr.fieldAt 57 t33 1) fun t34 =>
     (∀ w_16, S_2 w_16 →
     Bn Tryd.prog (unitV (Instr.storeAt 55 t34 t32)) w_16 fun _ w_17 =>
     ∃ S_3 R_3 : World → Prop, S_3 w_17 ∧ (∀ w_19, S_3 w_19 → R_3 w_19) ∧ True ∧
     ∀ w_20, S_3 w_20 →
     Pu Tryd.prog (nilC t0) fun t36 =>
     Pu Tryd.prog (Instr.fieldAt 61 t36 1) fun t37 =>
     Bn Tryd.prog (Instr.loadAt 58 t37) w_20 fun t38 w_21 =>
     Bn Tryd.prog (unitV (Instr.mapUpdate 58 t38 t13 (Go.Value.bool true))) w_21 fun _ w_22 =>
     Pu Tryd.prog (nilC t0) fun t63 =>
  Pu Tryd.prog (Instr.fieldAt 61 t63 2) fun t64 =>
  Bn Tryd.prog (Instr.loadAt 3 t64) w_22 fun t65 w_23 =>
  Pu Tryd.prog (Instr.build 77 #[(0, t1), (1, t2), (2, t3), (3, t65)]) fun t66 =>
  Clv Tryd.prog t4 #[t66] w_23 fun t67 w_24 =>
  K (Go.Value.int Go.IntKind.i64 0) w_24) ∧
     True) ∧
     True) ∧
     True))))

def memory_Memory_put_ann : Ann :=
  { loop := fun _ => [],
    plan := fun r => match r with | 2 => (.pure 0 (.pure 1 (.pure 2 (.pure 4 (.pure 5 (.pure 6 (.pure 7 (.pure 9 (.pure 13 (.pure 14 (.pure 15 (.pure 16 (.load 3 [3, 19, 20, 21] (.load 8 [8, 10, 11, 12, 18, 19, 20, 21] (.pure 10 (.pure 11 (.load 12 [12, 18, 19, 20, 21] (.alt 17 (.alt 18 (.pure 19 (.pure 20 (.alt 21 .done .stop))) .stop) .stop)))))))))))))))))) | _ => .done,
    hold := fun r => match r with | 2 => (fun i => match i with | 8 => true | 10 => true | 11 => true | 12 => true | 17 => true | 18 => true | _ => false) | _ => fun _ => false,
    join := fun _ => none }

theorem memory_Memory_put_ok {K : Value → World → Prop} {t0 t1 t2 t3 t4 : Value} {w : World} (h : memory_Memory_put_w K t0 t1 t2 t3 t4 w) : Calls Tryd.prog 51 #[t0, t1, t2, t3, t4] w (Rt K) :=
  calls_of_wpC (A := memory_Memory_put_ann) (c := Tryd.f51.body.getD .skip) (args := [t0, t1, t2, t3, t4]) mixed Tryd.func51 rfl (by kernel_rfl) (Eq.mp (by kernel_rfl) h)

theorem memory_Memory_put_en : enters Tryd.prog 51 = true := by kernel_rfl

theorem memory_Memory_put_cl {K : Value → World → Prop} {t0 t1 t2 t3 t4 : Value} {w : World} (h : Calls Tryd.prog 51 #[t0, t1, t2, t3, t4] w (Rt K)) : Cl Tryd.prog 51 #[t0, t1, t2, t3, t4] w K := ⟨memory_Memory_put_en, h⟩

def memory_Memory_Store_w (K : Value → World → Prop) (t0 t1 t2 : Value) (w : World) : Prop :=
  Pu Tryd.prog (Instr.makeFunc (Go.Fn.func 52) #[t0] #[]) fun t11 =>
  Cl Tryd.prog 51 #[t0, (Go.Value.int Go.IntKind.i64 1), t1, t2, t11] w fun t12 w_1 =>
  K t12 w_1

def memory_Memory_Store_ann : Ann :=
  { loop := fun _ => [],
    plan := fun _ => .done,
    hold := fun _ => fun _ => false,
    join := fun _ => none }

theorem memory_Memory_Store_ok {K : Value → World → Prop} {t0 t1 t2 : Value} {w : World} (h : memory_Memory_Store_w K t0 t1 t2 w) : Calls Tryd.prog 36 #[t0, t1, t2] w (Rt K) :=
  calls_of_wpC (A := memory_Memory_Store_ann) (c := Tryd.f36.body.getD .skip) (args := [t0, t1, t2]) mixed Tryd.func36 rfl (by kernel_rfl) (Eq.mp (by kernel_rfl) h)

theorem memory_Memory_Store_en : enters Tryd.prog 36 = true := by kernel_rfl

theorem memory_Memory_Store_cl {K : Value → World → Prop} {t0 t1 t2 : Value} {w : World} (h : Calls Tryd.prog 36 #[t0, t1, t2] w (Rt K)) : Cl Tryd.prog 36 #[t0, t1, t2] w K := ⟨memory_Memory_Store_en, h⟩

def memory_Memory_Flush_w (K : Value → World → Prop) (t0 t1 : Value) (w : World) : Prop :=
  Cl Tryd.prog 41 #[t0, t1] w fun t7 w_1 =>
  Pu Tryd.prog (Op.unary Go.UnOp.not t7) fun t8 =>
  condV t8
   (K (Go.Value.int Go.IntKind.i64 40) w_1)
   (∃ S R : World → Prop, S w_1.drew ∧ (∀ w_2, S w_2 → R w_2) ∧
  Pu Tryd.prog (nilC t0) fun t10 =>
  Pu Tryd.prog (Instr.fieldAt 61 t10 0) fun t11 =>
  Pu Tryd.prog (nilC t0) fun t15 =>
  Pu Tryd.prog (Instr.fieldAt 61 t15 0) fun t16 =>
  ∃ t12, (∀ w_3, R w_3 → (Instr.loadAt 50 t11).run Tryd.prog w_3 = .ok t12 w_3) ∧
  ∃ t17, (∀ w_4, R w_4 → (Instr.loadAt 50 t16).run Tryd.prog w_4 = .ok t17 w_4) ∧
  Pu Tryd.prog (Instr.indexAt 50 t17 t1) fun t19 =>
  Pu Tryd.prog (Instr.fieldAt 57 t19 1) fun t20 =>
  ∃ t21, (∀ w_5, R w_5 → (Instr.loadAt 55 t20).run Tryd.prog w_5 = .ok t21 w_5) ∧
  ∃ t22, (∀ w_6, R w_6 → (Builtin.len_ #[55] 3 #[t21]).run Tryd.prog w_6 = .ok t22 w_6) ∧
  Pu Tryd.prog (Instr.indexAt 50 t12 t1) fun t23 =>
  Pu Tryd.prog (Instr.fieldAt 57 t23 2) fun t24 =>
  (∀ w_7, S w_7 →
  Bn Tryd.prog (unitV (Instr.storeAt 3 t24 t22)) w_7 fun _ w_8 =>
  ∃ S_1 R_1 : World → Prop, S_1 w_8 ∧ (∀ w_10, S_1 w_10 → R_1 w_10) ∧ True ∧
  ∀ w_11, S_1 w_11 →
  Pu Tryd.prog (Instr.build 77 #[(0, (Go.Value.int Go.IntKind.i64 3)), (1, t1)]) fun t27 =>
  Cl Tryd.prog 52 #[t0, t27] w_11 fun t28 w_12 =>
  K (Go.Value.int Go.IntKind.i64 0) w_12) ∧
  True)

def memory_Memory_Flush_ann : Ann :=
  { loop := fun _ => [],
    plan := fun r => match r with | 3 => (.pure 0 (.pure 1 (.pure 2 (.pure 4 (.pure 5 (.pure 6 (.pure 7 (.pure 9 (.load 3 [3, 14, 15, 16] (.load 8 [8, 10, 11, 12, 13, 14, 15, 16] (.pure 10 (.pure 11 (.load 12 [12, 13, 14, 15, 16] (.load 13 [13, 14, 15, 16] (.pure 14 (.pure 15 (.alt 16 .done .stop))))))))))))))))) | _ => .done,
    hold := fun r => match r with | 3 => (fun i => match i with | 8 => true | 10 => true | 11 => true | 12 => true | 13 => true | _ => false) | _ => fun _ => false,
    join := fun _ => none }

theorem memory_Memory_Flush_ok {K : Value → World → Prop} {t0 t1 : Value} {w : World} (h : memory_Memory_Flush_w K t0 t1 w) : Calls Tryd.prog 37 #[t0, t1] w (Rt K) :=
  calls_of_wpC (A := memory_Memory_Flush_ann) (c := Tryd.f37.body.getD .skip) (args := [t0, t1]) mixed Tryd.func37 rfl (by kernel_rfl) (Eq.mp (by kernel_rfl) h)

theorem memory_Memory_Flush_en : enters Tryd.prog 37 = true := by kernel_rfl

theorem memory_Memory_Flush_cl {K : Value → World → Prop} {t0 t1 : Value} {w : World} (h : Calls Tryd.prog 37 #[t0, t1] w (Rt K)) : Cl Tryd.prog 37 #[t0, t1] w K := ⟨memory_Memory_Flush_en, h⟩

def memory_Memory_Fence_w (K : Value → World → Prop) (t0 : Value) (w : World) : Prop :=
  Pu Tryd.prog (nilC t0) fun t4 =>
  Pu Tryd.prog (Instr.fieldAt 61 t4 1) fun t5 =>
  Bn Tryd.prog (Instr.loadAt 58 t5) w fun t6 w_1 =>
  Bn Tryd.prog (Instr.range 58 t6) w_1 fun t7 w_2 =>
  ∃ (I : World → Prop) (μ : World → Nat), I w_2 ∧
   ∀ (u8 u9 u10 u11 u2 u12 u13 u14 u15 u16 u17 u18 u19 u20 u21 u22 : Value) (w_3 : World), I w_3 →
   Bn Tryd.prog (Instr.next t7 false 0) w_3 fun t8 w_4 =>
   Pu Tryd.prog (Instr.extract t8 0) fun t9 =>
   condV t9
    (Bn Tryd.prog (Instr.entry t7) w_4 fun t10 w_5 =>
   Pu Tryd.prog (Instr.extract t10 0) fun t11 =>
   Pu Tryd.prog (nilC t0) fun t15 =>
   Pu Tryd.prog (Instr.fieldAt 61 t15 0) fun t16 =>
   Bn Tryd.prog (Instr.loadAt 50 t16) w_5 fun t17 w_6 =>
   Pu Tryd.prog (Instr.indexAt 50 t17 t11) fun t19 =>
   Pu Tryd.prog (Instr.fieldAt 57 t19 2) fun t20 =>
   Bn Tryd.prog (Instr.loadAt 3 t20) w_6 fun t21 w_7 =>
   Cl Tryd.prog 53 #[t0, t11, t21] w_7 fun t22 w_8 =>
   I w_8 ∧ μ w_8 < μ w_3)
    (Pu Tryd.prog (Instr.build 77 #[(0, (Go.Value.int Go.IntKind.i64 4))]) fun t24 =>
  Cl Tryd.prog 52 #[t0, t24] w_4 fun t25 w_9 =>
  K (Value.tuple #[]) w_9)

def memory_Memory_Fence_ann : Ann :=
  { loop := fun r => match r with | 1 => [] | _ => [],
    plan := fun _ => .done,
    hold := fun _ => fun _ => false,
    join := fun _ => none }

theorem memory_Memory_Fence_ok {K : Value → World → Prop} {t0 : Value} {w : World} (h : memory_Memory_Fence_w K t0 w) : Calls Tryd.prog 38 #[t0] w (Rt K) :=
  calls_of_wpC (A := memory_Memory_Fence_ann) (c := Tryd.f38.body.getD .skip) (args := [t0]) mixed Tryd.func38 rfl (by kernel_rfl) (Eq.mp (by kernel_rfl) h)

theorem memory_Memory_Fence_en : enters Tryd.prog 38 = true := by kernel_rfl

theorem memory_Memory_Fence_cl {K : Value → World → Prop} {t0 : Value} {w : World} (h : Calls Tryd.prog 38 #[t0] w (Rt K)) : Cl Tryd.prog 38 #[t0] w K := ⟨memory_Memory_Fence_en, h⟩

def memory_Memory_Seen_w (K : Value → World → Prop) (t0 : Value) (w : World) : Prop :=
  Pu Tryd.prog (nilC t0) fun t6 =>
  Pu Tryd.prog (Instr.fieldAt 61 t6 0) fun t7 =>
  Bn Tryd.prog (Instr.loadAt 50 t7) w fun t8 w_1 =>
  Bn Tryd.prog (Builtin.len_ #[50] 3 #[t8]) w_1 fun t9 w_2 =>
  Bn Tryd.prog (Instr.makeSlice 46 t9 t9) w_2 fun t10 w_3 =>
  Pu Tryd.prog (nilC t0) fun t12 =>
  Pu Tryd.prog (Instr.fieldAt 61 t12 0) fun t13 =>
  Bn Tryd.prog (Instr.loadAt 50 t13) w_3 fun t14 w_4 =>
  Bn Tryd.prog (Builtin.len_ #[50] 3 #[t14]) w_4 fun t15 w_5 =>
  ∃ (I : Value → World → Prop) (μ : Value → World → Nat), I (Go.Value.int Go.IntKind.i64 0) w_5 ∧
   ∀ (u17 u18 u4 u20 u21 u22 u23 u24 u25 u26 u27 u28 u29 u30 u31 u32 u33 u34 u35 u36 u37 u19 u38 u39 u40 u41 u16 : Value) (w_6 : World), I u16 w_6 →
   Pu Tryd.prog (bopS Go.BinOp.lss 3 (Go.Operand.tmp 16) (Go.Operand.tmp 15) u16 t15) fun t17 =>
   condV t17
    (∃ S R : World → Prop, S w_6.drew ∧ (∀ w_7, S w_7 → R w_7) ∧
   Pu Tryd.prog (nilC t0) fun t23 =>
   Pu Tryd.prog (Instr.fieldAt 61 t23 0) fun t24 =>
   Pu Tryd.prog (nilC t0) fun t29 =>
   Pu Tryd.prog (Instr.fieldAt 61 t29 0) fun t30 =>
   ∃ t25, (∀ w_8, R w_8 → (Instr.loadAt 50 t24).run Tryd.prog w_8 = .ok t25 w_8) ∧
   Pu Tryd.prog (Instr.indexAt 50 t25 u16) fun t27 =>
   ∃ t31, (∀ w_9, R w_9 → (Instr.loadAt 50 t30).run Tryd.prog w_9 = .ok t31 w_9) ∧
   Pu Tryd.prog (Instr.indexAt 50 t31 u16) fun t33 =>
   Pu Tryd.prog (Instr.fieldAt 57 t33 1) fun t34 =>
   ∃ t35, (∀ w_10, R w_10 → (Instr.loadAt 55 t34).run Tryd.prog w_10 = .ok t35 w_10) ∧
   ∃ t36, (∀ w_11, R w_11 → (Builtin.len_ #[55] 3 #[t35]).run Tryd.prog w_11 = .ok t36 w_11) ∧
   (∀ w_12, S w_12 →
   Cl Tryd.prog 42 #[t27, t36] w_12 fun t37 w_13 =>
   ∃ S_1 R_1 : World → Prop, S_1 w_13 ∧ (∀ w_15, S_1 w_15 → R_1 w_15) ∧ True ∧
   Pu Tryd.prog (Instr.extract t37 0) fun t38 =>
   Pu Tryd.prog (Instr.extract t37 1) fun t39 =>
   Pu Tryd.prog (Instr.indexAt 46 t10 u16) fun t40 =>
   (∀ w_16, S_1 w_16 →
   Bn Tryd.prog (unitV (Instr.storeAt 51 t40 t38)) w_16 fun _ w_17 =>
   ∃ S_2 R_2 : World → Prop, S_2 w_17 ∧ (∀ w_19, S_2 w_19 → R_2 w_19) ∧ True ∧
   ∀ w_20, S_2 w_20 →
   Pu Tryd.prog (bopS Go.BinOp.add 3 (Go.Operand.tmp 16) (Go.Operand.const (Go.Value.int Go.IntKind.i64 1)) u16 (Go.Value.int Go.IntKind.i64 1)) fun t41 =>
   I t41 w_20 ∧ μ t41 w_20 < μ u16 w_6) ∧
   True) ∧
   True)
    (K t10 w_6)

def memory_Memory_Seen_ann : Ann :=
  { loop := fun r => match r with | 3 => [16] | _ => [],
    plan := fun r => match r with | 5 => (.pure 0 (.pure 1 (.pure 2 (.pure 3 (.pure 4 (.pure 6 (.pure 8 (.pure 9 (.pure 10 (.pure 12 (.load 5 [5, 7, 17, 18, 19, 20, 21, 22] (.pure 7 (.load 11 [11, 13, 14, 15, 16, 17, 18, 19, 20, 21, 22] (.pure 13 (.pure 14 (.load 15 [15, 16, 17, 18, 19, 20, 21, 22] (.load 16 [16, 17, 18, 19, 20, 21, 22] (.alt 17 (.pure 18 (.pure 19 (.pure 20 (.pure 21 (.alt 22 .done .stop))))) .stop)))))))))))))))))) | _ => .done,
    hold := fun r => match r with | 5 => (fun i => match i with | 11 => true | 13 => true | 14 => true | 15 => true | 16 => true | _ => false) | _ => fun _ => false,
    join := fun _ => none }

theorem memory_Memory_Seen_ok {K : Value → World → Prop} {t0 : Value} {w : World} (h : memory_Memory_Seen_w K t0 w) : Calls Tryd.prog 19 #[t0] w (Rt K) :=
  calls_of_wpC (A := memory_Memory_Seen_ann) (c := Tryd.f19.body.getD .skip) (args := [t0]) mixed Tryd.func19 rfl (by kernel_rfl) (Eq.mp (by kernel_rfl) h)

theorem memory_Memory_Seen_en : enters Tryd.prog 19 = true := by kernel_rfl

theorem memory_Memory_Seen_cl {K : Value → World → Prop} {t0 : Value} {w : World} (h : Calls Tryd.prog 19 #[t0] w (Rt K)) : Cl Tryd.prog 19 #[t0] w K := ⟨memory_Memory_Seen_en, h⟩

def memory_Memory_Copy_w (K : Value → World → Prop) (t0 : Value) (w : World) : Prop :=
  ∃ J : Value → World → Prop,
  (∃ S R : World → Prop, S w.drew ∧ (∀ w_1, S w_1 → R w_1) ∧
  Pu Tryd.prog (nilC t0) fun t6 =>
  Pu Tryd.prog (Instr.fieldAt 61 t6 0) fun t7 =>
  Pu Tryd.prog (nilC t0) fun t12 =>
  Pu Tryd.prog (Instr.fieldAt 61 t12 2) fun t13 =>
  Pu Tryd.prog (nilC t0) fun t16 =>
  Pu Tryd.prog (Instr.fieldAt 61 t16 3) fun t17 =>
  ∃ t8, (∀ w_2, R w_2 → (Instr.loadAt 50 t7).run Tryd.prog w_2 = .ok t8 w_2) ∧
  ∃ t14, (∀ w_3, R w_3 → (Instr.loadAt 3 t13).run Tryd.prog w_3 = .ok t14 w_3) ∧
  ∃ t18, (∀ w_4, R w_4 → (Instr.loadAt 59 t17).run Tryd.prog w_4 = .ok t18 w_4) ∧
  (∀ w_5, S w_5 →
  Cl Tryd.prog 33 #[t8] w_5 fun t9 w_6 =>
  ∃ S_1 R_1 : World → Prop, S_1 w_6 ∧ (∀ w_8, S_1 w_8 → R_1 w_8) ∧ (∀ w_7, R_1 w_7 → R w_7) ∧
  (∀ w_9, S_1 w_9 →
  Bn Tryd.prog (Instr.makeMap 58 none) w_9 fun t10 w_10 =>
  ∃ S_2 R_2 : World → Prop, S_2 w_10 ∧ (∀ w_12, S_2 w_12 → R_2 w_12) ∧ (∀ w_11, R_2 w_11 → R_1 w_11) ∧
  (∀ w_13, S_2 w_13 →
  Cl Tryd.prog 34 #[t18] w_13 fun t19 w_14 =>
  ∃ S_3 R_3 : World → Prop, S_3 w_14 ∧ (∀ w_16, S_3 w_16 → R_3 w_16) ∧ (∀ w_15, R_3 w_15 → R_2 w_15) ∧
  Pu Tryd.prog (Instr.build 61 #[(0, t9), (1, t10), (2, t14), (3, t19)]) fun t20 =>
  (∀ w_17, S_3 w_17 →
  Bn Tryd.prog (Instr.box 61 t20) w_17 fun t21 w_18 =>
  ∃ S_4 R_4 : World → Prop, S_4 w_18 ∧ (∀ w_20, S_4 w_20 → R_4 w_20) ∧ True ∧
  ∀ w_21, S_4 w_21 →
  J t21 w_21) ∧
  True) ∧
  True) ∧
  (∀ w_22, S_1 w_22 →
  Cl Tryd.prog 34 #[t18] w_22 fun t19_1 w_23 =>
  ∃ S_5 R_5 : World → Prop, S_5 w_23 ∧ (∀ w_25, S_5 w_25 → R_5 w_25) ∧ (∀ w_24, R_5 w_24 → R_1 w_24) ∧
  (∀ w_26, S_5 w_26 →
  Bn Tryd.prog (Instr.makeMap 58 none) w_26 fun t10_1 w_27 =>
  ∃ S_6 R_6 : World → Prop, S_6 w_27 ∧ (∀ w_29, S_6 w_29 → R_6 w_29) ∧ (∀ w_28, R_6 w_28 → R_5 w_28) ∧
  Pu Tryd.prog (Instr.build 61 #[(0, t9), (1, t10_1), (2, t14), (3, t19_1)]) fun t20_1 =>
  (∀ w_30, S_6 w_30 →
  Bn Tryd.prog (Instr.box 61 t20_1) w_30 fun t21_1 w_31 =>
  ∃ S_7 R_7 : World → Prop, S_7 w_31 ∧ (∀ w_33, S_7 w_33 → R_7 w_33) ∧ True ∧
  ∀ w_34, S_7 w_34 →
  J t21_1 w_34) ∧
  True) ∧
  True) ∧
  True) ∧
  (∀ w_35, S w_35 →
  Bn Tryd.prog (Instr.makeMap 58 none) w_35 fun t10_2 w_36 =>
  ∃ S_8 R_8 : World → Prop, S_8 w_36 ∧ (∀ w_38, S_8 w_38 → R_8 w_38) ∧ (∀ w_37, R_8 w_37 → R w_37) ∧
  (∀ w_39, S_8 w_39 →
  Cl Tryd.prog 33 #[t8] w_39 fun t9_1 w_40 =>
  ∃ S_9 R_9 : World → Prop, S_9 w_40 ∧ (∀ w_42, S_9 w_42 → R_9 w_42) ∧ (∀ w_41, R_9 w_41 → R_8 w_41) ∧
  (∀ w_43, S_9 w_43 →
  Cl Tryd.prog 34 #[t18] w_43 fun t19_2 w_44 =>
  ∃ S_10 R_10 : World → Prop, S_10 w_44 ∧ (∀ w_46, S_10 w_46 → R_10 w_46) ∧ (∀ w_45, R_10 w_45 → R_9 w_45) ∧
  Pu Tryd.prog (Instr.build 61 #[(0, t9_1), (1, t10_2), (2, t14), (3, t19_2)]) fun t20_2 =>
  (∀ w_47, S_10 w_47 →
  Bn Tryd.prog (Instr.box 61 t20_2) w_47 fun t21_2 w_48 =>
  ∃ S_11 R_11 : World → Prop, S_11 w_48 ∧ (∀ w_50, S_11 w_50 → R_11 w_50) ∧ True ∧
  ∀ w_51, S_11 w_51 →
  J t21_2 w_51) ∧
  True) ∧
  True) ∧
  True) ∧
  True) ∧
  (∀ (u5 u6 u7 u8 u9 u10 u11 u12 u13 u14 u15 u16 u17 u18 u19 u20 u21 u3 : Value), ∀ w_52 : World, J u3 w_52 →
  Pu Tryd.prog (nilC t0) fun t23 =>
  Pu Tryd.prog (Instr.fieldAt 61 t23 1) fun t24 =>
  Bn Tryd.prog (Instr.loadAt 58 t24) w_52 fun t25 w_53 =>
  Bn Tryd.prog (Instr.range 58 t25) w_53 fun t26 w_54 =>
  ∃ (I : World → Prop) (μ : World → Nat), I w_54 ∧
   ∀ (u27 u28 u29 u30 u4 u31 u32 u33 u34 u35 u36 u37 u38 u39 u40 u41 u42 u43 u44 u45 u46 u47 u48 u49 u50 u51 : Value) (w_55 : World), I w_55 →
   Bn Tryd.prog (Instr.next t26 false 0) w_55 fun t27 w_56 =>
   Pu Tryd.prog (Instr.extract t27 0) fun t28 =>
   condV t28
    (Bn Tryd.prog (Instr.entry t26) w_56 fun t29 w_57 =>
   Pu Tryd.prog (Instr.extract t29 0) fun t30 =>
   ∃ S_12 R_12 : World → Prop, S_12 w_57.drew ∧ (∀ w_58, S_12 w_58 → R_12 w_58) ∧
   Pu Tryd.prog (nilC u3) fun t32 =>
   Pu Tryd.prog (Instr.fieldAt 61 t32 0) fun t33 =>
   Pu Tryd.prog (nilC t0) fun t37 =>
   Pu Tryd.prog (Instr.fieldAt 61 t37 0) fun t38 =>
   ∃ t34, (∀ w_59, R_12 w_59 → (Instr.loadAt 50 t33).run Tryd.prog w_59 = .ok t34 w_59) ∧
   ∃ t39, (∀ w_60, R_12 w_60 → (Instr.loadAt 50 t38).run Tryd.prog w_60 = .ok t39 w_60) ∧
   Pu Tryd.prog (Instr.indexAt 50 t39 t30) fun t41 =>
   Pu Tryd.prog (Instr.fieldAt 57 t41 1) fun t42 =>
   ∃ t43, (∀ w_61, R_12 w_61 → (Instr.loadAt 55 t42).run Tryd.prog w_61 = .ok t43 w_61) ∧
   (∀ w_62, S_12 w_62 →
   Cl Tryd.prog 35 #[t43] w_62 fun t44 w_63 =>
   ∃ S_13 R_13 : World → Prop, S_13 w_63 ∧ (∀ w_65, S_13 w_65 → R_13 w_65) ∧ (∀ w_64, R_13 w_64 → R_12 w_64) ∧
   Pu Tryd.prog (Instr.indexAt 50 t34 t30) fun t45 =>
   Pu Tryd.prog (Instr.fieldAt 57 t45 1) fun t46 =>
   (∀ w_66, S_13 w_66 →
   Bn Tryd.prog (unitV (Instr.storeAt 55 t46 t44)) w_66 fun _ w_67 =>
   ∃ S_14 R_14 : World → Prop, S_14 w_67 ∧ (∀ w_69, S_14 w_69 → R_14 w_69) ∧ True ∧
   ∀ w_70, S_14 w_70 →
   Pu Tryd.prog (nilC u3) fun t48 =>
   Pu Tryd.prog (Instr.fieldAt 61 t48 1) fun t49 =>
   Bn Tryd.prog (Instr.loadAt 58 t49) w_70 fun t50 w_71 =>
   Bn Tryd.prog (unitV (Instr.mapUpdate 58 t50 t30 (Go.Value.bool true))) w_71 fun _ w_72 =>
   I w_72 ∧ μ w_72 < μ w_55) ∧
   True) ∧
   True)
    (K u3 w_56))

def memory_Memory_Copy_ann : Ann :=
  { loop := fun r => match r with | 3 => [] | _ => [],
    plan := fun r => match r with | 1 => (.pure 0 (.pure 1 (.pure 2 (.pure 6 (.pure 7 (.pure 8 (.pure 10 (.pure 11 (.pure 12 (.load 3 [3, 4, 14, 15, 16, 17] (.load 9 [9, 15, 16, 17] (.load 13 [13, 14, 15, 16, 17] (.alt 4 (.alt 5 (.alt 14 (.pure 15 (.alt 16 (.pure 17 .done) .stop)) .stop) (.alt 14 (.alt 5 (.pure 15 (.alt 16 (.pure 17 .done) .stop)) .stop) .stop)) (.alt 5 (.alt 4 (.alt 14 (.pure 15 (.alt 16 (.pure 17 .done) .stop)) .stop) .stop) .stop)))))))))))))) | 5 => (.pure 0 (.pure 1 (.pure 2 (.pure 4 (.pure 5 (.pure 6 (.pure 7 (.pure 9 (.load 3 [3, 14, 15, 16] (.load 8 [8, 10, 11, 12, 13, 14, 15, 16] (.pure 10 (.pure 11 (.load 12 [12, 13, 14, 15, 16] (.alt 13 (.pure 14 (.pure 15 (.alt 16 .done .stop))) .stop)))))))))))))) | _ => .done,
    hold := fun r => match r with | 1 => (fun i => match i with | 4 => true | 5 => true | 9 => true | 13 => true | 14 => true | _ => false) | 5 => (fun i => match i with | 8 => true | 10 => true | 11 => true | 12 => true | 13 => true | _ => false) | _ => fun _ => false,
    join := fun r => match r with | 2 => some [3] | _ => none }

theorem memory_Memory_Copy_ok {K : Value → World → Prop} {t0 : Value} {w : World} (h : memory_Memory_Copy_w K t0 w) : Calls Tryd.prog 9 #[t0] w (Rt K) :=
  calls_of_wpC (A := memory_Memory_Copy_ann) (c := Tryd.f9.body.getD .skip) (args := [t0]) mixed Tryd.func9 rfl (by kernel_rfl) (Eq.mp (by kernel_rfl) h)

theorem memory_Memory_Copy_en : enters Tryd.prog 9 = true := by kernel_rfl

theorem memory_Memory_Copy_cl {K : Value → World → Prop} {t0 : Value} {w : World} (h : Calls Tryd.prog 9 #[t0] w (Rt K)) : Cl Tryd.prog 9 #[t0] w K := ⟨memory_Memory_Copy_en, h⟩

def slices_Clone_api_Store_api_Store_w (K : Value → World → Prop) (t0 : Value) (w : World) : Prop :=
  Pu Tryd.prog (bopS Go.BinOp.eql 55 (Go.Operand.tmp 3) (Go.Operand.const (Go.Value.slice none 0 0)) t0 (Go.Value.slice none 0 0)) fun t4 =>
  condV t4
   (K (Go.Value.slice none 0 0) w)
   (Bn Tryd.prog (Instr.buildSlice 55 0 #[]) w fun t5 w_1 =>
  Bn Tryd.prog (Builtin.append_ #[55, 55] 55 #[t5, t0]) w_1 fun t7 w_2 =>
  K t7 w_2)

def slices_Clone_api_Store_api_Store_ann : Ann :=
  { loop := fun _ => [],
    plan := fun _ => .done,
    hold := fun _ => fun _ => false,
    join := fun _ => none }

theorem slices_Clone_api_Store_api_Store_ok {K : Value → World → Prop} {t0 : Value} {w : World} (h : slices_Clone_api_Store_api_Store_w K t0 w) : Calls Tryd.prog 35 #[t0] w (Rt K) :=
  calls_of_wpC (A := slices_Clone_api_Store_api_Store_ann) (c := Tryd.f35.body.getD .skip) (args := [t0]) mixed Tryd.func35 rfl (by kernel_rfl) (Eq.mp (by kernel_rfl) h)

theorem slices_Clone_api_Store_api_Store_en : enters Tryd.prog 35 = true := by kernel_rfl

theorem slices_Clone_api_Store_api_Store_cl {K : Value → World → Prop} {t0 : Value} {w : World} (h : Calls Tryd.prog 35 #[t0] w (Rt K)) : Cl Tryd.prog 35 #[t0] w K := ⟨slices_Clone_api_Store_api_Store_en, h⟩

def slices_Clone_api_Event_api_Event_w (K : Value → World → Prop) (t0 : Value) (w : World) : Prop :=
  Pu Tryd.prog (bopS Go.BinOp.eql 59 (Go.Operand.tmp 3) (Go.Operand.const (Go.Value.slice none 0 0)) t0 (Go.Value.slice none 0 0)) fun t4 =>
  condV t4
   (K (Go.Value.slice none 0 0) w)
   (Bn Tryd.prog (Instr.buildSlice 59 0 #[]) w fun t5 w_1 =>
  Bn Tryd.prog (Builtin.append_ #[59, 59] 59 #[t5, t0]) w_1 fun t7 w_2 =>
  K t7 w_2)

def slices_Clone_api_Event_api_Event_ann : Ann :=
  { loop := fun _ => [],
    plan := fun _ => .done,
    hold := fun _ => fun _ => false,
    join := fun _ => none }

theorem slices_Clone_api_Event_api_Event_ok {K : Value → World → Prop} {t0 : Value} {w : World} (h : slices_Clone_api_Event_api_Event_w K t0 w) : Calls Tryd.prog 34 #[t0] w (Rt K) :=
  calls_of_wpC (A := slices_Clone_api_Event_api_Event_ann) (c := Tryd.f34.body.getD .skip) (args := [t0]) mixed Tryd.func34 rfl (by kernel_rfl) (Eq.mp (by kernel_rfl) h)

theorem slices_Clone_api_Event_api_Event_en : enters Tryd.prog 34 = true := by kernel_rfl

theorem slices_Clone_api_Event_api_Event_cl {K : Value → World → Prop} {t0 : Value} {w : World} (h : Calls Tryd.prog 34 #[t0] w (Rt K)) : Cl Tryd.prog 34 #[t0] w K := ⟨slices_Clone_api_Event_api_Event_en, h⟩

def slices_Clone_memory_line_memory_line_w (K : Value → World → Prop) (t0 : Value) (w : World) : Prop :=
  Pu Tryd.prog (bopS Go.BinOp.eql 50 (Go.Operand.tmp 3) (Go.Operand.const (Go.Value.slice none 0 0)) t0 (Go.Value.slice none 0 0)) fun t4 =>
  condV t4
   (K (Go.Value.slice none 0 0) w)
   (Bn Tryd.prog (Instr.buildSlice 50 0 #[]) w fun t5 w_1 =>
  Bn Tryd.prog (Builtin.append_ #[50, 50] 50 #[t5, t0]) w_1 fun t7 w_2 =>
  K t7 w_2)

def slices_Clone_memory_line_memory_line_ann : Ann :=
  { loop := fun _ => [],
    plan := fun _ => .done,
    hold := fun _ => fun _ => false,
    join := fun _ => none }

theorem slices_Clone_memory_line_memory_line_ok {K : Value → World → Prop} {t0 : Value} {w : World} (h : slices_Clone_memory_line_memory_line_w K t0 w) : Calls Tryd.prog 33 #[t0] w (Rt K) :=
  calls_of_wpC (A := slices_Clone_memory_line_memory_line_ann) (c := Tryd.f33.body.getD .skip) (args := [t0]) mixed Tryd.func33 rfl (by kernel_rfl) (Eq.mp (by kernel_rfl) h)

theorem slices_Clone_memory_line_memory_line_en : enters Tryd.prog 33 = true := by kernel_rfl

theorem slices_Clone_memory_line_memory_line_cl {K : Value → World → Prop} {t0 : Value} {w : World} (h : Calls Tryd.prog 33 #[t0] w (Rt K)) : Cl Tryd.prog 33 #[t0] w K := ⟨slices_Clone_memory_line_memory_line_en, h⟩

def slices_IndexFunc_int_int_w (K : Value → World → Prop) (t0 t1 : Value) (w : World) : Prop :=
  Bn Tryd.prog (Builtin.len_ #[72] 3 #[t0]) w fun t7 w_1 =>
  ∃ (I : Value → World → Prop) (μ : Value → World → Nat), I (Go.Value.int Go.IntKind.i64 0) w_1 ∧
   ∀ (u9 u10 u5 u11 u12 u13 u14 u15 u16 u17 u4 u18 u8 : Value) (w_2 : World), I u8 w_2 →
   Pu Tryd.prog (bopS Go.BinOp.lss 3 (Go.Operand.tmp 8) (Go.Operand.tmp 7) u8 t7) fun t9 =>
   condV t9
    (Pu Tryd.prog (Instr.indexAt 72 t0 u8) fun t14 =>
   Bn Tryd.prog (Instr.loadAt 3 t14) w_2 fun t15 w_3 =>
   Clv Tryd.prog t1 #[t15] w_3 fun t16 w_4 =>
   condV t16
    (K u8 w_4)
    (Pu Tryd.prog (bopS Go.BinOp.add 3 (Go.Operand.tmp 8) (Go.Operand.const (Go.Value.int Go.IntKind.i64 1)) u8 (Go.Value.int Go.IntKind.i64 1)) fun t18 =>
   I t18 w_4 ∧ μ t18 w_4 < μ u8 w_2))
    (K (Go.Value.int Go.IntKind.i64 (-1)) w_2)

def slices_IndexFunc_int_int_ann : Ann :=
  { loop := fun r => match r with | 2 => [8] | _ => [],
    plan := fun _ => .done,
    hold := fun _ => fun _ => false,
    join := fun _ => none }

theorem slices_IndexFunc_int_int_ok {K : Value → World → Prop} {t0 t1 : Value} {w : World} (h : slices_IndexFunc_int_int_w K t0 t1 w) : Calls Tryd.prog 58 #[t0, t1] w (Rt K) :=
  calls_of_wpC (A := slices_IndexFunc_int_int_ann) (c := Tryd.f58.body.getD .skip) (args := [t0, t1]) mixed Tryd.func58 rfl (by kernel_rfl) (Eq.mp (by kernel_rfl) h)

theorem slices_IndexFunc_int_int_en : enters Tryd.prog 58 = true := by kernel_rfl

theorem slices_IndexFunc_int_int_cl {K : Value → World → Prop} {t0 t1 : Value} {w : World} (h : Calls Tryd.prog 58 #[t0, t1] w (Rt K)) : Cl Tryd.prog 58 #[t0, t1] w K := ⟨slices_IndexFunc_int_int_en, h⟩

def slices_ContainsFunc_int_int_w (K : Value → World → Prop) (t0 t1 : Value) (w : World) : Prop :=
  Cl Tryd.prog 58 #[t0, t1] w fun t7 w_1 =>
  Pu Tryd.prog (bopS Go.BinOp.geq 3 (Go.Operand.tmp 7) (Go.Operand.const (Go.Value.int Go.IntKind.i64 0)) t7 (Go.Value.int Go.IntKind.i64 0)) fun t8 =>
  K t8 w_1

def slices_ContainsFunc_int_int_ann : Ann :=
  { loop := fun _ => [],
    plan := fun _ => .done,
    hold := fun _ => fun _ => false,
    join := fun _ => none }

theorem slices_ContainsFunc_int_int_ok {K : Value → World → Prop} {t0 t1 : Value} {w : World} (h : slices_ContainsFunc_int_int_w K t0 t1 w) : Calls Tryd.prog 43 #[t0, t1] w (Rt K) :=
  calls_of_wpC (A := slices_ContainsFunc_int_int_ann) (c := Tryd.f43.body.getD .skip) (args := [t0, t1]) mixed Tryd.func43 rfl (by kernel_rfl) (Eq.mp (by kernel_rfl) h)

theorem slices_ContainsFunc_int_int_en : enters Tryd.prog 43 = true := by kernel_rfl

theorem slices_ContainsFunc_int_int_cl {K : Value → World → Prop} {t0 t1 : Value} {w : World} (h : Calls Tryd.prog 43 #[t0, t1] w (Rt K)) : Cl Tryd.prog 43 #[t0, t1] w K := ⟨slices_ContainsFunc_int_int_en, h⟩

end Go.Proofs.YtlolaieolgmdnaaDoor
