import Derived.Test.YtlolaieolgmdnaaDoorSh1
import Derived.Test.YtlolaieolgmdnaaDoorProg
import Derived.KernelRfl
namespace Go.Proofs.YtlolaieolgmdnaaDoor
open Go.RowKit
set_option linter.unusedVariables false
set_option maxRecDepth 100000



def redo_base_M_w (K : Value → World → Prop) (t0 : Value) (w : World) : Prop :=
  Bn Tryd.prog (Instr.box 68 t0) w fun t1 w_1 =>
  Pu Tryd.prog (Instr.fieldAt 68 t1 0) fun t3 =>
  Bn Tryd.prog (Instr.loadAt 25 t3) w_1 fun t4 w_2 =>
  K t4 w_2

def redo_base_M_ann : Ann :=
  { loop := fun _ => [],
    plan := fun _ => .done,
    hold := fun _ => fun _ => false,
    join := fun _ => none }

theorem redo_base_M_ok {K : Value → World → Prop} {t0 : Value} {w : World} (h : redo_base_M_w K t0 w) : Calls Tryd.prog 29 #[t0] w (Rt K) :=
  calls_of_wpC (A := redo_base_M_ann) (c := Tryd.f29.body.getD .skip) (args := [t0]) mixed Tryd.func29 rfl (by kernel_rfl) (Eq.mp (by kernel_rfl) h)

theorem redo_base_M_en : enters Tryd.prog 29 = true := by kernel_rfl

theorem redo_base_M_cl {K : Value → World → Prop} {t0 : Value} {w : World} (h : Calls Tryd.prog 29 #[t0] w (Rt K)) : Cl Tryd.prog 29 #[t0] w K := ⟨redo_base_M_en, h⟩

def redo_Over_w (K : Value → World → Prop) (t0 : Value) (w : World) : Prop :=
  Pu Tryd.prog (Instr.build 68 #[(0, t0)]) fun t4 =>
  Pu Tryd.prog (Instr.build 70 #[(0, t4)]) fun t5 =>
  Bn Tryd.prog (Instr.box 70 t5) w fun t6 w_1 =>
  K t6 w_1

def redo_Over_ann : Ann :=
  { loop := fun _ => [],
    plan := fun _ => .done,
    hold := fun _ => fun _ => false,
    join := fun _ => none }

theorem redo_Over_ok {K : Value → World → Prop} {t0 : Value} {w : World} (h : redo_Over_w K t0 w) : Calls Tryd.prog 8 #[t0] w (Rt K) :=
  calls_of_wpC (A := redo_Over_ann) (c := Tryd.f8.body.getD .skip) (args := [t0]) mixed Tryd.func8 rfl (by kernel_rfl) (Eq.mp (by kernel_rfl) h)

theorem redo_Over_en : enters Tryd.prog 8 = true := by kernel_rfl

theorem redo_Over_cl {K : Value → World → Prop} {t0 : Value} {w : World} (h : Calls Tryd.prog 8 #[t0] w (Rt K)) : Cl Tryd.prog 8 #[t0] w K := ⟨redo_Over_en, h⟩

def redo_View_Size_w (K : Value → World → Prop) (t0 : Value) (w : World) : Prop :=
  Pu Tryd.prog (nilC t0) fun t4 =>
  Pu Tryd.prog (Instr.fieldAt 70 t4 1) fun t5 =>
  Bn Tryd.prog (Instr.loadAt 24 t5) w fun t6 w_1 =>
  Bn Tryd.prog (Builtin.len_ #[24] 3 #[t6]) w_1 fun t7 w_2 =>
  K t7 w_2

def redo_View_Size_ann : Ann :=
  { loop := fun _ => [],
    plan := fun _ => .done,
    hold := fun _ => fun _ => false,
    join := fun _ => none }

theorem redo_View_Size_ok {K : Value → World → Prop} {t0 : Value} {w : World} (h : redo_View_Size_w K t0 w) : Calls Tryd.prog 31 #[t0] w (Rt K) :=
  calls_of_wpC (A := redo_View_Size_ann) (c := Tryd.f31.body.getD .skip) (args := [t0]) mixed Tryd.func31 rfl (by kernel_rfl) (Eq.mp (by kernel_rfl) h)

theorem redo_View_Size_en : enters Tryd.prog 31 = true := by kernel_rfl

theorem redo_View_Size_cl {K : Value → World → Prop} {t0 : Value} {w : World} (h : Calls Tryd.prog 31 #[t0] w (Rt K)) : Cl Tryd.prog 31 #[t0] w K := ⟨redo_View_Size_en, h⟩

def redo_has_w (K : Value → World → Prop) (t0 t1 : Value) (w : World) : Prop :=
  Pu Tryd.prog (bopS Go.BinOp.geq 3 (Go.Operand.tmp 5) (Go.Operand.const (Go.Value.int Go.IntKind.i64 0)) t1 (Go.Value.int Go.IntKind.i64 0)) fun t6 =>
  condV t6
  (Pu Tryd.prog (bopS Go.BinOp.quo 3 (Go.Operand.tmp 8) (Go.Operand.const (Go.Value.int Go.IntKind.i64 8)) t1 (Go.Value.int Go.IntKind.i64 8)) fun t9 =>
  Cl Tryd.prog 13 #[t0] w fun t11 w_1 =>
  Pu Tryd.prog (bopS Go.BinOp.lss 3 (Go.Operand.tmp 9) (Go.Operand.tmp 11) t9 t11) fun t12 =>
  K t12 w_1)
  (K (Go.Value.bool false) w)

def redo_has_ann : Ann :=
  { loop := fun _ => [],
    plan := fun _ => .done,
    hold := fun _ => fun _ => false,
    join := fun _ => none }

theorem redo_has_ok {K : Value → World → Prop} {t0 t1 : Value} {w : World} (h : redo_has_w K t0 t1 w) : Calls Tryd.prog 24 #[t0, t1] w (Rt K) :=
  calls_of_wpC (A := redo_has_ann) (c := Tryd.f24.body.getD .skip) (args := [t0, t1]) mixed Tryd.func24 rfl (by kernel_rfl) (Eq.mp (by kernel_rfl) h)

theorem redo_has_en : enters Tryd.prog 24 = true := by kernel_rfl

theorem redo_has_cl {K : Value → World → Prop} {t0 t1 : Value} {w : World} (h : Calls Tryd.prog 24 #[t0, t1] w (Rt K)) : Cl Tryd.prog 24 #[t0, t1] w K := ⟨redo_has_en, h⟩

def redo_View_Set_w (K : Value → World → Prop) (t0 t1 t2 : Value) (w : World) : Prop :=
  Pu Tryd.prog (nilC t0) fun t9 =>
  Pu Tryd.prog (Instr.fieldAt 70 t9 0) fun t10 =>
  Pu Tryd.prog (Instr.fieldAt 68 t10 0) fun t11 =>
  Bn Tryd.prog (Instr.loadAt 25 t11) w fun t12 w_1 =>
  Cl Tryd.prog 24 #[t12, t1] w_1 fun t14 w_2 =>
  Pu Tryd.prog (Op.unary Go.UnOp.not t14) fun t15 =>
  condV t15
   (K (Go.Value.int Go.IntKind.i64 40) w_2)
   (Pu Tryd.prog (bopS Go.BinOp.lss 3 (Go.Operand.tmp 17) (Go.Operand.const (Go.Value.int Go.IntKind.i64 0)) t2 (Go.Value.int Go.IntKind.i64 0)) fun t18 =>
   condV t18
   (K (Go.Value.int Go.IntKind.i64 1) w_2)
   (Pu Tryd.prog (bopS Go.BinOp.gtr 3 (Go.Operand.tmp 20) (Go.Operand.const (Go.Value.int Go.IntKind.i64 1099511627775)) t2 (Go.Value.int Go.IntKind.i64 1099511627775)) fun t21 =>
   condV t21
    (K (Go.Value.int Go.IntKind.i64 1) w_2)
    (Pu Tryd.prog (nilC t0) fun t25 =>
  Pu Tryd.prog (Instr.fieldAt 70 t25 1) fun t26 =>
  Bn Tryd.prog (Instr.loadAt 24 t26) w_2 fun t27 w_3 =>
  Pu Tryd.prog (Instr.build 34 #[(0, t1), (1, t2)]) fun t30 =>
  Bn Tryd.prog (Instr.buildSlice 24 1 #[(0, t30)]) w_3 fun t31 w_4 =>
  Bn Tryd.prog (Builtin.append_ #[24, 24] 24 #[t27, t31]) w_4 fun t32 w_5 =>
  Pu Tryd.prog (nilC t0) fun t33 =>
  Pu Tryd.prog (Instr.fieldAt 70 t33 1) fun t34 =>
  Bn Tryd.prog (unitV (Instr.storeAt 24 t34 t32)) w_5 fun _ w_6 =>
  K (Go.Value.int Go.IntKind.i64 0) w_6)))

def redo_View_Set_ann : Ann :=
  { loop := fun _ => [],
    plan := fun _ => .done,
    hold := fun _ => fun _ => false,
    join := fun _ => none }

theorem redo_View_Set_ok {K : Value → World → Prop} {t0 t1 t2 : Value} {w : World} (h : redo_View_Set_w K t0 t1 t2 w) : Calls Tryd.prog 10 #[t0, t1, t2] w (Rt K) :=
  calls_of_wpC (A := redo_View_Set_ann) (c := Tryd.f10.body.getD .skip) (args := [t0, t1, t2]) mixed Tryd.func10 rfl (by kernel_rfl) (Eq.mp (by kernel_rfl) h)

theorem redo_View_Set_en : enters Tryd.prog 10 = true := by kernel_rfl

theorem redo_View_Set_cl {K : Value → World → Prop} {t0 t1 t2 : Value} {w : World} (h : Calls Tryd.prog 10 #[t0, t1, t2] w (Rt K)) : Cl Tryd.prog 10 #[t0, t1, t2] w K := ⟨redo_View_Set_en, h⟩

def redo_View_Back_w (K : Value → World → Prop) (t0 t1 : Value) (w : World) : Prop :=
  ∃ S R : World → Prop, S w.drew ∧ (∀ w_1, S w_1 → R w_1) ∧
  Pu Tryd.prog (nilC t0) fun t6 =>
  Pu Tryd.prog (Instr.fieldAt 70 t6 1) fun t7 =>
  Pu Tryd.prog (nilC t0) fun t11 =>
  Pu Tryd.prog (Instr.fieldAt 70 t11 1) fun t12 =>
  ∃ t8, (∀ w_2, R w_2 → (Instr.loadAt 24 t7).run Tryd.prog w_2 = .ok t8 w_2) ∧
  ∃ t13, (∀ w_3, R w_3 → (Instr.loadAt 24 t12).run Tryd.prog w_3 = .ok t13 w_3) ∧
  ∃ t14, (∀ w_4, R w_4 → (Builtin.len_ #[24] 3 #[t13]).run Tryd.prog w_4 = .ok t14 w_4) ∧
  Pu Tryd.prog (Builtin.min_ #[3, 3] 3 #[t1, t14]) fun t15 =>
  Pu Tryd.prog (Builtin.max_ #[3, 3] 3 #[(Go.Value.int Go.IntKind.i64 0), t15]) fun t16 =>
  Pu Tryd.prog (Instr.sliceAt 24 t8 none (some t16) none) fun t17 =>
  Pu Tryd.prog (nilC t0) fun t18 =>
  Pu Tryd.prog (Instr.fieldAt 70 t18 1) fun t19 =>
  (∀ w_5, S w_5 →
  Bn Tryd.prog (unitV (Instr.storeAt 24 t19 t17)) w_5 fun _ w_6 =>
  ∃ S_1 R_1 : World → Prop, S_1 w_6 ∧ (∀ w_8, S_1 w_8 → R_1 w_8) ∧ True ∧
  ∀ w_9, S_1 w_9 →
  K (Value.tuple #[]) w_9) ∧
  True

def redo_View_Back_ann : Ann :=
  { loop := fun _ => [],
    plan := fun r => match r with | 0 => (.pure 0 (.pure 1 (.pure 2 (.pure 3 (.pure 5 (.pure 6 (.pure 7 (.pure 8 (.load 4 [4, 13, 14, 15, 16] (.load 9 [9, 10, 11, 12, 13, 14, 15, 16] (.load 10 [10, 11, 12, 13, 14, 15, 16] (.pure 11 (.pure 12 (.pure 13 (.pure 14 (.pure 15 (.alt 16 .done .stop))))))))))))))))) | _ => .done,
    hold := fun r => match r with | 0 => (fun i => match i with | 9 => true | 10 => true | 11 => true | 12 => true | _ => false) | _ => fun _ => false,
    join := fun _ => none }

theorem redo_View_Back_ok {K : Value → World → Prop} {t0 t1 : Value} {w : World} (h : redo_View_Back_w K t0 t1 w) : Calls Tryd.prog 30 #[t0, t1] w (Rt K) :=
  calls_of_wpC (A := redo_View_Back_ann) (c := Tryd.f30.body.getD .skip) (args := [t0, t1]) mixed Tryd.func30 rfl (by kernel_rfl) (Eq.mp (by kernel_rfl) h)

theorem redo_View_Back_en : enters Tryd.prog 30 = true := by kernel_rfl

theorem redo_View_Back_cl {K : Value → World → Prop} {t0 t1 : Value} {w : World} (h : Calls Tryd.prog 30 #[t0, t1] w (Rt K)) : Cl Tryd.prog 30 #[t0, t1] w K := ⟨redo_View_Back_en, h⟩

def redo_merged_w (K : Value → World → Prop) (t0 : Value) (w : World) : Prop :=
  Bn Tryd.prog (Instr.makeMap 100 none) w fun t9 w_1 =>
  Bn Tryd.prog (Builtin.len_ #[24] 3 #[t0]) w_1 fun t11 w_2 =>
  ∃ (I : Value → World → Prop) (μ : Value → World → Nat), I (Go.Value.int Go.IntKind.i64 0) w_2 ∧
   ∀ (u13 u14 u15 u5 u16 u17 u18 u19 u20 u21 u12 : Value) (w_3 : World), I u12 w_3 →
   Pu Tryd.prog (bopS Go.BinOp.lss 3 (Go.Operand.tmp 12) (Go.Operand.tmp 11) u12 t11) fun t13 =>
   condV t13
    (Pu Tryd.prog (Instr.indexAt 24 t0 u12) fun t14 =>
   Bn Tryd.prog (Instr.loadAt 34 t14) w_3 fun t15 w_4 =>
   Bn Tryd.prog (Instr.alloc 34 true (Value.tuple #[])) w_4 fun t5 w_5 =>
   Bn Tryd.prog (unitV (Instr.storeAt 34 t5 t15)) w_5 fun _ w_6 =>
   Pu Tryd.prog (Instr.fieldAt 34 t5 0) fun t17 =>
   Bn Tryd.prog (Instr.loadAt 3 t17) w_6 fun t18 w_7 =>
   Pu Tryd.prog (Instr.fieldAt 34 t5 1) fun t19 =>
   Bn Tryd.prog (Instr.loadAt 3 t19) w_7 fun t20 w_8 =>
   Bn Tryd.prog (unitV (Instr.mapUpdate 100 t9 t18 t20)) w_8 fun _ w_9 =>
   Pu Tryd.prog (bopS Go.BinOp.add 3 (Go.Operand.tmp 12) (Go.Operand.const (Go.Value.int Go.IntKind.i64 1)) u12 (Go.Value.int Go.IntKind.i64 1)) fun t21 =>
   I t21 w_9 ∧ μ t21 w_9 < μ u12 w_3)
    (Cl Tryd.prog 55 #[t9] w_3 fun t23 w_10 =>
  Cl Tryd.prog 54 #[t23] w_10 fun t24 w_11 =>
  Bn Tryd.prog (Builtin.len_ #[72] 3 #[t24]) w_11 fun t25 w_12 =>
  ∃ (I_1 : Value → Value → World → Prop) (μ_1 : Value → Value → World → Nat), I_1 (Go.Value.slice none 0 0) (Go.Value.int Go.IntKind.i64 0) w_12 ∧
   ∀ (u27 u28 u29 u8 u30 u31 u32 u33 u34 u35 u36 u37 u6 u38 u26 : Value) (w_13 : World), I_1 u6 u26 w_13 →
   Pu Tryd.prog (bopS Go.BinOp.lss 3 (Go.Operand.tmp 26) (Go.Operand.tmp 25) u26 t25) fun t27 =>
   condV t27
    (Pu Tryd.prog (Instr.indexAt 72 t24 u26) fun t28 =>
   Bn Tryd.prog (Instr.loadAt 3 t28) w_13 fun t29 w_14 =>
   Bn Tryd.prog (Instr.lookup 100 t9 t29 false) w_14 fun t34 w_15 =>
   Pu Tryd.prog (Instr.build 34 #[(0, t29), (1, t34)]) fun t35 =>
   Bn Tryd.prog (Instr.buildSlice 24 1 #[(0, t35)]) w_15 fun t36 w_16 =>
   Bn Tryd.prog (Builtin.append_ #[24, 24] 24 #[u6, t36]) w_16 fun t37 w_17 =>
   Pu Tryd.prog (bopS Go.BinOp.add 3 (Go.Operand.tmp 26) (Go.Operand.const (Go.Value.int Go.IntKind.i64 1)) u26 (Go.Value.int Go.IntKind.i64 1)) fun t38 =>
   I_1 t37 t38 w_17 ∧ μ_1 t37 t38 w_17 < μ_1 u6 u26 w_13)
    (K u6 w_13))

def redo_merged_ann : Ann :=
  { loop := fun r => match r with | 3 => [12] | 9 => [6, 26] | _ => [],
    plan := fun _ => .done,
    hold := fun _ => fun _ => false,
    join := fun _ => none }

theorem redo_merged_ok {K : Value → World → Prop} {t0 : Value} {w : World} (h : redo_merged_w K t0 w) : Calls Tryd.prog 39 #[t0] w (Rt K) :=
  calls_of_wpC (A := redo_merged_ann) (c := Tryd.f39.body.getD .skip) (args := [t0]) mixed Tryd.func39 rfl (by kernel_rfl) (Eq.mp (by kernel_rfl) h)

theorem redo_merged_en : enters Tryd.prog 39 = true := by kernel_rfl

theorem redo_merged_cl {K : Value → World → Prop} {t0 : Value} {w : World} (h : Calls Tryd.prog 39 #[t0] w (Rt K)) : Cl Tryd.prog 39 #[t0] w K := ⟨redo_merged_en, h⟩

def redo_View_Entries_w (K : Value → World → Prop) (t0 : Value) (w : World) : Prop :=
  Pu Tryd.prog (nilC t0) fun t4 =>
  Pu Tryd.prog (Instr.fieldAt 70 t4 1) fun t5 =>
  Bn Tryd.prog (Instr.loadAt 24 t5) w fun t6 w_1 =>
  Cl Tryd.prog 39 #[t6] w_1 fun t7 w_2 =>
  K t7 w_2

def redo_View_Entries_ann : Ann :=
  { loop := fun _ => [],
    plan := fun _ => .done,
    hold := fun _ => fun _ => false,
    join := fun _ => none }

theorem redo_View_Entries_ok {K : Value → World → Prop} {t0 : Value} {w : World} (h : redo_View_Entries_w K t0 w) : Calls Tryd.prog 12 #[t0] w (Rt K) :=
  calls_of_wpC (A := redo_View_Entries_ann) (c := Tryd.f12.body.getD .skip) (args := [t0]) mixed Tryd.func12 rfl (by kernel_rfl) (Eq.mp (by kernel_rfl) h)

theorem redo_View_Entries_en : enters Tryd.prog 12 = true := by kernel_rfl

theorem redo_View_Entries_cl {K : Value → World → Prop} {t0 : Value} {w : World} (h : Calls Tryd.prog 12 #[t0] w (Rt K)) : Cl Tryd.prog 12 #[t0] w K := ⟨redo_View_Entries_en, h⟩

def redo_Merge_w (K : Value → World → Prop) (t0 : Value) (w : World) : Prop :=
  Bn Tryd.prog (Builtin.len_ #[41] 3 #[t0]) w fun t7 w_1 =>
  ∃ (I : Value → Value → World → Prop) (μ : Value → Value → World → Nat), I (Go.Value.slice none 0 0) (Go.Value.int Go.IntKind.i64 0) w_1 ∧
   ∀ (u9 u10 u11 u5 u12 u13 u14 u15 u3 u16 u8 : Value) (w_2 : World), I u3 u8 w_2 →
   Pu Tryd.prog (bopS Go.BinOp.lss 3 (Go.Operand.tmp 8) (Go.Operand.tmp 7) u8 t7) fun t9 =>
   condV t9
    (Pu Tryd.prog (Instr.indexAt 41 t0 u8) fun t10 =>
   Bn Tryd.prog (Instr.loadAt 44 t10) w_2 fun t11 w_3 =>
   Bn Tryd.prog (Instr.alloc 44 true (Value.tuple #[])) w_3 fun t5 w_4 =>
   Bn Tryd.prog (unitV (Instr.storeAt 44 t5 t11)) w_4 fun _ w_5 =>
   Pu Tryd.prog (Instr.fieldAt 44 t5 1) fun t13 =>
   Bn Tryd.prog (Instr.loadAt 24 t13) w_5 fun t14 w_6 =>
   Bn Tryd.prog (Builtin.append_ #[24, 24] 24 #[u3, t14]) w_6 fun t15 w_7 =>
   Pu Tryd.prog (bopS Go.BinOp.add 3 (Go.Operand.tmp 8) (Go.Operand.const (Go.Value.int Go.IntKind.i64 1)) u8 (Go.Value.int Go.IntKind.i64 1)) fun t16 =>
   I t15 t16 w_7 ∧ μ t15 t16 w_7 < μ u3 u8 w_2)
    (Cl Tryd.prog 39 #[u3] w_2 fun t18 w_8 =>
  K t18 w_8)

def redo_Merge_ann : Ann :=
  { loop := fun r => match r with | 3 => [3, 8] | _ => [],
    plan := fun _ => .done,
    hold := fun _ => fun _ => false,
    join := fun _ => none }

theorem redo_Merge_ok {K : Value → World → Prop} {t0 : Value} {w : World} (h : redo_Merge_w K t0 w) : Calls Tryd.prog 17 #[t0] w (Rt K) :=
  calls_of_wpC (A := redo_Merge_ann) (c := Tryd.f17.body.getD .skip) (args := [t0]) mixed Tryd.func17 rfl (by kernel_rfl) (Eq.mp (by kernel_rfl) h)

theorem redo_Merge_en : enters Tryd.prog 17 = true := by kernel_rfl

theorem redo_Merge_cl {K : Value → World → Prop} {t0 : Value} {w : World} (h : Calls Tryd.prog 17 #[t0] w (Rt K)) : Cl Tryd.prog 17 #[t0] w K := ⟨redo_Merge_en, h⟩

def redo_Lines_w (K : Value → World → Prop) (t0 : Value) (w : World) : Prop :=
  Bn Tryd.prog (Builtin.len_ #[24] 3 #[t0]) w fun t7 w_1 =>
  ∃ (I : Value → Value → World → Prop) (μ : Value → Value → World → Nat), I (Go.Value.slice none 0 0) (Go.Value.int Go.IntKind.i64 0) w_1 ∧
   ∀ (u9 u10 u11 u5 u12 u13 u14 u15 u16 u17 u3 u18 u8 : Value) (w_2 : World), I u3 u8 w_2 →
   Pu Tryd.prog (bopS Go.BinOp.lss 3 (Go.Operand.tmp 8) (Go.Operand.tmp 7) u8 t7) fun t9 =>
   condV t9
    (Pu Tryd.prog (Instr.indexAt 24 t0 u8) fun t10 =>
   Bn Tryd.prog (Instr.loadAt 34 t10) w_2 fun t11 w_3 =>
   Bn Tryd.prog (Instr.alloc 34 true (Value.tuple #[])) w_3 fun t5 w_4 =>
   Bn Tryd.prog (unitV (Instr.storeAt 34 t5 t11)) w_4 fun _ w_5 =>
   Pu Tryd.prog (Instr.fieldAt 34 t5 0) fun t13 =>
   Bn Tryd.prog (Instr.loadAt 3 t13) w_5 fun t14 w_6 =>
   Pu Tryd.prog (bopS Go.BinOp.quo 3 (Go.Operand.tmp 14) (Go.Operand.const (Go.Value.int Go.IntKind.i64 8)) t14 (Go.Value.int Go.IntKind.i64 8)) fun t15 =>
   Bn Tryd.prog (Instr.buildSlice 72 1 #[(0, t15)]) w_6 fun t16 w_7 =>
   Bn Tryd.prog (Builtin.append_ #[72, 72] 72 #[u3, t16]) w_7 fun t17 w_8 =>
   Pu Tryd.prog (bopS Go.BinOp.add 3 (Go.Operand.tmp 8) (Go.Operand.const (Go.Value.int Go.IntKind.i64 1)) u8 (Go.Value.int Go.IntKind.i64 1)) fun t18 =>
   I t17 t18 w_8 ∧ μ t17 t18 w_8 < μ u3 u8 w_2)
    (Cl Tryd.prog 49 #[u3] w_2 fun t20 w_9 =>
  Cl Tryd.prog 50 #[u3] w_9 fun t22 w_10 =>
  K t22 w_10)

def redo_Lines_ann : Ann :=
  { loop := fun r => match r with | 3 => [3, 8] | _ => [],
    plan := fun _ => .done,
    hold := fun _ => fun _ => false,
    join := fun _ => none }

theorem redo_Lines_ok {K : Value → World → Prop} {t0 : Value} {w : World} (h : redo_Lines_w K t0 w) : Calls Tryd.prog 32 #[t0] w (Rt K) :=
  calls_of_wpC (A := redo_Lines_ann) (c := Tryd.f32.body.getD .skip) (args := [t0]) mixed Tryd.func32 rfl (by kernel_rfl) (Eq.mp (by kernel_rfl) h)

theorem redo_Lines_en : enters Tryd.prog 32 = true := by kernel_rfl

theorem redo_Lines_cl {K : Value → World → Prop} {t0 : Value} {w : World} (h : Calls Tryd.prog 32 #[t0] w (Rt K)) : Cl Tryd.prog 32 #[t0] w K := ⟨redo_Lines_en, h⟩

def redo_Check_1_w (K : Value → World → Prop) (t0 t1 : Value) (w : World) : Prop :=
  Bn Tryd.prog (Instr.box 34 t0) w fun t2 w_1 =>
  Bn Tryd.prog (Instr.loadAt 25 t1) w_1 fun t4 w_2 =>
  Pu Tryd.prog (Instr.fieldAt 34 t2 0) fun t5 =>
  Bn Tryd.prog (Instr.loadAt 3 t5) w_2 fun t6 w_3 =>
  Cl Tryd.prog 24 #[t4, t6] w_3 fun t7 w_4 =>
  Pu Tryd.prog (Op.unary Go.UnOp.not t7) fun t8 =>
  K t8 w_4

def redo_Check_1_ann : Ann :=
  { loop := fun _ => [],
    plan := fun _ => .done,
    hold := fun _ => fun _ => false,
    join := fun _ => none }

theorem redo_Check_1_ok {K : Value → World → Prop} {t0 t1 : Value} {w : World} (h : redo_Check_1_w K t0 t1 w) : Calls Tryd.prog 23 #[t0, t1] w (Rt K) :=
  calls_of_wpC (A := redo_Check_1_ann) (c := Tryd.f23.body.getD .skip) (args := [t0, t1]) mixed Tryd.func23 rfl (by kernel_rfl) (Eq.mp (by kernel_rfl) h)

theorem redo_Check_1_en : enters Tryd.prog 23 = true := by kernel_rfl

theorem redo_Check_1_cl {K : Value → World → Prop} {t0 t1 : Value} {w : World} (h : Calls Tryd.prog 23 #[t0, t1] w (Rt K)) : Cl Tryd.prog 23 #[t0, t1] w K := ⟨redo_Check_1_en, h⟩

def redo_Check_2_w (K : Value → World → Prop) (t0 : Value) (w : World) : Prop :=
  Bn Tryd.prog (Instr.box 34 t0) w fun t1 w_1 =>
  Pu Tryd.prog (Instr.fieldAt 34 t1 1) fun t3 =>
  Bn Tryd.prog (Instr.loadAt 3 t3) w_1 fun t4 w_2 =>
  Pu Tryd.prog (bopS Go.BinOp.lss 3 (Go.Operand.tmp 4) (Go.Operand.const (Go.Value.int Go.IntKind.i64 0)) t4 (Go.Value.int Go.IntKind.i64 0)) fun t5 =>
  condV t5
  (K (Go.Value.bool true) w_2)
  (Pu Tryd.prog (Instr.fieldAt 34 t1 1) fun t7 =>
  Bn Tryd.prog (Instr.loadAt 3 t7) w_2 fun t8 w_3 =>
  Pu Tryd.prog (bopS Go.BinOp.gtr 3 (Go.Operand.tmp 8) (Go.Operand.const (Go.Value.int Go.IntKind.i64 1099511627775)) t8 (Go.Value.int Go.IntKind.i64 1099511627775)) fun t9 =>
  K t9 w_3)

def redo_Check_2_ann : Ann :=
  { loop := fun _ => [],
    plan := fun _ => .done,
    hold := fun _ => fun _ => false,
    join := fun _ => none }

theorem redo_Check_2_ok {K : Value → World → Prop} {t0 : Value} {w : World} (h : redo_Check_2_w K t0 w) : Calls Tryd.prog 25 #[t0] w (Rt K) :=
  calls_of_wpC (A := redo_Check_2_ann) (c := Tryd.f25.body.getD .skip) (args := [t0]) mixed Tryd.func25 rfl (by kernel_rfl) (Eq.mp (by kernel_rfl) h)

theorem redo_Check_2_en : enters Tryd.prog 25 = true := by kernel_rfl

theorem redo_Check_2_cl {K : Value → World → Prop} {t0 : Value} {w : World} (h : Calls Tryd.prog 25 #[t0] w (Rt K)) : Cl Tryd.prog 25 #[t0] w K := ⟨redo_Check_2_en, h⟩

def redo_Check_3_w (K : Value → World → Prop) (t0 t1 : Value) (w : World) : Prop :=
  Bn Tryd.prog (Instr.box 34 t0) w fun t2 w_1 =>
  Bn Tryd.prog (Instr.loadAt 25 t1) w_1 fun t4 w_2 =>
  Pu Tryd.prog (Instr.fieldAt 34 t2 0) fun t5 =>
  Bn Tryd.prog (Instr.loadAt 3 t5) w_2 fun t6 w_3 =>
  Pu Tryd.prog (bopS Go.BinOp.quo 3 (Go.Operand.tmp 6) (Go.Operand.const (Go.Value.int Go.IntKind.i64 8)) t6 (Go.Value.int Go.IntKind.i64 8)) fun t7 =>
  Cl Tryd.prog 27 #[t4, t7] w_3 fun t8 w_4 =>
  Pu Tryd.prog (bopS Go.BinOp.eql 3 (Go.Operand.tmp 8) (Go.Operand.const (Go.Value.int Go.IntKind.i64 2)) t8 (Go.Value.int Go.IntKind.i64 2)) fun t9 =>
  K t9 w_4

def redo_Check_3_ann : Ann :=
  { loop := fun _ => [],
    plan := fun _ => .done,
    hold := fun _ => fun _ => false,
    join := fun _ => none }

theorem redo_Check_3_ok {K : Value → World → Prop} {t0 t1 : Value} {w : World} (h : redo_Check_3_w K t0 t1 w) : Calls Tryd.prog 26 #[t0, t1] w (Rt K) :=
  calls_of_wpC (A := redo_Check_3_ann) (c := Tryd.f26.body.getD .skip) (args := [t0, t1]) mixed Tryd.func26 rfl (by kernel_rfl) (Eq.mp (by kernel_rfl) h)

theorem redo_Check_3_en : enters Tryd.prog 26 = true := by kernel_rfl

theorem redo_Check_3_cl {K : Value → World → Prop} {t0 t1 : Value} {w : World} (h : Calls Tryd.prog 26 #[t0, t1] w (Rt K)) : Cl Tryd.prog 26 #[t0, t1] w K := ⟨redo_Check_3_en, h⟩

def redo_Check_w (K : Value → World → Prop) (t0 t1 : Value) (w : World) : Prop :=
  Bn Tryd.prog (Instr.box 25 t0) w fun t2 w_1 =>
  Pu Tryd.prog (Instr.makeFunc (Go.Fn.func 23) #[] #[t2]) fun t6 =>
  Cl Tryd.prog 22 #[t1, t6] w_1 fun t7 w_2 =>
  condV t7
   (K (Go.Value.int Go.IntKind.i64 40) w_2)
   (Cl Tryd.prog 22 #[t1, (Value.func (Fn.func 25) #[] #[])] w_2 fun t9 w_3 =>
  condV t9
   (K (Go.Value.int Go.IntKind.i64 1) w_3)
   (Pu Tryd.prog (Instr.makeFunc (Go.Fn.func 26) #[] #[t2]) fun t11 =>
  Cl Tryd.prog 22 #[t1, t11] w_3 fun t12 w_4 =>
  condV t12
   (K (Go.Value.int Go.IntKind.i64 9) w_4)
   (K (Go.Value.int Go.IntKind.i64 0) w_4)))

def redo_Check_ann : Ann :=
  { loop := fun _ => [],
    plan := fun _ => .done,
    hold := fun _ => fun _ => false,
    join := fun _ => none }

theorem redo_Check_ok {K : Value → World → Prop} {t0 t1 : Value} {w : World} (h : redo_Check_w K t0 t1 w) : Calls Tryd.prog 6 #[t0, t1] w (Rt K) :=
  calls_of_wpC (A := redo_Check_ann) (c := Tryd.f6.body.getD .skip) (args := [t0, t1]) mixed Tryd.func6 rfl (by kernel_rfl) (Eq.mp (by kernel_rfl) h)

theorem redo_Check_en : enters Tryd.prog 6 = true := by kernel_rfl

theorem redo_Check_cl {K : Value → World → Prop} {t0 t1 : Value} {w : World} (h : Calls Tryd.prog 6 #[t0, t1] w (Rt K)) : Cl Tryd.prog 6 #[t0, t1] w K := ⟨redo_Check_en, h⟩

def redo_Apply_w (K : Value → World → Prop) (t0 t1 : Value) (w : World) : Prop :=
  Cl Tryd.prog 6 #[t0, t1] w fun t12 w_1 =>
  Pu Tryd.prog (bopS Go.BinOp.neq 27 (Go.Operand.tmp 13) (Go.Operand.const (Go.Value.int Go.IntKind.i64 0)) t12 (Go.Value.int Go.IntKind.i64 0)) fun t14 =>
  condV t14
   (K t12 w_1)
   (Bn Tryd.prog (Builtin.len_ #[24] 3 #[t1]) w_1 fun t17 w_2 =>
  ∃ (I : Value → World → Prop) (μ : Value → World → Nat), I (Go.Value.int Go.IntKind.i64 0) w_2 ∧
   ∀ (u19 u20 u21 u7 u22 u23 u24 u25 u26 u27 u28 u18 : Value) (w_3 : World), I u18 w_3 →
   Pu Tryd.prog (bopS Go.BinOp.lss 3 (Go.Operand.tmp 18) (Go.Operand.tmp 17) u18 t17) fun t19 =>
   condV t19
    (Pu Tryd.prog (Instr.indexAt 24 t1 u18) fun t20 =>
   Bn Tryd.prog (Instr.loadAt 34 t20) w_3 fun t21 w_4 =>
   Bn Tryd.prog (Instr.alloc 34 true (Value.tuple #[])) w_4 fun t7 w_5 =>
   Bn Tryd.prog (unitV (Instr.storeAt 34 t7 t21)) w_5 fun _ w_6 =>
   Pu Tryd.prog (Instr.fieldAt 34 t7 0) fun t23 =>
   Bn Tryd.prog (Instr.loadAt 3 t23) w_6 fun t24 w_7 =>
   Pu Tryd.prog (Instr.fieldAt 34 t7 1) fun t25 =>
   Bn Tryd.prog (Instr.loadAt 3 t25) w_7 fun t26 w_8 =>
   Cl Tryd.prog 36 #[t0, t24, t26] w_8 fun t27 w_9 =>
   Pu Tryd.prog (bopS Go.BinOp.add 3 (Go.Operand.tmp 18) (Go.Operand.const (Go.Value.int Go.IntKind.i64 1)) u18 (Go.Value.int Go.IntKind.i64 1)) fun t28 =>
   I t28 w_9 ∧ μ t28 w_9 < μ u18 w_3)
    (Cl Tryd.prog 32 #[t1] w_3 fun t30 w_10 =>
  Bn Tryd.prog (Builtin.len_ #[72] 3 #[t30]) w_10 fun t31 w_11 =>
  ∃ (I_1 : Value → World → Prop) (μ_1 : Value → World → Nat), I_1 (Go.Value.int Go.IntKind.i64 0) w_11 ∧
   ∀ (u33 u34 u35 u9 u36 u37 u38 u39 u32 : Value) (w_12 : World), I_1 u32 w_12 →
   Pu Tryd.prog (bopS Go.BinOp.lss 3 (Go.Operand.tmp 32) (Go.Operand.tmp 31) u32 t31) fun t33 =>
   condV t33
    (Pu Tryd.prog (Instr.indexAt 72 t30 u32) fun t34 =>
   Bn Tryd.prog (Instr.loadAt 3 t34) w_12 fun t35 w_13 =>
   Cl Tryd.prog 37 #[t0, t35] w_13 fun t38 w_14 =>
   Pu Tryd.prog (bopS Go.BinOp.add 3 (Go.Operand.tmp 32) (Go.Operand.const (Go.Value.int Go.IntKind.i64 1)) u32 (Go.Value.int Go.IntKind.i64 1)) fun t39 =>
   I_1 t39 w_14 ∧ μ_1 t39 w_14 < μ_1 u32 w_12)
    (Cl Tryd.prog 38 #[t0] w_12 fun t41 w_15 =>
  K (Go.Value.int Go.IntKind.i64 0) w_15)))

def redo_Apply_ann : Ann :=
  { loop := fun r => match r with | 5 => [18] | 10 => [32] | _ => [],
    plan := fun _ => .done,
    hold := fun _ => fun _ => false,
    join := fun _ => none }

theorem redo_Apply_ok {K : Value → World → Prop} {t0 t1 : Value} {w : World} (h : redo_Apply_w K t0 t1 w) : Calls Tryd.prog 11 #[t0, t1] w (Rt K) :=
  calls_of_wpC (A := redo_Apply_ann) (c := Tryd.f11.body.getD .skip) (args := [t0, t1]) mixed Tryd.func11 rfl (by kernel_rfl) (Eq.mp (by kernel_rfl) h)

theorem redo_Apply_en : enters Tryd.prog 11 = true := by kernel_rfl

theorem redo_Apply_cl {K : Value → World → Prop} {t0 t1 : Value} {w : World} (h : Calls Tryd.prog 11 #[t0, t1] w (Rt K)) : Cl Tryd.prog 11 #[t0, t1] w K := ⟨redo_Apply_en, h⟩

def slices_IndexFunc_api_Entry_api_Entry_w (K : Value → World → Prop) (t0 t1 : Value) (w : World) : Prop :=
  Bn Tryd.prog (Builtin.len_ #[24] 3 #[t0]) w fun t7 w_1 =>
  ∃ (I : Value → World → Prop) (μ : Value → World → Nat), I (Go.Value.int Go.IntKind.i64 0) w_1 ∧
   ∀ (u9 u10 u5 u11 u12 u13 u14 u15 u16 u17 u4 u18 u8 : Value) (w_2 : World), I u8 w_2 →
   Pu Tryd.prog (bopS Go.BinOp.lss 3 (Go.Operand.tmp 8) (Go.Operand.tmp 7) u8 t7) fun t9 =>
   condV t9
    (Pu Tryd.prog (Instr.indexAt 24 t0 u8) fun t14 =>
   Bn Tryd.prog (Instr.loadAt 34 t14) w_2 fun t15 w_3 =>
   Clv Tryd.prog t1 #[t15] w_3 fun t16 w_4 =>
   condV t16
    (K u8 w_4)
    (Pu Tryd.prog (bopS Go.BinOp.add 3 (Go.Operand.tmp 8) (Go.Operand.const (Go.Value.int Go.IntKind.i64 1)) u8 (Go.Value.int Go.IntKind.i64 1)) fun t18 =>
   I t18 w_4 ∧ μ t18 w_4 < μ u8 w_2))
    (K (Go.Value.int Go.IntKind.i64 (-1)) w_2)

def slices_IndexFunc_api_Entry_api_Entry_ann : Ann :=
  { loop := fun r => match r with | 2 => [8] | _ => [],
    plan := fun _ => .done,
    hold := fun _ => fun _ => false,
    join := fun _ => none }

theorem slices_IndexFunc_api_Entry_api_Entry_ok {K : Value → World → Prop} {t0 t1 : Value} {w : World} (h : slices_IndexFunc_api_Entry_api_Entry_w K t0 t1 w) : Calls Tryd.prog 46 #[t0, t1] w (Rt K) :=
  calls_of_wpC (A := slices_IndexFunc_api_Entry_api_Entry_ann) (c := Tryd.f46.body.getD .skip) (args := [t0, t1]) mixed Tryd.func46 rfl (by kernel_rfl) (Eq.mp (by kernel_rfl) h)

theorem slices_IndexFunc_api_Entry_api_Entry_en : enters Tryd.prog 46 = true := by kernel_rfl

theorem slices_IndexFunc_api_Entry_api_Entry_cl {K : Value → World → Prop} {t0 t1 : Value} {w : World} (h : Calls Tryd.prog 46 #[t0, t1] w (Rt K)) : Cl Tryd.prog 46 #[t0, t1] w K := ⟨slices_IndexFunc_api_Entry_api_Entry_en, h⟩

def slices_ContainsFunc_api_Entry_api_Entry_w (K : Value → World → Prop) (t0 t1 : Value) (w : World) : Prop :=
  Cl Tryd.prog 46 #[t0, t1] w fun t7 w_1 =>
  Pu Tryd.prog (bopS Go.BinOp.geq 3 (Go.Operand.tmp 7) (Go.Operand.const (Go.Value.int Go.IntKind.i64 0)) t7 (Go.Value.int Go.IntKind.i64 0)) fun t8 =>
  K t8 w_1

def slices_ContainsFunc_api_Entry_api_Entry_ann : Ann :=
  { loop := fun _ => [],
    plan := fun _ => .done,
    hold := fun _ => fun _ => false,
    join := fun _ => none }

theorem slices_ContainsFunc_api_Entry_api_Entry_ok {K : Value → World → Prop} {t0 t1 : Value} {w : World} (h : slices_ContainsFunc_api_Entry_api_Entry_w K t0 t1 w) : Calls Tryd.prog 22 #[t0, t1] w (Rt K) :=
  calls_of_wpC (A := slices_ContainsFunc_api_Entry_api_Entry_ann) (c := Tryd.f22.body.getD .skip) (args := [t0, t1]) mixed Tryd.func22 rfl (by kernel_rfl) (Eq.mp (by kernel_rfl) h)

theorem slices_ContainsFunc_api_Entry_api_Entry_en : enters Tryd.prog 22 = true := by kernel_rfl

theorem slices_ContainsFunc_api_Entry_api_Entry_cl {K : Value → World → Prop} {t0 t1 : Value} {w : World} (h : Calls Tryd.prog 22 #[t0, t1] w (Rt K)) : Cl Tryd.prog 22 #[t0, t1] w K := ⟨slices_ContainsFunc_api_Entry_api_Entry_en, h⟩

def slices_Compact_int_int_w (K : Value → World → Prop) (t0 : Value) (w : World) : Prop :=
  Bn Tryd.prog (Builtin.len_ #[72] 3 #[t0]) w fun t7 w_1 =>
  Pu Tryd.prog (bopS Go.BinOp.lss 3 (Go.Operand.tmp 7) (Go.Operand.const (Go.Value.int Go.IntKind.i64 2)) t7 (Go.Value.int Go.IntKind.i64 2)) fun t8 =>
  condV t8
   (K t0 w_1)
   (∃ (I : Value → World → Prop) (μ : Value → World → Nat), I (Go.Value.int Go.IntKind.i64 1) w_1 ∧
   ∀ (u10 u11 u12 u13 u16 u17 u18 u19 u20 u21 u22 u23 u24 u25 u26 u27 u28 u4 u29 u30 u31 u32 u35 u36 u37 u38 u39 u40 u41 u42 u43 u44 u45 u46 u47 u48 u49 u50 u51 u52 u53 u33 u34 u5 u54 u55 u56 u57 u58 u59 u2 u14 u15 u3 : Value) (w_2 : World), I u3 w_2 →
   Bn Tryd.prog (Builtin.len_ #[72] 3 #[t0]) w_2 fun t12 w_3 =>
   Pu Tryd.prog (bopS Go.BinOp.lss 3 (Go.Operand.tmp 10) (Go.Operand.tmp 12) u3 t12) fun t13 =>
   condV t13
    (∃ S R : World → Prop, S w_3.drew ∧ (∀ w_4, S w_4 → R w_4) ∧
   Pu Tryd.prog (Instr.indexAt 72 t0 u3) fun t18 =>
   Pu Tryd.prog (bopS Go.BinOp.sub 3 (Go.Operand.tmp 21) (Go.Operand.const (Go.Value.int Go.IntKind.i64 1)) u3 (Go.Value.int Go.IntKind.i64 1)) fun t22 =>
   Pu Tryd.prog (Instr.indexAt 72 t0 t22) fun t23 =>
   ∃ t19, (∀ w_5, R w_5 → (Instr.loadAt 3 t18).run Tryd.prog w_5 = .ok t19 w_5) ∧
   ∃ t24, (∀ w_6, R w_6 → (Instr.loadAt 3 t23).run Tryd.prog w_6 = .ok t24 w_6) ∧
   Pu Tryd.prog (bopS Go.BinOp.eql 3 (Go.Operand.tmp 19) (Go.Operand.tmp 24) t19 t24) fun t25 =>
   ∀ w_7, S w_7 →
   condV t25
    (Pu Tryd.prog (Instr.sliceAt 72 t0 (some u3) none none) fun t28 =>
    ∃ (I_1 : Value → Value → World → Prop) (μ_1 : Value → Value → World → Nat), I_1 u3 (Go.Value.int Go.IntKind.i64 1) w_7 ∧
     ∀ (u29_1 u30_1 u31_1 u32_1 u35_1 u36_1 u37_1 u38_1 u39_1 u40_1 u41_1 u42_1 u43_1 u44_1 u45_1 u46_1 u47_1 u48_1 u49_1 u50_1 u51_1 u52_1 u53_1 u3_1 u33_1 u34_1 u5_1 : Value) (w_8 : World), I_1 u3_1 u5_1 w_8 →
     Bn Tryd.prog (Builtin.len_ #[72] 3 #[t28]) w_8 fun t31 w_9 =>
     Pu Tryd.prog (bopS Go.BinOp.lss 3 (Go.Operand.tmp 29) (Go.Operand.tmp 31) u5_1 t31) fun t32 =>
     condV t32
      (∃ S_1 R_1 : World → Prop, S_1 w_9.drew ∧ (∀ w_10, S_1 w_10 → R_1 w_10) ∧
     Pu Tryd.prog (Instr.indexAt 72 t28 u5_1) fun t37 =>
     Pu Tryd.prog (bopS Go.BinOp.sub 3 (Go.Operand.tmp 40) (Go.Operand.const (Go.Value.int Go.IntKind.i64 1)) u5_1 (Go.Value.int Go.IntKind.i64 1)) fun t41 =>
     Pu Tryd.prog (Instr.indexAt 72 t28 t41) fun t42 =>
     ∃ t38, (∀ w_11, R_1 w_11 → (Instr.loadAt 3 t37).run Tryd.prog w_11 = .ok t38 w_11) ∧
     ∃ t43, (∀ w_12, R_1 w_12 → (Instr.loadAt 3 t42).run Tryd.prog w_12 = .ok t43 w_12) ∧
     Pu Tryd.prog (bopS Go.BinOp.neq 3 (Go.Operand.tmp 38) (Go.Operand.tmp 43) t38 t43) fun t44 =>
     ∀ w_13, S_1 w_13 →
     condV t44
      (Pu Tryd.prog (Instr.indexAt 72 t28 u5_1) fun t49 =>
      Bn Tryd.prog (Instr.loadAt 3 t49) w_13 fun t50 w_14 =>
      Pu Tryd.prog (Instr.indexAt 72 t0 u3_1) fun t51 =>
      Bn Tryd.prog (unitV (Instr.storeAt 3 t51 t50)) w_14 fun _ w_15 =>
      Pu Tryd.prog (bopS Go.BinOp.add 3 (Go.Operand.tmp 52) (Go.Operand.const (Go.Value.int Go.IntKind.i64 1)) u3_1 (Go.Value.int Go.IntKind.i64 1)) fun t53 =>
      Pu Tryd.prog (bopS Go.BinOp.add 3 (Go.Operand.tmp 33) (Go.Operand.const (Go.Value.int Go.IntKind.i64 1)) u5_1 (Go.Value.int Go.IntKind.i64 1)) fun t34 =>
     I_1 t53 t34 w_15 ∧ μ_1 t53 t34 w_15 < μ_1 u3_1 u5_1 w_8)
      (Pu Tryd.prog (bopS Go.BinOp.add 3 (Go.Operand.tmp 33) (Go.Operand.const (Go.Value.int Go.IntKind.i64 1)) u5_1 (Go.Value.int Go.IntKind.i64 1)) fun t34_1 =>
     I_1 u3_1 t34_1 w_13 ∧ μ_1 u3_1 t34_1 w_13 < μ_1 u3_1 u5_1 w_8))
      (Pu Tryd.prog (Instr.sliceAt 72 t0 (some u3_1) none none) fun t56 =>
    Bn Tryd.prog (Builtin.clear_ #[72] 0 #[t56]) w_9 fun _ w_16 =>
    Pu Tryd.prog (Instr.sliceAt 72 t0 none (some u3_1) none) fun t59 =>
    K t59 w_16))
    (Pu Tryd.prog (bopS Go.BinOp.add 3 (Go.Operand.tmp 14) (Go.Operand.const (Go.Value.int Go.IntKind.i64 1)) u3 (Go.Value.int Go.IntKind.i64 1)) fun t15 =>
   I t15 w_7 ∧ μ t15 w_7 < μ u3 w_2))
    (K t0 w_3))

def slices_Compact_int_int_ann : Ann :=
  { loop := fun r => match r with | 4 => [3] | 9 => [3, 5] | _ => [],
    plan := fun r => match r with | 6 => (.pure 0 (.pure 1 (.pure 2 (.pure 4 (.pure 5 (.pure 6 (.pure 7 (.load 3 [3, 9] (.load 8 [8, 9] (.pure 9 .done)))))))))) | 11 => (.pure 0 (.pure 1 (.pure 2 (.pure 4 (.pure 5 (.pure 6 (.pure 7 (.load 3 [3, 9] (.load 8 [8, 9] (.pure 9 .done)))))))))) | _ => .done,
    hold := fun r => match r with | 6 => (fun i => match i with | 8 => true | _ => false) | 11 => (fun i => match i with | 8 => true | _ => false) | _ => fun _ => false,
    join := fun _ => none }

theorem slices_Compact_int_int_ok {K : Value → World → Prop} {t0 : Value} {w : World} (h : slices_Compact_int_int_w K t0 w) : Calls Tryd.prog 50 #[t0] w (Rt K) :=
  calls_of_wpC (A := slices_Compact_int_int_ann) (c := Tryd.f50.body.getD .skip) (args := [t0]) mixed Tryd.func50 rfl (by kernel_rfl) (Eq.mp (by kernel_rfl) h)

theorem slices_Compact_int_int_en : enters Tryd.prog 50 = true := by kernel_rfl

theorem slices_Compact_int_int_cl {K : Value → World → Prop} {t0 : Value} {w : World} (h : Calls Tryd.prog 50 #[t0] w (Rt K)) : Cl Tryd.prog 50 #[t0] w K := ⟨slices_Compact_int_int_en, h⟩

def slices_Backward_api_Entry_api_Entry_w (K : Value → World → Prop) (t0 : Value) (w : World) : Prop :=
  Bn Tryd.prog (Instr.box 24 t0) w fun t1 w_1 =>
  Pu Tryd.prog (Instr.makeFunc (Go.Fn.func 56) #[] #[t1]) fun t3 =>
  K t3 w_1

def slices_Backward_api_Entry_api_Entry_ann : Ann :=
  { loop := fun _ => [],
    plan := fun _ => .done,
    hold := fun _ => fun _ => false,
    join := fun _ => none }

theorem slices_Backward_api_Entry_api_Entry_ok {K : Value → World → Prop} {t0 : Value} {w : World} (h : slices_Backward_api_Entry_api_Entry_w K t0 w) : Calls Tryd.prog 40 #[t0] w (Rt K) :=
  calls_of_wpC (A := slices_Backward_api_Entry_api_Entry_ann) (c := Tryd.f40.body.getD .skip) (args := [t0]) mixed Tryd.func40 rfl (by kernel_rfl) (Eq.mp (by kernel_rfl) h)

theorem slices_Backward_api_Entry_api_Entry_en : enters Tryd.prog 40 = true := by kernel_rfl

theorem slices_Backward_api_Entry_api_Entry_cl {K : Value → World → Prop} {t0 : Value} {w : World} (h : Calls Tryd.prog 40 #[t0] w (Rt K)) : Cl Tryd.prog 40 #[t0] w K := ⟨slices_Backward_api_Entry_api_Entry_en, h⟩

def slices_Backward_api_Entry_api_Entry_1_w (K : Value → World → Prop) (t0 t1 : Value) (w : World) : Prop :=
  Bn Tryd.prog (Instr.loadAt 24 t1) w fun t4 w_1 =>
  Bn Tryd.prog (Builtin.len_ #[24] 3 #[t4]) w_1 fun t5 w_2 =>
  Pu Tryd.prog (bopS Go.BinOp.sub 3 (Go.Operand.tmp 5) (Go.Operand.const (Go.Value.int Go.IntKind.i64 1)) t5 (Go.Value.int Go.IntKind.i64 1)) fun t6 =>
  ∃ (I : Value → World → Prop) (μ : Value → World → Nat), I t6 w_2 ∧
   ∀ (u7 u8 u11 u12 u13 u14 u15 u16 u17 u18 u9 u10 u3 : Value) (w_3 : World), I u3 w_3 →
   Pu Tryd.prog (bopS Go.BinOp.geq 3 (Go.Operand.tmp 7) (Go.Operand.const (Go.Value.int Go.IntKind.i64 0)) u3 (Go.Value.int Go.IntKind.i64 0)) fun t8 =>
   condV t8
    (Bn Tryd.prog (Instr.loadAt 24 t1) w_3 fun t13 w_4 =>
   Pu Tryd.prog (Instr.indexAt 24 t13 u3) fun t15 =>
   Bn Tryd.prog (Instr.loadAt 34 t15) w_4 fun t16 w_5 =>
   Clv Tryd.prog t0 #[u3, t16] w_5 fun t17 w_6 =>
   Pu Tryd.prog (Op.unary Go.UnOp.not t17) fun t18 =>
   condV t18
    (K (Value.tuple #[]) w_6)
    (Pu Tryd.prog (bopS Go.BinOp.sub 3 (Go.Operand.tmp 9) (Go.Operand.const (Go.Value.int Go.IntKind.i64 1)) u3 (Go.Value.int Go.IntKind.i64 1)) fun t10 =>
   I t10 w_6 ∧ μ t10 w_6 < μ u3 w_3))
    (K (Value.tuple #[]) w_3)

def slices_Backward_api_Entry_api_Entry_1_ann : Ann :=
  { loop := fun r => match r with | 1 => [3] | _ => [],
    plan := fun _ => .done,
    hold := fun _ => fun _ => false,
    join := fun _ => none }

theorem slices_Backward_api_Entry_api_Entry_1_ok {K : Value → World → Prop} {t0 t1 : Value} {w : World} (h : slices_Backward_api_Entry_api_Entry_1_w K t0 t1 w) : Calls Tryd.prog 56 #[t0, t1] w (Rt K) :=
  calls_of_wpC (A := slices_Backward_api_Entry_api_Entry_1_ann) (c := Tryd.f56.body.getD .skip) (args := [t0, t1]) mixed Tryd.func56 rfl (by kernel_rfl) (Eq.mp (by kernel_rfl) h)

theorem slices_Backward_api_Entry_api_Entry_1_en : enters Tryd.prog 56 = true := by kernel_rfl

theorem slices_Backward_api_Entry_api_Entry_1_cl {K : Value → World → Prop} {t0 t1 : Value} {w : World} (h : Calls Tryd.prog 56 #[t0, t1] w (Rt K)) : Cl Tryd.prog 56 #[t0, t1] w K := ⟨slices_Backward_api_Entry_api_Entry_1_en, h⟩

def alumref10_All_w (K : Value → World → Prop) (t0 : Value) (w : World) : Prop :=
  ∃ (I : Value → Value → World → Prop) (μ : Value → Value → World → Nat), I (Go.Value.slice none 0 0) (Go.Value.int Go.IntKind.i64 0) w ∧
   ∀ (u5 u6 u7 u8 u11 u12 u13 u14 u15 u16 u17 u3 u9 u10 u4 : Value) (w_1 : World), I u3 u4 w_1 →
   Bn Tryd.prog (Builtin.len_ #[41] 3 #[t0]) w_1 fun t7 w_2 =>
   Pu Tryd.prog (bopS Go.BinOp.lss 3 (Go.Operand.tmp 5) (Go.Operand.tmp 7) u4 t7) fun t8 =>
   condV t8
    (Pu Tryd.prog (Instr.indexAt 41 t0 u4) fun t14 =>
   Pu Tryd.prog (Instr.fieldAt 44 t14 1) fun t15 =>
   Bn Tryd.prog (Instr.loadAt 24 t15) w_2 fun t16 w_3 =>
   Bn Tryd.prog (Builtin.append_ #[24, 24] 24 #[u3, t16]) w_3 fun t17 w_4 =>
   Pu Tryd.prog (bopS Go.BinOp.add 3 (Go.Operand.tmp 9) (Go.Operand.const (Go.Value.int Go.IntKind.i64 1)) u4 (Go.Value.int Go.IntKind.i64 1)) fun t10 =>
   I t17 t10 w_4 ∧ μ t17 t10 w_4 < μ u3 u4 w_1)
    (K u3 w_2)

def alumref10_All_ann : Ann :=
  { loop := fun r => match r with | 3 => [3, 4] | _ => [],
    plan := fun _ => .done,
    hold := fun _ => fun _ => false,
    join := fun _ => none }

theorem alumref10_All_ok {K : Value → World → Prop} {t0 : Value} {w : World} (h : alumref10_All_w K t0 w) : Calls Tryd.prog 16 #[t0] w (Rt K) :=
  calls_of_wpC (A := alumref10_All_ann) (c := Tryd.f16.body.getD .skip) (args := [t0]) mixed Tryd.func16 rfl (by kernel_rfl) (Eq.mp (by kernel_rfl) h)

theorem alumref10_All_en : enters Tryd.prog 16 = true := by kernel_rfl

theorem alumref10_All_cl {K : Value → World → Prop} {t0 : Value} {w : World} (h : Calls Tryd.prog 16 #[t0] w (Rt K)) : Cl Tryd.prog 16 #[t0] w K := ⟨alumref10_All_en, h⟩

def alumref10_Same_w (K : Value → World → Prop) (t0 t1 : Value) (w : World) : Prop :=
  Bn Tryd.prog (Builtin.len_ #[24] 3 #[t0]) w fun t7 w_1 =>
  Bn Tryd.prog (Builtin.len_ #[24] 3 #[t1]) w_1 fun t9 w_2 =>
  Pu Tryd.prog (bopS Go.BinOp.neq 3 (Go.Operand.tmp 7) (Go.Operand.tmp 9) t7 t9) fun t10 =>
  condV t10
   (K (Go.Value.bool false) w_2)
   (∃ (I : Value → World → Prop) (μ : Value → World → Nat), I (Go.Value.int Go.IntKind.i64 0) w_2 ∧
   ∀ (u11 u12 u13 u14 u17 u18 u19 u20 u21 u22 u23 u24 u25 u4 u15 u16 u5 : Value) (w_3 : World), I u5 w_3 →
   Bn Tryd.prog (Builtin.len_ #[24] 3 #[t0]) w_3 fun t13 w_4 =>
   Pu Tryd.prog (bopS Go.BinOp.lss 3 (Go.Operand.tmp 11) (Go.Operand.tmp 13) u5 t13) fun t14 =>
   condV t14
    (∃ S R : World → Prop, S w_4.drew ∧ (∀ w_5, S w_5 → R w_5) ∧
   Pu Tryd.prog (Instr.indexAt 24 t0 u5) fun t19 =>
   Pu Tryd.prog (Instr.indexAt 24 t1 u5) fun t23 =>
   ∃ t20, (∀ w_6, R w_6 → (Instr.loadAt 34 t19).run Tryd.prog w_6 = .ok t20 w_6) ∧
   ∃ t24, (∀ w_7, R w_7 → (Instr.loadAt 34 t23).run Tryd.prog w_7 = .ok t24 w_7) ∧
   Pu Tryd.prog (bopS Go.BinOp.neq 34 (Go.Operand.tmp 20) (Go.Operand.tmp 24) t20 t24) fun t25 =>
   ∀ w_8, S w_8 →
   condV t25
    (K (Go.Value.bool false) w_8)
    (Pu Tryd.prog (bopS Go.BinOp.add 3 (Go.Operand.tmp 15) (Go.Operand.const (Go.Value.int Go.IntKind.i64 1)) u5 (Go.Value.int Go.IntKind.i64 1)) fun t16 =>
   I t16 w_8 ∧ μ t16 w_8 < μ u5 w_3))
    (K (Go.Value.bool true) w_4))

def alumref10_Same_ann : Ann :=
  { loop := fun r => match r with | 4 => [5] | _ => [],
    plan := fun r => match r with | 6 => (.pure 0 (.pure 1 (.pure 2 (.pure 4 (.pure 5 (.pure 6 (.load 3 [3, 8] (.load 7 [7, 8] (.pure 8 .done))))))))) | _ => .done,
    hold := fun r => match r with | 6 => (fun i => match i with | 7 => true | _ => false) | _ => fun _ => false,
    join := fun _ => none }

theorem alumref10_Same_ok {K : Value → World → Prop} {t0 t1 : Value} {w : World} (h : alumref10_Same_w K t0 t1 w) : Calls Tryd.prog 20 #[t0, t1] w (Rt K) :=
  calls_of_wpC (A := alumref10_Same_ann) (c := Tryd.f20.body.getD .skip) (args := [t0, t1]) mixed Tryd.func20 rfl (by kernel_rfl) (Eq.mp (by kernel_rfl) h)

theorem alumref10_Same_en : enters Tryd.prog 20 = true := by kernel_rfl

theorem alumref10_Same_cl {K : Value → World → Prop} {t0 t1 : Value} {w : World} (h : Calls Tryd.prog 20 #[t0, t1] w (Rt K)) : Cl Tryd.prog 20 #[t0, t1] w K := ⟨alumref10_Same_en, h⟩

end Go.Proofs.YtlolaieolgmdnaaDoor
