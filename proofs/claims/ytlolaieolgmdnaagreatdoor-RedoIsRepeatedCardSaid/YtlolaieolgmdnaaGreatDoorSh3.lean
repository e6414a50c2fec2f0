import Derived.Test.YtlolaieolgmdnaaGreatDoorSh1
import Derived.Test.YtlolaieolgmdnaaGreatDoorProg
import Derived.KernelRfl
namespace Go.Proofs.YtlolaieolgmdnaaGreatDoor
open Go.RowKit
set_option linter.unusedVariables false
set_option maxRecDepth 100000



def redo_base_M_w (K : Value → World → Prop) (t0 : Value) (w : World) : Prop :=
  Bn Tryz.prog (Instr.box 94 t0) w fun t1 w_1 =>
  Pu Tryz.prog (Instr.fieldAt 94 t1 0) fun t3 =>
  Bn Tryz.prog (Instr.loadAt 25 t3) w_1 fun t4 w_2 =>
  K t4 w_2

def redo_base_M_ann : Ann :=
  { loop := fun _ => [],
    plan := fun _ => .done,
    hold := fun _ => fun _ => false,
    join := fun _ => none }

theorem redo_base_M_ok {K : Value → World → Prop} {t0 : Value} {w : World} (h : redo_base_M_w K t0 w) : Calls Tryz.prog 48 #[t0] w (Rt K) :=
  calls_of_wpC (A := redo_base_M_ann) (c := Tryz.f48.body.getD .skip) (args := [t0]) mixed Tryz.func48 rfl (by kernel_rfl) (Eq.mp (by kernel_rfl) h)

theorem redo_base_M_en : enters Tryz.prog 48 = true := by kernel_rfl

theorem redo_base_M_cl {K : Value → World → Prop} {t0 : Value} {w : World} (h : Calls Tryz.prog 48 #[t0] w (Rt K)) : Cl Tryz.prog 48 #[t0] w K := ⟨redo_base_M_en, h⟩

def redo_Over_w (K : Value → World → Prop) (t0 : Value) (w : World) : Prop :=
  Pu Tryz.prog (Instr.build 94 #[(0, t0)]) fun t4 =>
  Pu Tryz.prog (Instr.build 96 #[(0, t4)]) fun t5 =>
  Bn Tryz.prog (Instr.box 96 t5) w fun t6 w_1 =>
  K t6 w_1

def redo_Over_ann : Ann :=
  { loop := fun _ => [],
    plan := fun _ => .done,
    hold := fun _ => fun _ => false,
    join := fun _ => none }

theorem redo_Over_ok {K : Value → World → Prop} {t0 : Value} {w : World} (h : redo_Over_w K t0 w) : Calls Tryz.prog 9 #[t0] w (Rt K) :=
  calls_of_wpC (A := redo_Over_ann) (c := Tryz.f9.body.getD .skip) (args := [t0]) mixed Tryz.func9 rfl (by kernel_rfl) (Eq.mp (by kernel_rfl) h)

theorem redo_Over_en : enters Tryz.prog 9 = true := by kernel_rfl

theorem redo_Over_cl {K : Value → World → Prop} {t0 : Value} {w : World} (h : Calls Tryz.prog 9 #[t0] w (Rt K)) : Cl Tryz.prog 9 #[t0] w K := ⟨redo_Over_en, h⟩

def redo_View_Size_w (K : Value → World → Prop) (t0 : Value) (w : World) : Prop :=
  Pu Tryz.prog (nilC t0) fun t4 =>
  Pu Tryz.prog (Instr.fieldAt 96 t4 1) fun t5 =>
  Bn Tryz.prog (Instr.loadAt 46 t5) w fun t6 w_1 =>
  Bn Tryz.prog (Builtin.len_ #[46] 3 #[t6]) w_1 fun t7 w_2 =>
  K t7 w_2

def redo_View_Size_ann : Ann :=
  { loop := fun _ => [],
    plan := fun _ => .done,
    hold := fun _ => fun _ => false,
    join := fun _ => none }

theorem redo_View_Size_ok {K : Value → World → Prop} {t0 : Value} {w : World} (h : redo_View_Size_w K t0 w) : Calls Tryz.prog 20 #[t0] w (Rt K) :=
  calls_of_wpC (A := redo_View_Size_ann) (c := Tryz.f20.body.getD .skip) (args := [t0]) mixed Tryz.func20 rfl (by kernel_rfl) (Eq.mp (by kernel_rfl) h)

theorem redo_View_Size_en : enters Tryz.prog 20 = true := by kernel_rfl

theorem redo_View_Size_cl {K : Value → World → Prop} {t0 : Value} {w : World} (h : Calls Tryz.prog 20 #[t0] w (Rt K)) : Cl Tryz.prog 20 #[t0] w K := ⟨redo_View_Size_en, h⟩

def redo_has_w (K : Value → World → Prop) (t0 t1 : Value) (w : World) : Prop :=
  Pu Tryz.prog (bopS Go.BinOp.geq 3 (Go.Operand.tmp 5) (Go.Operand.const (Go.Value.int Go.IntKind.i64 0)) t1 (Go.Value.int Go.IntKind.i64 0)) fun t6 =>
  condV t6
  (Pu Tryz.prog (bopS Go.BinOp.quo 3 (Go.Operand.tmp 8) (Go.Operand.const (Go.Value.int Go.IntKind.i64 8)) t1 (Go.Value.int Go.IntKind.i64 8)) fun t9 =>
  Cl Tryz.prog 39 #[t0] w fun t11 w_1 =>
  Pu Tryz.prog (bopS Go.BinOp.lss 3 (Go.Operand.tmp 9) (Go.Operand.tmp 11) t9 t11) fun t12 =>
  K t12 w_1)
  (K (Go.Value.bool false) w)

def redo_has_ann : Ann :=
  { loop := fun _ => [],
    plan := fun _ => .done,
    hold := fun _ => fun _ => false,
    join := fun _ => none }

theorem redo_has_ok {K : Value → World → Prop} {t0 t1 : Value} {w : World} (h : redo_has_w K t0 t1 w) : Calls Tryz.prog 54 #[t0, t1] w (Rt K) :=
  calls_of_wpC (A := redo_has_ann) (c := Tryz.f54.body.getD .skip) (args := [t0, t1]) mixed Tryz.func54 rfl (by kernel_rfl) (Eq.mp (by kernel_rfl) h)

theorem redo_has_en : enters Tryz.prog 54 = true := by kernel_rfl

theorem redo_has_cl {K : Value → World → Prop} {t0 t1 : Value} {w : World} (h : Calls Tryz.prog 54 #[t0, t1] w (Rt K)) : Cl Tryz.prog 54 #[t0, t1] w K := ⟨redo_has_en, h⟩

def redo_View_Set_w (K : Value → World → Prop) (t0 t1 t2 : Value) (w : World) : Prop :=
  Pu Tryz.prog (nilC t0) fun t9 =>
  Pu Tryz.prog (Instr.fieldAt 96 t9 0) fun t10 =>
  Pu Tryz.prog (Instr.fieldAt 94 t10 0) fun t11 =>
  Bn Tryz.prog (Instr.loadAt 25 t11) w fun t12 w_1 =>
  Cl Tryz.prog 54 #[t12, t1] w_1 fun t14 w_2 =>
  Pu Tryz.prog (Op.unary Go.UnOp.not t14) fun t15 =>
  condV t15
   (K (Go.Value.int Go.IntKind.i64 40) w_2)
   (Pu Tryz.prog (bopS Go.BinOp.lss 3 (Go.Operand.tmp 17) (Go.Operand.const (Go.Value.int Go.IntKind.i64 0)) t2 (Go.Value.int Go.IntKind.i64 0)) fun t18 =>
   condV t18
   (K (Go.Value.int Go.IntKind.i64 1) w_2)
   (Pu Tryz.prog (bopS Go.BinOp.gtr 3 (Go.Operand.tmp 20) (Go.Operand.const (Go.Value.int Go.IntKind.i64 1099511627775)) t2 (Go.Value.int Go.IntKind.i64 1099511627775)) fun t21 =>
   condV t21
    (K (Go.Value.int Go.IntKind.i64 1) w_2)
    (Pu Tryz.prog (nilC t0) fun t25 =>
  Pu Tryz.prog (Instr.fieldAt 96 t25 1) fun t26 =>
  Bn Tryz.prog (Instr.loadAt 46 t26) w_2 fun t27 w_3 =>
  Pu Tryz.prog (Instr.build 58 #[(0, t1), (1, t2)]) fun t30 =>
  Bn Tryz.prog (Instr.buildSlice 46 1 #[(0, t30)]) w_3 fun t31 w_4 =>
  Bn Tryz.prog (Builtin.append_ #[46, 46] 46 #[t27, t31]) w_4 fun t32 w_5 =>
  Pu Tryz.prog (nilC t0) fun t33 =>
  Pu Tryz.prog (Instr.fieldAt 96 t33 1) fun t34 =>
  Bn Tryz.prog (unitV (Instr.storeAt 46 t34 t32)) w_5 fun _ w_6 =>
  K (Go.Value.int Go.IntKind.i64 0) w_6)))

def redo_View_Set_ann : Ann :=
  { loop := fun _ => [],
    plan := fun _ => .done,
    hold := fun _ => fun _ => false,
    join := fun _ => none }

theorem redo_View_Set_ok {K : Value → World → Prop} {t0 t1 t2 : Value} {w : World} (h : redo_View_Set_w K t0 t1 t2 w) : Calls Tryz.prog 15 #[t0, t1, t2] w (Rt K) :=
  calls_of_wpC (A := redo_View_Set_ann) (c := Tryz.f15.body.getD .skip) (args := [t0, t1, t2]) mixed Tryz.func15 rfl (by kernel_rfl) (Eq.mp (by kernel_rfl) h)

theorem redo_View_Set_en : enters Tryz.prog 15 = true := by kernel_rfl

theorem redo_View_Set_cl {K : Value → World → Prop} {t0 t1 t2 : Value} {w : World} (h : Calls Tryz.prog 15 #[t0, t1, t2] w (Rt K)) : Cl Tryz.prog 15 #[t0, t1, t2] w K := ⟨redo_View_Set_en, h⟩

def redo_View_Back_w (K : Value → World → Prop) (t0 t1 : Value) (w : World) : Prop :=
  ∃ S R : World → Prop, S w.drew ∧ (∀ w_1, S w_1 → R w_1) ∧
  Pu Tryz.prog (nilC t0) fun t6 =>
  Pu Tryz.prog (Instr.fieldAt 96 t6 1) fun t7 =>
  Pu Tryz.prog (nilC t0) fun t11 =>
  Pu Tryz.prog (Instr.fieldAt 96 t11 1) fun t12 =>
  ∃ t8, (∀ w_2, R w_2 → (Instr.loadAt 46 t7).run Tryz.prog w_2 = .ok t8 w_2) ∧
  ∃ t13, (∀ w_3, R w_3 → (Instr.loadAt 46 t12).run Tryz.prog w_3 = .ok t13 w_3) ∧
  ∃ t14, (∀ w_4, R w_4 → (Builtin.len_ #[46] 3 #[t13]).run Tryz.prog w_4 = .ok t14 w_4) ∧
  Pu Tryz.prog (Builtin.min_ #[3, 3] 3 #[t1, t14]) fun t15 =>
  Pu Tryz.prog (Builtin.max_ #[3, 3] 3 #[(Go.Value.int Go.IntKind.i64 0), t15]) fun t16 =>
  Pu Tryz.prog (Instr.sliceAt 46 t8 none (some t16) none) fun t17 =>
  Pu Tryz.prog (nilC t0) fun t18 =>
  Pu Tryz.prog (Instr.fieldAt 96 t18 1) fun t19 =>
  (∀ w_5, S w_5 →
  Bn Tryz.prog (unitV (Instr.storeAt 46 t19 t17)) w_5 fun _ w_6 =>
  ∃ S_1 R_1 : World → Prop, S_1 w_6 ∧ (∀ w_8, S_1 w_8 → R_1 w_8) ∧ True ∧
  ∀ w_9, S_1 w_9 →
  K (Value.tuple #[]) w_9) ∧
  True

def redo_View_Back_ann : Ann :=
  { loop := fun _ => [],
    plan := fun r => match r with | 0 => (.pure 0 (.pure 1 (.pure 2 (.pure 3 (.pure 5 (.pure 6 (.pure 7 (.pure 8 (.load 4 [4, 13, 14, 15, 16] (.load 9 [9, 10, 11, 12, 13, 14, 15, 16] (.load 10 [10, 11, 12, 13, 14, 15, 16] (.pure 11 (.pure 12 (.pure 13 (.pure 14 (.pure 15 (.alt 16 .done .stop))))))))))))))))) | _ => .done,
    hold := fun r => match r with | 0 => (fun i => match i with | 9 => true | 10 => true | 11 => true | 12 => true | _ => false) | _ => fun _ => false,
    join := fun _ => none }

theorem redo_View_Back_ok {K : Value → World → Prop} {t0 t1 : Value} {w : World} (h : redo_View_Back_w K t0 t1 w) : Calls Tryz.prog 13 #[t0, t1] w (Rt K) :=
  calls_of_wpC (A := redo_View_Back_ann) (c := Tryz.f13.body.getD .skip) (args := [t0, t1]) mixed Tryz.func13 rfl (by kernel_rfl) (Eq.mp (by kernel_rfl) h)

theorem redo_View_Back_en : enters Tryz.prog 13 = true := by kernel_rfl

theorem redo_View_Back_cl {K : Value → World → Prop} {t0 t1 : Value} {w : World} (h : Calls Tryz.prog 13 #[t0, t1] w (Rt K)) : Cl Tryz.prog 13 #[t0, t1] w K := ⟨redo_View_Back_en, h⟩

def redo_merged_w (K : Value → World → Prop) (t0 : Value) (w : World) : Prop :=
  Bn Tryz.prog (Instr.makeMap 138 none) w fun t9 w_1 =>
  Bn Tryz.prog (Builtin.len_ #[46] 3 #[t0]) w_1 fun t11 w_2 =>
  ∃ (I : Value → World → Prop) (μ : Value → World → Nat), I (Go.Value.int Go.IntKind.i64 0) w_2 ∧
   ∀ (u13 u14 u15 u5 u16 u17 u18 u19 u20 u21 u12 : Value) (w_3 : World), I u12 w_3 →
   Pu Tryz.prog (bopS Go.BinOp.lss 3 (Go.Operand.tmp 12) (Go.Operand.tmp 11) u12 t11) fun t13 =>
   condV t13
    (Pu Tryz.prog (Instr.indexAt 46 t0 u12) fun t14 =>
   Bn Tryz.prog (Instr.loadAt 58 t14) w_3 fun t15 w_4 =>
   Bn Tryz.prog (Instr.alloc 58 true (Value.tuple #[])) w_4 fun t5 w_5 =>
   Bn Tryz.prog (unitV (Instr.storeAt 58 t5 t15)) w_5 fun _ w_6 =>
   Pu Tryz.prog (Instr.fieldAt 58 t5 0) fun t17 =>
   Bn Tryz.prog (Instr.loadAt 3 t17) w_6 fun t18 w_7 =>
   Pu Tryz.prog (Instr.fieldAt 58 t5 1) fun t19 =>
   Bn Tryz.prog (Instr.loadAt 3 t19) w_7 fun t20 w_8 =>
   Bn Tryz.prog (unitV (Instr.mapUpdate 138 t9 t18 t20)) w_8 fun _ w_9 =>
   Pu Tryz.prog (bopS Go.BinOp.add 3 (Go.Operand.tmp 12) (Go.Operand.const (Go.Value.int Go.IntKind.i64 1)) u12 (Go.Value.int Go.IntKind.i64 1)) fun t21 =>
   I t21 w_9 ∧ μ t21 w_9 < μ u12 w_3)
    (Cl Tryz.prog 91 #[t9] w_3 fun t23 w_10 =>
  Cl Tryz.prog 90 #[t23] w_10 fun t24 w_11 =>
  Bn Tryz.prog (Builtin.len_ #[65] 3 #[t24]) w_11 fun t25 w_12 =>
  ∃ (I_1 : Value → Value → World → Prop) (μ_1 : Value → Value → World → Nat), I_1 (Go.Value.slice none 0 0) (Go.Value.int Go.IntKind.i64 0) w_12 ∧
   ∀ (u27 u28 u29 u8 u30 u31 u32 u33 u34 u35 u36 u37 u6 u38 u26 : Value) (w_13 : World), I_1 u6 u26 w_13 →
   Pu Tryz.prog (bopS Go.BinOp.lss 3 (Go.Operand.tmp 26) (Go.Operand.tmp 25) u26 t25) fun t27 =>
   condV t27
    (Pu Tryz.prog (Instr.indexAt 65 t24 u26) fun t28 =>
   Bn Tryz.prog (Instr.loadAt 3 t28) w_13 fun t29 w_14 =>
   Bn Tryz.prog (Instr.lookup 138 t9 t29 false) w_14 fun t34 w_15 =>
   Pu Tryz.prog (Instr.build 58 #[(0, t29), (1, t34)]) fun t35 =>
   Bn Tryz.prog (Instr.buildSlice 46 1 #[(0, t35)]) w_15 fun t36 w_16 =>
   Bn Tryz.prog (Builtin.append_ #[46, 46] 46 #[u6, t36]) w_16 fun t37 w_17 =>
   Pu Tryz.prog (bopS Go.BinOp.add 3 (Go.Operand.tmp 26) (Go.Operand.const (Go.Value.int Go.IntKind.i64 1)) u26 (Go.Value.int Go.IntKind.i64 1)) fun t38 =>
   I_1 t37 t38 w_17 ∧ μ_1 t37 t38 w_17 < μ_1 u6 u26 w_13)
    (K u6 w_13))

def redo_merged_ann : Ann :=
  { loop := fun r => match r with | 3 => [12] | 9 => [6, 26] | _ => [],
    plan := fun _ => .done,
    hold := fun _ => fun _ => false,
    join := fun _ => none }

theorem redo_merged_ok {K : Value → World → Prop} {t0 : Value} {w : World} (h : redo_merged_w K t0 w) : Calls Tryz.prog 56 #[t0] w (Rt K) :=
  calls_of_wpC (A := redo_merged_ann) (c := Tryz.f56.body.getD .skip) (args := [t0]) mixed Tryz.func56 rfl (by kernel_rfl) (Eq.mp (by kernel_rfl) h)

theorem redo_merged_en : enters Tryz.prog 56 = true := by kernel_rfl

theorem redo_merged_cl {K : Value → World → Prop} {t0 : Value} {w : World} (h : Calls Tryz.prog 56 #[t0] w (Rt K)) : Cl Tryz.prog 56 #[t0] w K := ⟨redo_merged_en, h⟩

def redo_View_Entries_w (K : Value → World → Prop) (t0 : Value) (w : World) : Prop :=
  Pu Tryz.prog (nilC t0) fun t4 =>
  Pu Tryz.prog (Instr.fieldAt 96 t4 1) fun t5 =>
  Bn Tryz.prog (Instr.loadAt 46 t5) w fun t6 w_1 =>
  Cl Tryz.prog 56 #[t6] w_1 fun t7 w_2 =>
  K t7 w_2

def redo_View_Entries_ann : Ann :=
  { loop := fun _ => [],
    plan := fun _ => .done,
    hold := fun _ => fun _ => false,
    join := fun _ => none }

theorem redo_View_Entries_ok {K : Value → World → Prop} {t0 : Value} {w : World} (h : redo_View_Entries_w K t0 w) : Calls Tryz.prog 18 #[t0] w (Rt K) :=
  calls_of_wpC (A := redo_View_Entries_ann) (c := Tryz.f18.body.getD .skip) (args := [t0]) mixed Tryz.func18 rfl (by kernel_rfl) (Eq.mp (by kernel_rfl) h)

theorem redo_View_Entries_en : enters Tryz.prog 18 = true := by kernel_rfl

theorem redo_View_Entries_cl {K : Value → World → Prop} {t0 : Value} {w : World} (h : Calls Tryz.prog 18 #[t0] w (Rt K)) : Cl Tryz.prog 18 #[t0] w K := ⟨redo_View_Entries_en, h⟩

def redo_Merge_w (K : Value → World → Prop) (t0 : Value) (w : World) : Prop :=
  Bn Tryz.prog (Builtin.len_ #[100] 3 #[t0]) w fun t7 w_1 =>
  ∃ (I : Value → Value → World → Prop) (μ : Value → Value → World → Nat), I (Go.Value.slice none 0 0) (Go.Value.int Go.IntKind.i64 0) w_1 ∧
   ∀ (u9 u10 u11 u5 u12 u13 u14 u15 u3 u16 u8 : Value) (w_2 : World), I u3 u8 w_2 →
   Pu Tryz.prog (bopS Go.BinOp.lss 3 (Go.Operand.tmp 8) (Go.Operand.tmp 7) u8 t7) fun t9 =>
   condV t9
    (Pu Tryz.prog (Instr.indexAt 100 t0 u8) fun t10 =>
   Bn Tryz.prog (Instr.loadAt 99 t10) w_2 fun t11 w_3 =>
   Bn Tryz.prog (Instr.alloc 99 true (Value.tuple #[])) w_3 fun t5 w_4 =>
   Bn Tryz.prog (unitV (Instr.storeAt 99 t5 t11)) w_4 fun _ w_5 =>
   Pu Tryz.prog (Instr.fieldAt 99 t5 1) fun t13 =>
   Bn Tryz.prog (Instr.loadAt 46 t13) w_5 fun t14 w_6 =>
   Bn Tryz.prog (Builtin.append_ #[46, 46] 46 #[u3, t14]) w_6 fun t15 w_7 =>
   Pu Tryz.prog (bopS Go.BinOp.add 3 (Go.Operand.tmp 8) (Go.Operand.const (Go.Value.int Go.IntKind.i64 1)) u8 (Go.Value.int Go.IntKind.i64 1)) fun t16 =>
   I t15 t16 w_7 ∧ μ t15 t16 w_7 < μ u3 u8 w_2)
    (Cl Tryz.prog 56 #[u3] w_2 fun t18 w_8 =>
  K t18 w_8)

def redo_Merge_ann : Ann :=
  { loop := fun r => match r with | 3 => [3, 8] | _ => [],
    plan := fun _ => .done,
    hold := fun _ => fun _ => false,
    join := fun _ => none }

theorem redo_Merge_ok {K : Value → World → Prop} {t0 : Value} {w : World} (h : redo_Merge_w K t0 w) : Calls Tryz.prog 49 #[t0] w (Rt K) :=
  calls_of_wpC (A := redo_Merge_ann) (c := Tryz.f49.body.getD .skip) (args := [t0]) mixed Tryz.func49 rfl (by kernel_rfl) (Eq.mp (by kernel_rfl) h)

theorem redo_Merge_en : enters Tryz.prog 49 = true := by kernel_rfl

theorem redo_Merge_cl {K : Value → World → Prop} {t0 : Value} {w : World} (h : Calls Tryz.prog 49 #[t0] w (Rt K)) : Cl Tryz.prog 49 #[t0] w K := ⟨redo_Merge_en, h⟩

def redo_Lines_w (K : Value → World → Prop) (t0 : Value) (w : World) : Prop :=
  Bn Tryz.prog (Builtin.len_ #[46] 3 #[t0]) w fun t7 w_1 =>
  ∃ (I : Value → Value → World → Prop) (μ : Value → Value → World → Nat), I (Go.Value.slice none 0 0) (Go.Value.int Go.IntKind.i64 0) w_1 ∧
   ∀ (u9 u10 u11 u5 u12 u13 u14 u15 u16 u17 u3 u18 u8 : Value) (w_2 : World), I u3 u8 w_2 →
   Pu Tryz.prog (bopS Go.BinOp.lss 3 (Go.Operand.tmp 8) (Go.Operand.tmp 7) u8 t7) fun t9 =>
   condV t9
    (Pu Tryz.prog (Instr.indexAt 46 t0 u8) fun t10 =>
   Bn Tryz.prog (Instr.loadAt 58 t10) w_2 fun t11 w_3 =>
   Bn Tryz.prog (Instr.alloc 58 true (Value.tuple #[])) w_3 fun t5 w_4 =>
   Bn Tryz.prog (unitV (Instr.storeAt 58 t5 t11)) w_4 fun _ w_5 =>
   Pu Tryz.prog (Instr.fieldAt 58 t5 0) fun t13 =>
   Bn Tryz.prog (Instr.loadAt 3 t13) w_5 fun t14 w_6 =>
   Pu Tryz.prog (bopS Go.BinOp.quo 3 (Go.Operand.tmp 14) (Go.Operand.const (Go.Value.int Go.IntKind.i64 8)) t14 (Go.Value.int Go.IntKind.i64 8)) fun t15 =>
   Bn Tryz.prog (Instr.buildSlice 65 1 #[(0, t15)]) w_6 fun t16 w_7 =>
   Bn Tryz.prog (Builtin.append_ #[65, 65] 65 #[u3, t16]) w_7 fun t17 w_8 =>
   Pu Tryz.prog (bopS Go.BinOp.add 3 (Go.Operand.tmp 8) (Go.Operand.const (Go.Value.int Go.IntKind.i64 1)) u8 (Go.Value.int Go.IntKind.i64 1)) fun t18 =>
   I t17 t18 w_8 ∧ μ t17 t18 w_8 < μ u3 u8 w_2)
    (Cl Tryz.prog 86 #[u3] w_2 fun t20 w_9 =>
  Cl Tryz.prog 87 #[u3] w_9 fun t22 w_10 =>
  K t22 w_10)

def redo_Lines_ann : Ann :=
  { loop := fun r => match r with | 3 => [3, 8] | _ => [],
    plan := fun _ => .done,
    hold := fun _ => fun _ => false,
    join := fun _ => none }

theorem redo_Lines_ok {K : Value → World → Prop} {t0 : Value} {w : World} (h : redo_Lines_w K t0 w) : Calls Tryz.prog 50 #[t0] w (Rt K) :=
  calls_of_wpC (A := redo_Lines_ann) (c := Tryz.f50.body.getD .skip) (args := [t0]) mixed Tryz.func50 rfl (by kernel_rfl) (Eq.mp (by kernel_rfl) h)

theorem redo_Lines_en : enters Tryz.prog 50 = true := by kernel_rfl

theorem redo_Lines_cl {K : Value → World → Prop} {t0 : Value} {w : World} (h : Calls Tryz.prog 50 #[t0] w (Rt K)) : Cl Tryz.prog 50 #[t0] w K := ⟨redo_Lines_en, h⟩

def redo_Check_1_w (K : Value → World → Prop) (t0 t1 : Value) (w : World) : Prop :=
  Bn Tryz.prog (Instr.box 58 t0) w fun t2 w_1 =>
  Bn Tryz.prog (Instr.loadAt 25 t1) w_1 fun t4 w_2 =>
  Pu Tryz.prog (Instr.fieldAt 58 t2 0) fun t5 =>
  Bn Tryz.prog (Instr.loadAt 3 t5) w_2 fun t6 w_3 =>
  Cl Tryz.prog 54 #[t4, t6] w_3 fun t7 w_4 =>
  Pu Tryz.prog (Op.unary Go.UnOp.not t7) fun t8 =>
  K t8 w_4

def redo_Check_1_ann : Ann :=
  { loop := fun _ => [],
    plan := fun _ => .done,
    hold := fun _ => fun _ => false,
    join := fun _ => none }

theorem redo_Check_1_ok {K : Value → World → Prop} {t0 t1 : Value} {w : World} (h : redo_Check_1_w K t0 t1 w) : Calls Tryz.prog 66 #[t0, t1] w (Rt K) :=
  calls_of_wpC (A := redo_Check_1_ann) (c := Tryz.f66.body.getD .skip) (args := [t0, t1]) mixed Tryz.func66 rfl (by kernel_rfl) (Eq.mp (by kernel_rfl) h)

theorem redo_Check_1_en : enters Tryz.prog 66 = true := by kernel_rfl

theorem redo_Check_1_cl {K : Value → World → Prop} {t0 t1 : Value} {w : World} (h : Calls Tryz.prog 66 #[t0, t1] w (Rt K)) : Cl Tryz.prog 66 #[t0, t1] w K := ⟨redo_Check_1_en, h⟩

def redo_Check_2_w (K : Value → World → Prop) (t0 : Value) (w : World) : Prop :=
  Bn Tryz.prog (Instr.box 58 t0) w fun t1 w_1 =>
  Pu Tryz.prog (Instr.fieldAt 58 t1 1) fun t3 =>
  Bn Tryz.prog (Instr.loadAt 3 t3) w_1 fun t4 w_2 =>
  Pu Tryz.prog (bopS Go.BinOp.lss 3 (Go.Operand.tmp 4) (Go.Operand.const (Go.Value.int Go.IntKind.i64 0)) t4 (Go.Value.int Go.IntKind.i64 0)) fun t5 =>
  condV t5
  (K (Go.Value.bool true) w_2)
  (Pu Tryz.prog (Instr.fieldAt 58 t1 1) fun t7 =>
  Bn Tryz.prog (Instr.loadAt 3 t7) w_2 fun t8 w_3 =>
  Pu Tryz.prog (bopS Go.BinOp.gtr 3 (Go.Operand.tmp 8) (Go.Operand.const (Go.Value.int Go.IntKind.i64 1099511627775)) t8 (Go.Value.int Go.IntKind.i64 1099511627775)) fun t9 =>
  K t9 w_3)

def redo_Check_2_ann : Ann :=
  { loop := fun _ => [],
    plan := fun _ => .done,
    hold := fun _ => fun _ => false,
    join := fun _ => none }

theorem redo_Check_2_ok {K : Value → World → Prop} {t0 : Value} {w : World} (h : redo_Check_2_w K t0 w) : Calls Tryz.prog 67 #[t0] w (Rt K) :=
  calls_of_wpC (A := redo_Check_2_ann) (c := Tryz.f67.body.getD .skip) (args := [t0]) mixed Tryz.func67 rfl (by kernel_rfl) (Eq.mp (by kernel_rfl) h)

theorem redo_Check_2_en : enters Tryz.prog 67 = true := by kernel_rfl

theorem redo_Check_2_cl {K : Value → World → Prop} {t0 : Value} {w : World} (h : Calls Tryz.prog 67 #[t0] w (Rt K)) : Cl Tryz.prog 67 #[t0] w K := ⟨redo_Check_2_en, h⟩

def redo_Check_3_w (K : Value → World → Prop) (t0 t1 : Value) (w : World) : Prop :=
  Bn Tryz.prog (Instr.box 58 t0) w fun t2 w_1 =>
  Bn Tryz.prog (Instr.loadAt 25 t1) w_1 fun t4 w_2 =>
  Pu Tryz.prog (Instr.fieldAt 58 t2 0) fun t5 =>
  Bn Tryz.prog (Instr.loadAt 3 t5) w_2 fun t6 w_3 =>
  Pu Tryz.prog (bopS Go.BinOp.quo 3 (Go.Operand.tmp 6) (Go.Operand.const (Go.Value.int Go.IntKind.i64 8)) t6 (Go.Value.int Go.IntKind.i64 8)) fun t7 =>
  Cl Tryz.prog 40 #[t4, t7] w_3 fun t8 w_4 =>
  Pu Tryz.prog (bopS Go.BinOp.eql 3 (Go.Operand.tmp 8) (Go.Operand.const (Go.Value.int Go.IntKind.i64 2)) t8 (Go.Value.int Go.IntKind.i64 2)) fun t9 =>
  K t9 w_4

def redo_Check_3_ann : Ann :=
  { loop := fun _ => [],
    plan := fun _ => .done,
    hold := fun _ => fun _ => false,
    join := fun _ => none }

theorem redo_Check_3_ok {K : Value → World → Prop} {t0 t1 : Value} {w : World} (h : redo_Check_3_w K t0 t1 w) : Calls Tryz.prog 68 #[t0, t1] w (Rt K) :=
  calls_of_wpC (A := redo_Check_3_ann) (c := Tryz.f68.body.getD .skip) (args := [t0, t1]) mixed Tryz.func68 rfl (by kernel_rfl) (Eq.mp (by kernel_rfl) h)

theorem redo_Check_3_en : enters Tryz.prog 68 = true := by kernel_rfl

theorem redo_Check_3_cl {K : Value → World → Prop} {t0 t1 : Value} {w : World} (h : Calls Tryz.prog 68 #[t0, t1] w (Rt K)) : Cl Tryz.prog 68 #[t0, t1] w K := ⟨redo_Check_3_en, h⟩

def redo_Check_w (K : Value → World → Prop) (t0 t1 : Value) (w : World) : Prop :=
  Bn Tryz.prog (Instr.box 25 t0) w fun t2 w_1 =>
  Pu Tryz.prog (Instr.makeFunc (Go.Fn.func 66) #[] #[t2]) fun t6 =>
  Cl Tryz.prog 65 #[t1, t6] w_1 fun t7 w_2 =>
  condV t7
   (K (Go.Value.int Go.IntKind.i64 40) w_2)
   (Cl Tryz.prog 65 #[t1, (Value.func (Fn.func 67) #[] #[])] w_2 fun t9 w_3 =>
  condV t9
   (K (Go.Value.int Go.IntKind.i64 1) w_3)
   (Pu Tryz.prog (Instr.makeFunc (Go.Fn.func 68) #[] #[t2]) fun t11 =>
  Cl Tryz.prog 65 #[t1, t11] w_3 fun t12 w_4 =>
  condV t12
   (K (Go.Value.int Go.IntKind.i64 9) w_4)
   (K (Go.Value.int Go.IntKind.i64 0) w_4)))

def redo_Check_ann : Ann :=
  { loop := fun _ => [],
    plan := fun _ => .done,
    hold := fun _ => fun _ => false,
    join := fun _ => none }

theorem redo_Check_ok {K : Value → World → Prop} {t0 t1 : Value} {w : World} (h : redo_Check_w K t0 t1 w) : Calls Tryz.prog 29 #[t0, t1] w (Rt K) :=
  calls_of_wpC (A := redo_Check_ann) (c := Tryz.f29.body.getD .skip) (args := [t0, t1]) mixed Tryz.func29 rfl (by kernel_rfl) (Eq.mp (by kernel_rfl) h)

theorem redo_Check_en : enters Tryz.prog 29 = true := by kernel_rfl

theorem redo_Check_cl {K : Value → World → Prop} {t0 t1 : Value} {w : World} (h : Calls Tryz.prog 29 #[t0, t1] w (Rt K)) : Cl Tryz.prog 29 #[t0, t1] w K := ⟨redo_Check_en, h⟩

def redo_Apply_w (K : Value → World → Prop) (t0 t1 : Value) (w : World) : Prop :=
  Cl Tryz.prog 29 #[t0, t1] w fun t12 w_1 =>
  Pu Tryz.prog (bopS Go.BinOp.neq 40 (Go.Operand.tmp 13) (Go.Operand.const (Go.Value.int Go.IntKind.i64 0)) t12 (Go.Value.int Go.IntKind.i64 0)) fun t14 =>
  condV t14
   (K t12 w_1)
   (Bn Tryz.prog (Builtin.len_ #[46] 3 #[t1]) w_1 fun t17 w_2 =>
  ∃ (I : Value → World → Prop) (μ : Value → World → Nat), I (Go.Value.int Go.IntKind.i64 0) w_2 ∧
   ∀ (u19 u20 u21 u7 u22 u23 u24 u25 u26 u27 u28 u18 : Value) (w_3 : World), I u18 w_3 →
   Pu Tryz.prog (bopS Go.BinOp.lss 3 (Go.Operand.tmp 18) (Go.Operand.tmp 17) u18 t17) fun t19 =>
   condV t19
    (Pu Tryz.prog (Instr.indexAt 46 t1 u18) fun t20 =>
   Bn Tryz.prog (Instr.loadAt 58 t20) w_3 fun t21 w_4 =>
   Bn Tryz.prog (Instr.alloc 58 true (Value.tuple #[])) w_4 fun t7 w_5 =>
   Bn Tryz.prog (unitV (Instr.storeAt 58 t7 t21)) w_5 fun _ w_6 =>
   Pu Tryz.prog (Instr.fieldAt 58 t7 0) fun t23 =>
   Bn Tryz.prog (Instr.loadAt 3 t23) w_6 fun t24 w_7 =>
   Pu Tryz.prog (Instr.fieldAt 58 t7 1) fun t25 =>
   Bn Tryz.prog (Instr.loadAt 3 t25) w_7 fun t26 w_8 =>
   Cl Tryz.prog 25 #[t0, t24, t26] w_8 fun t27 w_9 =>
   Pu Tryz.prog (bopS Go.BinOp.add 3 (Go.Operand.tmp 18) (Go.Operand.const (Go.Value.int Go.IntKind.i64 1)) u18 (Go.Value.int Go.IntKind.i64 1)) fun t28 =>
   I t28 w_9 ∧ μ t28 w_9 < μ u18 w_3)
    (Cl Tryz.prog 50 #[t1] w_3 fun t30 w_10 =>
  Bn Tryz.prog (Builtin.len_ #[65] 3 #[t30]) w_10 fun t31 w_11 =>
  ∃ (I_1 : Value → World → Prop) (μ_1 : Value → World → Nat), I_1 (Go.Value.int Go.IntKind.i64 0) w_11 ∧
   ∀ (u33 u34 u35 u9 u36 u37 u38 u39 u32 : Value) (w_12 : World), I_1 u32 w_12 →
   Pu Tryz.prog (bopS Go.BinOp.lss 3 (Go.Operand.tmp 32) (Go.Operand.tmp 31) u32 t31) fun t33 =>
   condV t33
    (Pu Tryz.prog (Instr.indexAt 65 t30 u32) fun t34 =>
   Bn Tryz.prog (Instr.loadAt 3 t34) w_12 fun t35 w_13 =>
   Cl Tryz.prog 69 #[t0, t35] w_13 fun t38 w_14 =>
   Pu Tryz.prog (bopS Go.BinOp.add 3 (Go.Operand.tmp 32) (Go.Operand.const (Go.Value.int Go.IntKind.i64 1)) u32 (Go.Value.int Go.IntKind.i64 1)) fun t39 =>
   I_1 t39 w_14 ∧ μ_1 t39 w_14 < μ_1 u32 w_12)
    (Cl Tryz.prog 70 #[t0] w_12 fun t41 w_15 =>
  K (Go.Value.int Go.IntKind.i64 0) w_15)))

def redo_Apply_ann : Ann :=
  { loop := fun r => match r with | 5 => [18] | 10 => [32] | _ => [],
    plan := fun _ => .done,
    hold := fun _ => fun _ => false,
    join := fun _ => none }

theorem redo_Apply_ok {K : Value → World → Prop} {t0 t1 : Value} {w : World} (h : redo_Apply_w K t0 t1 w) : Calls Tryz.prog 30 #[t0, t1] w (Rt K) :=
  calls_of_wpC (A := redo_Apply_ann) (c := Tryz.f30.body.getD .skip) (args := [t0, t1]) mixed Tryz.func30 rfl (by kernel_rfl) (Eq.mp (by kernel_rfl) h)

theorem redo_Apply_en : enters Tryz.prog 30 = true := by kernel_rfl

theorem redo_Apply_cl {K : Value → World → Prop} {t0 t1 : Value} {w : World} (h : Calls Tryz.prog 30 #[t0, t1] w (Rt K)) : Cl Tryz.prog 30 #[t0, t1] w K := ⟨redo_Apply_en, h⟩

def slices_IndexFunc_api_Entry_api_Entry_w (K : Value → World → Prop) (t0 t1 : Value) (w : World) : Prop :=
  Bn Tryz.prog (Builtin.len_ #[46] 3 #[t0]) w fun t7 w_1 =>
  ∃ (I : Value → World → Prop) (μ : Value → World → Nat), I (Go.Value.int Go.IntKind.i64 0) w_1 ∧
   ∀ (u9 u10 u5 u11 u12 u13 u14 u15 u16 u17 u4 u18 u8 : Value) (w_2 : World), I u8 w_2 →
   Pu Tryz.prog (bopS Go.BinOp.lss 3 (Go.Operand.tmp 8) (Go.Operand.tmp 7) u8 t7) fun t9 =>
   condV t9
    (Pu Tryz.prog (Instr.indexAt 46 t0 u8) fun t14 =>
   Bn Tryz.prog (Instr.loadAt 58 t14) w_2 fun t15 w_3 =>
   Clv Tryz.prog t1 #[t15] w_3 fun t16 w_4 =>
   condV t16
    (K u8 w_4)
    (Pu Tryz.prog (bopS Go.BinOp.add 3 (Go.Operand.tmp 8) (Go.Operand.const (Go.Value.int Go.IntKind.i64 1)) u8 (Go.Value.int Go.IntKind.i64 1)) fun t18 =>
   I t18 w_4 ∧ μ t18 w_4 < μ u8 w_2))
    (K (Go.Value.int Go.IntKind.i64 (-1)) w_2)

def slices_IndexFunc_api_Entry_api_Entry_ann : Ann :=
  { loop := fun r => match r with | 2 => [8] | _ => [],
    plan := fun _ => .done,
    hold := fun _ => fun _ => false,
    join := fun _ => none }

theorem slices_IndexFunc_api_Entry_api_Entry_ok {K : Value → World → Prop} {t0 t1 : Value} {w : World} (h : slices_IndexFunc_api_Entry_api_Entry_w K t0 t1 w) : Calls Tryz.prog 94 #[t0, t1] w (Rt K) :=
  calls_of_wpC (A := slices_IndexFunc_api_Entry_api_Entry_ann) (c := Tryz.f94.body.getD .skip) (args := [t0, t1]) mixed Tryz.func94 rfl (by kernel_rfl) (Eq.mp (by kernel_rfl) h)

theorem slices_IndexFunc_api_Entry_api_Entry_en : enters Tryz.prog 94 = true := by kernel_rfl

theorem slices_IndexFunc_api_Entry_api_Entry_cl {K : Value → World → Prop} {t0 t1 : Value} {w : World} (h : Calls Tryz.prog 94 #[t0, t1] w (Rt K)) : Cl Tryz.prog 94 #[t0, t1] w K := ⟨slices_IndexFunc_api_Entry_api_Entry_en, h⟩

def slices_ContainsFunc_api_Entry_api_Entry_w (K : Value → World → Prop) (t0 t1 : Value) (w : World) : Prop :=
  Cl Tryz.prog 94 #[t0, t1] w fun t7 w_1 =>
  Pu Tryz.prog (bopS Go.BinOp.geq 3 (Go.Operand.tmp 7) (Go.Operand.const (Go.Value.int Go.IntKind.i64 0)) t7 (Go.Value.int Go.IntKind.i64 0)) fun t8 =>
  K t8 w_1

def slices_ContainsFunc_api_Entry_api_Entry_ann : Ann :=
  { loop := fun _ => [],
    plan := fun _ => .done,
    hold := fun _ => fun _ => false,
    join := fun _ => none }

theorem slices_ContainsFunc_api_Entry_api_Entry_ok {K : Value → World → Prop} {t0 t1 : Value} {w : World} (h : slices_ContainsFunc_api_Entry_api_Entry_w K t0 t1 w) : Calls Tryz.prog 65 #[t0, t1] w (Rt K) :=
  calls_of_wpC (A := slices_ContainsFunc_api_Entry_api_Entry_ann) (c := Tryz.f65.body.getD .skip) (args := [t0, t1]) mixed Tryz.func65 rfl (by kernel_rfl) (Eq.mp (by kernel_rfl) h)

theorem slices_ContainsFunc_api_Entry_api_Entry_en : enters Tryz.prog 65 = true := by kernel_rfl

theorem slices_ContainsFunc_api_Entry_api_Entry_cl {K : Value → World → Prop} {t0 t1 : Value} {w : World} (h : Calls Tryz.prog 65 #[t0, t1] w (Rt K)) : Cl Tryz.prog 65 #[t0, t1] w K := ⟨slices_ContainsFunc_api_Entry_api_Entry_en, h⟩

def slices_Compact_int_int_w (K : Value → World → Prop) (t0 : Value) (w : World) : Prop :=
  Bn Tryz.prog (Builtin.len_ #[65] 3 #[t0]) w fun t7 w_1 =>
  Pu Tryz.prog (bopS Go.BinOp.lss 3 (Go.Operand.tmp 7) (Go.Operand.const (Go.Value.int Go.IntKind.i64 2)) t7 (Go.Value.int Go.IntKind.i64 2)) fun t8 =>
  condV t8
   (K t0 w_1)
   (∃ (I : Value → World → Prop) (μ : Value → World → Nat), I (Go.Value.int Go.IntKind.i64 1) w_1 ∧
   ∀ (u10 u11 u12 u13 u16 u17 u18 u19 u20 u21 u22 u23 u24 u25 u26 u27 u28 u4 u29 u30 u31 u32 u35 u36 u37 u38 u39 u40 u41 u42 u43 u44 u45 u46 u47 u48 u49 u50 u51 u52 u53 u33 u34 u5 u54 u55 u56 u57 u58 u59 u2 u14 u15 u3 : Value) (w_2 : World), I u3 w_2 →
   Bn Tryz.prog (Builtin.len_ #[65] 3 #[t0]) w_2 fun t12 w_3 =>
   Pu Tryz.prog (bopS Go.BinOp.lss 3 (Go.Operand.tmp 10) (Go.Operand.tmp 12) u3 t12) fun t13 =>
   condV t13
    (∃ S R : World → Prop, S w_3.drew ∧ (∀ w_4, S w_4 → R w_4) ∧
   Pu Tryz.prog (Instr.indexAt 65 t0 u3) fun t18 =>
   Pu Tryz.prog (bopS Go.BinOp.sub 3 (Go.Operand.tmp 21) (Go.Operand.const (Go.Value.int Go.IntKind.i64 1)) u3 (Go.Value.int Go.IntKind.i64 1)) fun t22 =>
   Pu Tryz.prog (Instr.indexAt 65 t0 t22) fun t23 =>
   ∃ t19, (∀ w_5, R w_5 → (Instr.loadAt 3 t18).run Tryz.prog w_5 = .ok t19 w_5) ∧
   ∃ t24, (∀ w_6, R w_6 → (Instr.loadAt 3 t23).run Tryz.prog w_6 = .ok t24 w_6) ∧
   Pu Tryz.prog (bopS Go.BinOp.eql 3 (Go.Operand.tmp 19) (Go.Operand.tmp 24) t19 t24) fun t25 =>
   ∀ w_7, S w_7 →
   condV t25
    (Pu Tryz.prog (Instr.sliceAt 65 t0 (some u3) none none) fun t28 =>
    ∃ (I_1 : Value → Value → World → Prop) (μ_1 : Value → Value → World → Nat), I_1 u3 (Go.Value.int Go.IntKind.i64 1) w_7 ∧
     ∀ (u29_1 u30_1 u31_1 u32_1 u35_1 u36_1 u37_1 u38_1 u39_1 u40_1 u41_1 u42_1 u43_1 u44_1 u45_1 u46_1 u47_1 u48_1 u49_1 u50_1 u51_1 u52_1 u53_1 u3_1 u33_1 u34_1 u5_1 : Value) (w_8 : World), I_1 u3_1 u5_1 w_8 →
     Bn Tryz.prog (Builtin.len_ #[65] 3 #[t28]) w_8 fun t31 w_9 =>
     Pu Tryz.prog (bopS Go.BinOp.lss 3 (Go.Operand.tmp 29) (Go.Operand.tmp 31) u5_1 t31) fun t32 =>
     condV t32
      (∃ S_1 R_1 : World → Prop, S_1 w_9.drew ∧ (∀ w_10, S_1 w_10 → R_1 w_10) ∧
     Pu Tryz.prog (Instr.indexAt 65 t28 u5_1) fun t37 =>
     Pu Tryz.prog (bopS Go.BinOp.sub 3 (Go.Operand.tmp 40) (Go.Operand.const (Go.Value.int Go.IntKind.i64 1)) u5_1 (Go.Value.int Go.IntKind.i64 1)) fun t41 =>
     Pu Tryz.prog (Instr.indexAt 65 t28 t41) fun t42 =>
     ∃ t38, (∀ w_11, R_1 w_11 → (Instr.loadAt 3 t37).run Tryz.prog w_11 = .ok t38 w_11) ∧
     ∃ t43, (∀ w_12, R_1 w_12 → (Instr.loadAt 3 t42).run Tryz.prog w_12 = .ok t43 w_12) ∧
     Pu Tryz.prog (bopS Go.BinOp.neq 3 (Go.Operand.tmp 38) (Go.Operand.tmp 43) t38 t43) fun t44 =>
     ∀ w_13, S_1 w_13 →
     condV t44
      (Pu Tryz.prog (Instr.indexAt 65 t28 u5_1) fun t49 =>
      Bn Tryz.prog (Instr.loadAt 3 t49) w_13 fun t50 w_14 =>
      Pu Tryz.prog (Instr.indexAt 65 t0 u3_1) fun t51 =>
      Bn Tryz.prog (unitV (Instr.storeAt 3 t51 t50)) w_14 fun _ w_15 =>
      Pu Tryz.prog (bopS Go.BinOp.add 3 (Go.Operand.tmp 52) (Go.Operand.const (Go.Value.int Go.IntKind.i64 1)) u3_1 (Go.Value.int Go.IntKind.i64 1)) fun t53 =>
      Pu Tryz.prog (bopS Go.BinOp.add 3 (Go.Operand.tmp 33) (Go.Operand.const (Go.Value.int Go.IntKind.i64 1)) u5_1 (Go.Value.int Go.IntKind.i64 1)) fun t34 =>
     I_1 t53 t34 w_15 ∧ μ_1 t53 t34 w_15 < μ_1 u3_1 u5_1 w_8)
      (Pu Tryz.prog (bopS Go.BinOp.add 3 (Go.Operand.tmp 33) (Go.Operand.const (Go.Value.int Go.IntKind.i64 1)) u5_1 (Go.Value.int Go.IntKind.i64 1)) fun t34_1 =>
     I_1 u3_1 t34_1 w_13 ∧ μ_1 u3_1 t34_1 w_13 < μ_1 u3_1 u5_1 w_8))
      (Pu Tryz.prog (Instr.sliceAt 65 t0 (some u3_1) none none) fun t56 =>
    Bn Tryz.prog (Builtin.clear_ #[65] 0 #[t56]) w_9 fun _ w_16 =>
    Pu Tryz.prog (Instr.sliceAt 65 t0 none (some u3_1) none) fun t59 =>
    K t59 w_16))
    (Pu Tryz.prog (bopS Go.BinOp.add 3 (Go.Operand.tmp 14) (Go.Operand.const (Go.Value.int Go.IntKind.i64 1)) u3 (Go.Value.int Go.IntKind.i64 1)) fun t15 =>
   I t15 w_7 ∧ μ t15 w_7 < μ u3 w_2))
    (K t0 w_3))

def slices_Compact_int_int_ann : Ann :=
  { loop := fun r => match r with | 4 => [3] | 9 => [3, 5] | _ => [],
    plan := fun r => match r with | 6 => (.pure 0 (.pure 1 (.pure 2 (.pure 4 (.pure 5 (.pure 6 (.pure 7 (.load 3 [3, 9] (.load 8 [8, 9] (.pure 9 .done)))))))))) | 11 => (.pure 0 (.pure 1 (.pure 2 (.pure 4 (.pure 5 (.pure 6 (.pure 7 (.load 3 [3, 9] (.load 8 [8, 9] (.pure 9 .done)))))))))) | _ => .done,
    hold := fun r => match r with | 6 => (fun i => match i with | 8 => true | _ => false) | 11 => (fun i => match i with | 8 => true | _ => false) | _ => fun _ => false,
    join := fun _ => none }

theorem slices_Compact_int_int_ok {K : Value → World → Prop} {t0 : Value} {w : World} (h : slices_Compact_int_int_w K t0 w) : Calls Tryz.prog 87 #[t0] w (Rt K) :=
  calls_of_wpC (A := slices_Compact_int_int_ann) (c := Tryz.f87.body.getD .skip) (args := [t0]) mixed Tryz.func87 rfl (by kernel_rfl) (Eq.mp (by kernel_rfl) h)

theorem slices_Compact_int_int_en : enters Tryz.prog 87 = true := by kernel_rfl

theorem slices_Compact_int_int_cl {K : Value → World → Prop} {t0 : Value} {w : World} (h : Calls Tryz.prog 87 #[t0] w (Rt K)) : Cl Tryz.prog 87 #[t0] w K := ⟨slices_Compact_int_int_en, h⟩

def slices_Backward_api_Entry_api_Entry_w (K : Value → World → Prop) (t0 : Value) (w : World) : Prop :=
  Bn Tryz.prog (Instr.box 46 t0) w fun t1 w_1 =>
  Pu Tryz.prog (Instr.makeFunc (Go.Fn.func 88) #[] #[t1]) fun t3 =>
  K t3 w_1

def slices_Backward_api_Entry_api_Entry_ann : Ann :=
  { loop := fun _ => [],
    plan := fun _ => .done,
    hold := fun _ => fun _ => false,
    join := fun _ => none }

theorem slices_Backward_api_Entry_api_Entry_ok {K : Value → World → Prop} {t0 : Value} {w : World} (h : slices_Backward_api_Entry_api_Entry_w K t0 w) : Calls Tryz.prog 51 #[t0] w (Rt K) :=
  calls_of_wpC (A := slices_Backward_api_Entry_api_Entry_ann) (c := Tryz.f51.body.getD .skip) (args := [t0]) mixed Tryz.func51 rfl (by kernel_rfl) (Eq.mp (by kernel_rfl) h)

theorem slices_Backward_api_Entry_api_Entry_en : enters Tryz.prog 51 = true := by kernel_rfl

theorem slices_Backward_api_Entry_api_Entry_cl {K : Value → World → Prop} {t0 : Value} {w : World} (h : Calls Tryz.prog 51 #[t0] w (Rt K)) : Cl Tryz.prog 51 #[t0] w K := ⟨slices_Backward_api_Entry_api_Entry_en, h⟩

def slices_Backward_api_Entry_api_Entry_1_w (K : Value → World → Prop) (t0 t1 : Value) (w : World) : Prop :=
  Bn Tryz.prog (Instr.loadAt 46 t1) w fun t4 w_1 =>
  Bn Tryz.prog (Builtin.len_ #[46] 3 #[t4]) w_1 fun t5 w_2 =>
  Pu Tryz.prog (bopS Go.BinOp.sub 3 (Go.Operand.tmp 5) (Go.Operand.const (Go.Value.int Go.IntKind.i64 1)) t5 (Go.Value.int Go.IntKind.i64 1)) fun t6 =>
  ∃ (I : Value → World → Prop) (μ : Value → World → Nat), I t6 w_2 ∧
   ∀ (u7 u8 u11 u12 u13 u14 u15 u16 u17 u18 u9 u10 u3 : Value) (w_3 : World), I u3 w_3 →
   Pu Tryz.prog (bopS Go.BinOp.geq 3 (Go.Operand.tmp 7) (Go.Operand.const (Go.Value.int Go.IntKind.i64 0)) u3 (Go.Value.int Go.IntKind.i64 0)) fun t8 =>
   condV t8
    (Bn Tryz.prog (Instr.loadAt 46 t1) w_3 fun t13 w_4 =>
   Pu Tryz.prog (Instr.indexAt 46 t13 u3) fun t15 =>
   Bn Tryz.prog (Instr.loadAt 58 t15) w_4 fun t16 w_5 =>
   Clv Tryz.prog t0 #[u3, t16] w_5 fun t17 w_6 =>
   Pu Tryz.prog (Op.unary Go.UnOp.not t17) fun t18 =>
   condV t18
    (K (Value.tuple #[]) w_6)
    (Pu Tryz.prog (bopS Go.BinOp.sub 3 (Go.Operand.tmp 9) (Go.Operand.const (Go.Value.int Go.IntKind.i64 1)) u3 (Go.Value.int Go.IntKind.i64 1)) fun t10 =>
   I t10 w_6 ∧ μ t10 w_6 < μ u3 w_3))
    (K (Value.tuple #[]) w_3)

def slices_Backward_api_Entry_api_Entry_1_ann : Ann :=
  { loop := fun r => match r with | 1 => [3] | _ => [],
    plan := fun _ => .done,
    hold := fun _ => fun _ => false,
    join := fun _ => none }

theorem slices_Backward_api_Entry_api_Entry_1_ok {K : Value → World → Prop} {t0 t1 : Value} {w : World} (h : slices_Backward_api_Entry_api_Entry_1_w K t0 t1 w) : Calls Tryz.prog 88 #[t0, t1] w (Rt K) :=
  calls_of_wpC (A := slices_Backward_api_Entry_api_Entry_1_ann) (c := Tryz.f88.body.getD .skip) (args := [t0, t1]) mixed Tryz.func88 rfl (by kernel_rfl) (Eq.mp (by kernel_rfl) h)

theorem slices_Backward_api_Entry_api_Entry_1_en : enters Tryz.prog 88 = true := by kernel_rfl

theorem slices_Backward_api_Entry_api_Entry_1_cl {K : Value → World → Prop} {t0 t1 : Value} {w : World} (h : Calls Tryz.prog 88 #[t0, t1] w (Rt K)) : Cl Tryz.prog 88 #[t0, t1] w K := ⟨slices_Backward_api_Entry_api_Entry_1_en, h⟩

def alumref10_Over_w (K : Value → World → Prop) (t0 : Value) (w : World) : Prop :=
  Pu Tryz.prog (Instr.build 50 #[(0, t0)]) fun t4 =>
  Bn Tryz.prog (Instr.box 50 t4) w fun t5 w_1 =>
  K t5 w_1

def alumref10_Over_ann : Ann :=
  { loop := fun _ => [],
    plan := fun _ => .done,
    hold := fun _ => fun _ => false,
    join := fun _ => none }

theorem alumref10_Over_ok {K : Value → World → Prop} {t0 : Value} {w : World} (h : alumref10_Over_w K t0 w) : Calls Tryz.prog 10 #[t0] w (Rt K) :=
  calls_of_wpC (A := alumref10_Over_ann) (c := Tryz.f10.body.getD .skip) (args := [t0]) mixed Tryz.func10 rfl (by kernel_rfl) (Eq.mp (by kernel_rfl) h)

theorem alumref10_Over_en : enters Tryz.prog 10 = true := by kernel_rfl

theorem alumref10_Over_cl {K : Value → World → Prop} {t0 : Value} {w : World} (h : Calls Tryz.prog 10 #[t0] w (Rt K)) : Cl Tryz.prog 10 #[t0] w K := ⟨alumref10_Over_en, h⟩

def alumref10_Last_w (K : Value → World → Prop) (t0 t1 : Value) (w : World) : Prop :=
  Bn Tryz.prog (Builtin.len_ #[46] 3 #[t0]) w fun t8 w_1 =>
  Pu Tryz.prog (bopS Go.BinOp.sub 3 (Go.Operand.tmp 8) (Go.Operand.const (Go.Value.int Go.IntKind.i64 1)) t8 (Go.Value.int Go.IntKind.i64 1)) fun t9 =>
  ∃ (I : Value → World → Prop) (μ : Value → World → Nat), I t9 w_1 ∧
   ∀ (u10 u11 u14 u15 u16 u17 u18 u19 u20 u21 u22 u23 u24 u25 u4 u5 u12 u13 u6 : Value) (w_2 : World), I u6 w_2 →
   Pu Tryz.prog (bopS Go.BinOp.geq 3 (Go.Operand.tmp 10) (Go.Operand.const (Go.Value.int Go.IntKind.i64 0)) u6 (Go.Value.int Go.IntKind.i64 0)) fun t11 =>
   condV t11
    (Pu Tryz.prog (Instr.indexAt 46 t0 u6) fun t16 =>
   Pu Tryz.prog (Instr.fieldAt 58 t16 0) fun t17 =>
   Bn Tryz.prog (Instr.loadAt 3 t17) w_2 fun t18 w_3 =>
   Pu Tryz.prog (bopS Go.BinOp.eql 3 (Go.Operand.tmp 18) (Go.Operand.tmp 19) t18 t1) fun t20 =>
   condV t20
    (Pu Tryz.prog (Instr.indexAt 46 t0 u6) fun t23 =>
    Pu Tryz.prog (Instr.fieldAt 58 t23 1) fun t24 =>
    Bn Tryz.prog (Instr.loadAt 3 t24) w_3 fun t25 w_4 =>
    K (Value.tuple #[t25, (Go.Value.bool true)]) w_4)
    (Pu Tryz.prog (bopS Go.BinOp.sub 3 (Go.Operand.tmp 12) (Go.Operand.const (Go.Value.int Go.IntKind.i64 1)) u6 (Go.Value.int Go.IntKind.i64 1)) fun t13 =>
   I t13 w_3 ∧ μ t13 w_3 < μ u6 w_2))
    (K (Value.tuple #[(Go.Value.int Go.IntKind.i64 0), (Go.Value.bool false)]) w_2)

def alumref10_Last_ann : Ann :=
  { loop := fun r => match r with | 2 => [6] | _ => [],
    plan := fun _ => .done,
    hold := fun _ => fun _ => false,
    join := fun _ => none }

theorem alumref10_Last_ok {K : Value → World → Prop} {t0 t1 : Value} {w : World} (h : alumref10_Last_w K t0 t1 w) : Calls Tryz.prog 52 #[t0, t1] w (Rt K) :=
  calls_of_wpC (A := alumref10_Last_ann) (c := Tryz.f52.body.getD .skip) (args := [t0, t1]) mixed Tryz.func52 rfl (by kernel_rfl) (Eq.mp (by kernel_rfl) h)

theorem alumref10_Last_en : enters Tryz.prog 52 = true := by kernel_rfl

theorem alumref10_Last_cl {K : Value → World → Prop} {t0 t1 : Value} {w : World} (h : Calls Tryz.prog 52 #[t0, t1] w (Rt K)) : Cl Tryz.prog 52 #[t0, t1] w K := ⟨alumref10_Last_en, h⟩

def alumref10_View_Load_w (K : Value → World → Prop) (t0 t1 : Value) (w : World) : Prop :=
  Pu Tryz.prog (nilC t0) fun t10 =>
  Pu Tryz.prog (Instr.fieldAt 50 t10 1) fun t11 =>
  Bn Tryz.prog (Instr.loadAt 46 t11) w fun t12 w_1 =>
  Cl Tryz.prog 52 #[t12, t1] w_1 fun t14 w_2 =>
  Pu Tryz.prog (Instr.extract t14 0) fun t15 =>
  Pu Tryz.prog (Instr.extract t14 1) fun t16 =>
  condV t16
   (K (Value.tuple #[t15, (Go.Value.int Go.IntKind.i64 0)]) w_2)
   (Pu Tryz.prog (nilC t0) fun t20 =>
  Pu Tryz.prog (Instr.fieldAt 50 t20 0) fun t21 =>
  Bn Tryz.prog (Instr.loadAt 27 t21) w_2 fun t22 w_3 =>
  Cl Tryz.prog 53 #[t22, t1] w_3 fun t24 w_4 =>
  Pu Tryz.prog (Instr.extract t24 0) fun t25 =>
  Pu Tryz.prog (Instr.extract t24 1) fun t26 =>
  K (Value.tuple #[t25, t26]) w_4)

def alumref10_View_Load_ann : Ann :=
  { loop := fun _ => [],
    plan := fun _ => .done,
    hold := fun _ => fun _ => false,
    join := fun _ => none }

theorem alumref10_View_Load_ok {K : Value → World → Prop} {t0 t1 : Value} {w : World} (h : alumref10_View_Load_w K t0 t1 w) : Calls Tryz.prog 12 #[t0, t1] w (Rt K) :=
  calls_of_wpC (A := alumref10_View_Load_ann) (c := Tryz.f12.body.getD .skip) (args := [t0, t1]) mixed Tryz.func12 rfl (by kernel_rfl) (Eq.mp (by kernel_rfl) h)

theorem alumref10_View_Load_en : enters Tryz.prog 12 = true := by kernel_rfl

theorem alumref10_View_Load_cl {K : Value → World → Prop} {t0 t1 : Value} {w : World} (h : Calls Tryz.prog 12 #[t0, t1] w (Rt K)) : Cl Tryz.prog 12 #[t0, t1] w K := ⟨alumref10_View_Load_en, h⟩

def alumref10_has_w (K : Value → World → Prop) (t0 t1 : Value) (w : World) : Prop :=
  Pu Tryz.prog (bopS Go.BinOp.geq 3 (Go.Operand.tmp 5) (Go.Operand.const (Go.Value.int Go.IntKind.i64 0)) t1 (Go.Value.int Go.IntKind.i64 0)) fun t6 =>
  condV t6
  (Pu Tryz.prog (bopS Go.BinOp.quo 3 (Go.Operand.tmp 8) (Go.Operand.const (Go.Value.int Go.IntKind.i64 8)) t1 (Go.Value.int Go.IntKind.i64 8)) fun t9 =>
  Pu Tryz.prog (nilC t0) fun t11 =>
  Pu Tryz.prog (Instr.fieldAt 33 t11 0) fun t12 =>
  Bn Tryz.prog (Instr.loadAt 30 t12) w fun t13 w_1 =>
  Bn Tryz.prog (Builtin.len_ #[30] 3 #[t13]) w_1 fun t14 w_2 =>
  Pu Tryz.prog (bopS Go.BinOp.lss 3 (Go.Operand.tmp 9) (Go.Operand.tmp 14) t9 t14) fun t15 =>
  K t15 w_2)
  (K (Go.Value.bool false) w)

def alumref10_has_ann : Ann :=
  { loop := fun _ => [],
    plan := fun _ => .done,
    hold := fun _ => fun _ => false,
    join := fun _ => none }

theorem alumref10_has_ok {K : Value → World → Prop} {t0 t1 : Value} {w : World} (h : alumref10_has_w K t0 t1 w) : Calls Tryz.prog 55 #[t0, t1] w (Rt K) :=
  calls_of_wpC (A := alumref10_has_ann) (c := Tryz.f55.body.getD .skip) (args := [t0, t1]) mixed Tryz.func55 rfl (by kernel_rfl) (Eq.mp (by kernel_rfl) h)

theorem alumref10_has_en : enters Tryz.prog 55 = true := by kernel_rfl

theorem alumref10_has_cl {K : Value → World → Prop} {t0 t1 : Value} {w : World} (h : Calls Tryz.prog 55 #[t0, t1] w (Rt K)) : Cl Tryz.prog 55 #[t0, t1] w K := ⟨alumref10_has_en, h⟩

def alumref10_View_Set_w (K : Value → World → Prop) (t0 t1 t2 : Value) (w : World) : Prop :=
  Pu Tryz.prog (nilC t0) fun t8 =>
  Pu Tryz.prog (Instr.fieldAt 50 t8 0) fun t9 =>
  Bn Tryz.prog (Instr.loadAt 27 t9) w fun t10 w_1 =>
  Cl Tryz.prog 55 #[t10, t1] w_1 fun t12 w_2 =>
  Pu Tryz.prog (Op.unary Go.UnOp.not t12) fun t13 =>
  condV t13
   (K (Go.Value.int Go.IntKind.i64 40) w_2)
   (Pu Tryz.prog (bopS Go.BinOp.lss 3 (Go.Operand.tmp 14) (Go.Operand.const (Go.Value.int Go.IntKind.i64 0)) t2 (Go.Value.int Go.IntKind.i64 0)) fun t15 =>
  condV t15
  (K (Go.Value.int Go.IntKind.i64 1) w_2)
  (Pu Tryz.prog (bopS Go.BinOp.gtr 3 (Go.Operand.tmp 17) (Go.Operand.const (Go.Value.int Go.IntKind.i64 1099511627775)) t2 (Go.Value.int Go.IntKind.i64 1099511627775)) fun t18 =>
  condV t18
   (K (Go.Value.int Go.IntKind.i64 1) w_2)
   (Pu Tryz.prog (nilC t0) fun t22 =>
  Pu Tryz.prog (Instr.fieldAt 50 t22 1) fun t23 =>
  Bn Tryz.prog (Instr.loadAt 46 t23) w_2 fun t24 w_3 =>
  Pu Tryz.prog (Instr.build 58 #[(0, t1), (1, t2)]) fun t27 =>
  Bn Tryz.prog (Instr.buildSlice 46 1 #[(0, t27)]) w_3 fun t28 w_4 =>
  Bn Tryz.prog (Builtin.append_ #[46, 46] 46 #[t24, t28]) w_4 fun t29 w_5 =>
  Pu Tryz.prog (nilC t0) fun t30 =>
  Pu Tryz.prog (Instr.fieldAt 50 t30 1) fun t31 =>
  Bn Tryz.prog (unitV (Instr.storeAt 46 t31 t29)) w_5 fun _ w_6 =>
  K (Go.Value.int Go.IntKind.i64 0) w_6)))

def alumref10_View_Set_ann : Ann :=
  { loop := fun _ => [],
    plan := fun _ => .done,
    hold := fun _ => fun _ => false,
    join := fun _ => none }

theorem alumref10_View_Set_ok {K : Value → World → Prop} {t0 t1 t2 : Value} {w : World} (h : alumref10_View_Set_w K t0 t1 t2 w) : Calls Tryz.prog 16 #[t0, t1, t2] w (Rt K) :=
  calls_of_wpC (A := alumref10_View_Set_ann) (c := Tryz.f16.body.getD .skip) (args := [t0, t1, t2]) mixed Tryz.func16 rfl (by kernel_rfl) (Eq.mp (by kernel_rfl) h)

theorem alumref10_View_Set_en : enters Tryz.prog 16 = true := by kernel_rfl

theorem alumref10_View_Set_cl {K : Value → World → Prop} {t0 t1 t2 : Value} {w : World} (h : Calls Tryz.prog 16 #[t0, t1, t2] w (Rt K)) : Cl Tryz.prog 16 #[t0, t1, t2] w K := ⟨alumref10_View_Set_en, h⟩

def alumref10_View_Back_w (K : Value → World → Prop) (t0 t1 : Value) (w : World) : Prop :=
  Pu Tryz.prog (nilC t0) fun t6 =>
  Pu Tryz.prog (Instr.fieldAt 50 t6 1) fun t7 =>
  Bn Tryz.prog (Instr.loadAt 46 t7) w fun t8 w_1 =>
  Bn Tryz.prog (Builtin.len_ #[46] 3 #[t8]) w_1 fun t9 w_2 =>
  Pu Tryz.prog (bopS Go.BinOp.lss 3 (Go.Operand.tmp 4) (Go.Operand.tmp 9) t1 t9) fun t10 =>
  condV t10
   (Bn Tryz.prog (Instr.buildSlice 46 0 #[]) w_2 fun t12 w_3 =>
   Pu Tryz.prog (nilC t0) fun t14 =>
   Pu Tryz.prog (Instr.fieldAt 50 t14 1) fun t15 =>
   Bn Tryz.prog (Instr.loadAt 46 t15) w_3 fun t16 w_4 =>
   Pu Tryz.prog (Builtin.max_ #[3, 3] 3 #[t1, (Go.Value.int Go.IntKind.i64 0)]) fun t18 =>
   Pu Tryz.prog (Instr.sliceAt 46 t16 none (some t18) none) fun t19 =>
   Bn Tryz.prog (Builtin.append_ #[46, 46] 46 #[t12, t19]) w_4 fun t20 w_5 =>
   Pu Tryz.prog (nilC t0) fun t21 =>
   Pu Tryz.prog (Instr.fieldAt 50 t21 1) fun t22 =>
   Bn Tryz.prog (unitV (Instr.storeAt 46 t22 t20)) w_5 fun _ w_6 =>
   K (Value.tuple #[]) w_6)
   (K (Value.tuple #[]) w_2)

def alumref10_View_Back_ann : Ann :=
  { loop := fun _ => [],
    plan := fun _ => .done,
    hold := fun _ => fun _ => false,
    join := fun _ => none }

theorem alumref10_View_Back_ok {K : Value → World → Prop} {t0 t1 : Value} {w : World} (h : alumref10_View_Back_w K t0 t1 w) : Calls Tryz.prog 14 #[t0, t1] w (Rt K) :=
  calls_of_wpC (A := alumref10_View_Back_ann) (c := Tryz.f14.body.getD .skip) (args := [t0, t1]) mixed Tryz.func14 rfl (by kernel_rfl) (Eq.mp (by kernel_rfl) h)

theorem alumref10_View_Back_en : enters Tryz.prog 14 = true := by kernel_rfl

theorem alumref10_View_Back_cl {K : Value → World → Prop} {t0 t1 : Value} {w : World} (h : Calls Tryz.prog 14 #[t0, t1] w (Rt K)) : Cl Tryz.prog 14 #[t0, t1] w K := ⟨alumref10_View_Back_en, h⟩

def alumref10_with_w (K : Value → World → Prop) (t0 t1 : Value) (w : World) : Prop :=
  Bn Tryz.prog (Instr.box 58 t1) w fun t3 w_1 =>
  ∃ (I : Value → Value → Value → World → Prop) (μ : Value → Value → Value → World → Nat), I (Go.Value.slice none 0 0) (Go.Value.bool false) (Go.Value.int Go.IntKind.i64 0) w_1 ∧
   ∀ (u8 u9 u10 u11 u14 u15 u16 u17 u18 u19 u20 u21 u22 u23 u24 u25 u26 u27 u28 u29 u6 u30 u31 u32 u33 u34 u35 u36 u37 u38 u39 u40 u41 u42 u43 u44 u5 u12 u13 u7 : Value) (w_2 : World), I u5 u6 u7 w_2 →
   Bn Tryz.prog (Builtin.len_ #[46] 3 #[t0]) w_2 fun t10 w_3 =>
   Pu Tryz.prog (bopS Go.BinOp.lss 3 (Go.Operand.tmp 8) (Go.Operand.tmp 10) u7 t10) fun t11 =>
   condV t11
    (∃ S R : World → Prop, S w_3.drew ∧ (∀ w_4, S w_4 → R w_4) ∧
   Pu Tryz.prog (Op.unary Go.UnOp.not u6) fun t15 =>
   condV t15
   (Pu Tryz.prog (Instr.indexAt 46 t0 u7) fun t19 =>
   Pu Tryz.prog (Instr.fieldAt 58 t19 0) fun t20 =>
   Pu Tryz.prog (Instr.fieldAt 58 t3 0) fun t22 =>
   ∃ t21, (∀ w_5, R w_5 → (Instr.loadAt 3 t20).run Tryz.prog w_5 = .ok t21 w_5) ∧
   ∃ t23, (∀ w_6, R w_6 → (Instr.loadAt 3 t22).run Tryz.prog w_6 = .ok t23 w_6) ∧
   Pu Tryz.prog (bopS Go.BinOp.geq 3 (Go.Operand.tmp 21) (Go.Operand.tmp 23) t21 t23) fun t24 =>
   ∀ w_7, S w_7 →
   condV t24
    (Bn Tryz.prog (Instr.loadAt 58 t3) w_7 fun t27 w_8 =>
    Bn Tryz.prog (Instr.buildSlice 46 1 #[(0, t27)]) w_8 fun t28 w_9 =>
    Bn Tryz.prog (Builtin.append_ #[46, 46] 46 #[u5, t28]) w_9 fun t29 w_10 =>
    ∃ S_1 R_1 : World → Prop, S_1 w_10.drew ∧ (∀ w_11, S_1 w_11 → R_1 w_11) ∧
   Pu Tryz.prog (Instr.indexAt 46 t0 u7) fun t32 =>
   Pu Tryz.prog (Instr.fieldAt 58 t32 0) fun t33 =>
   Pu Tryz.prog (Instr.fieldAt 58 t3 0) fun t35 =>
   ∃ t34, (∀ w_12, R_1 w_12 → (Instr.loadAt 3 t33).run Tryz.prog w_12 = .ok t34 w_12) ∧
   ∃ t36, (∀ w_13, R_1 w_13 → (Instr.loadAt 3 t35).run Tryz.prog w_13 = .ok t36 w_13) ∧
   Pu Tryz.prog (bopS Go.BinOp.neq 3 (Go.Operand.tmp 34) (Go.Operand.tmp 36) t34 t36) fun t37 =>
   ∀ w_14, S_1 w_14 →
   condV t37
    (Pu Tryz.prog (Instr.indexAt 46 t0 u7) fun t41 =>
    Bn Tryz.prog (Instr.loadAt 58 t41) w_14 fun t42 w_15 =>
    Bn Tryz.prog (Instr.buildSlice 46 1 #[(0, t42)]) w_15 fun t43 w_16 =>
    Bn Tryz.prog (Builtin.append_ #[46, 46] 46 #[t29, t43]) w_16 fun t44 w_17 =>
    Pu Tryz.prog (bopS Go.BinOp.add 3 (Go.Operand.tmp 12) (Go.Operand.const (Go.Value.int Go.IntKind.i64 1)) u7 (Go.Value.int Go.IntKind.i64 1)) fun t13 =>
   I t44 (Go.Value.bool true) t13 w_17 ∧ μ t44 (Go.Value.bool true) t13 w_17 < μ u5 u6 u7 w_2)
    (Pu Tryz.prog (bopS Go.BinOp.add 3 (Go.Operand.tmp 12) (Go.Operand.const (Go.Value.int Go.IntKind.i64 1)) u7 (Go.Value.int Go.IntKind.i64 1)) fun t13_1 =>
   I t29 (Go.Value.bool true) t13_1 w_14 ∧ μ t29 (Go.Value.bool true) t13_1 w_14 < μ u5 u6 u7 w_2))
    (∃ S_2 R_2 : World → Prop, S_2 w_7.drew ∧ (∀ w_18, S_2 w_18 → R_2 w_18) ∧
   Pu Tryz.prog (Instr.indexAt 46 t0 u7) fun t32_1 =>
   Pu Tryz.prog (Instr.fieldAt 58 t32_1 0) fun t33_1 =>
   Pu Tryz.prog (Instr.fieldAt 58 t3 0) fun t35_1 =>
   ∃ t34_1, (∀ w_19, R_2 w_19 → (Instr.loadAt 3 t33_1).run Tryz.prog w_19 = .ok t34_1 w_19) ∧
   ∃ t36_1, (∀ w_20, R_2 w_20 → (Instr.loadAt 3 t35_1).run Tryz.prog w_20 = .ok t36_1 w_20) ∧
   Pu Tryz.prog (bopS Go.BinOp.neq 3 (Go.Operand.tmp 34) (Go.Operand.tmp 36) t34_1 t36_1) fun t37_1 =>
   ∀ w_21, S_2 w_21 →
   condV t37_1
    (Pu Tryz.prog (Instr.indexAt 46 t0 u7) fun t41_1 =>
    Bn Tryz.prog (Instr.loadAt 58 t41_1) w_21 fun t42_1 w_22 =>
    Bn Tryz.prog (Instr.buildSlice 46 1 #[(0, t42_1)]) w_22 fun t43_1 w_23 =>
    Bn Tryz.prog (Builtin.append_ #[46, 46] 46 #[u5, t43_1]) w_23 fun t44_1 w_24 =>
    Pu Tryz.prog (bopS Go.BinOp.add 3 (Go.Operand.tmp 12) (Go.Operand.const (Go.Value.int Go.IntKind.i64 1)) u7 (Go.Value.int Go.IntKind.i64 1)) fun t13_2 =>
   I t44_1 u6 t13_2 w_24 ∧ μ t44_1 u6 t13_2 w_24 < μ u5 u6 u7 w_2)
    (Pu Tryz.prog (bopS Go.BinOp.add 3 (Go.Operand.tmp 12) (Go.Operand.const (Go.Value.int Go.IntKind.i64 1)) u7 (Go.Value.int Go.IntKind.i64 1)) fun t13_3 =>
   I u5 u6 t13_3 w_21 ∧ μ u5 u6 t13_3 w_21 < μ u5 u6 u7 w_2)))
   (∀ w_25, S w_25 →
   ∃ S_3 R_3 : World → Prop, S_3 w_25.drew ∧ (∀ w_26, S_3 w_26 → R_3 w_26) ∧
   Pu Tryz.prog (Instr.indexAt 46 t0 u7) fun t32_2 =>
   Pu Tryz.prog (Instr.fieldAt 58 t32_2 0) fun t33_2 =>
   Pu Tryz.prog (Instr.fieldAt 58 t3 0) fun t35_2 =>
   ∃ t34_2, (∀ w_27, R_3 w_27 → (Instr.loadAt 3 t33_2).run Tryz.prog w_27 = .ok t34_2 w_27) ∧
   ∃ t36_2, (∀ w_28, R_3 w_28 → (Instr.loadAt 3 t35_2).run Tryz.prog w_28 = .ok t36_2 w_28) ∧
   Pu Tryz.prog (bopS Go.BinOp.neq 3 (Go.Operand.tmp 34) (Go.Operand.tmp 36) t34_2 t36_2) fun t37_2 =>
   ∀ w_29, S_3 w_29 →
   condV t37_2
    (Pu Tryz.prog (Instr.indexAt 46 t0 u7) fun t41_2 =>
    Bn Tryz.prog (Instr.loadAt 58 t41_2) w_29 fun t42_2 w_30 =>
    Bn Tryz.prog (Instr.buildSlice 46 1 #[(0, t42_2)]) w_30 fun t43_2 w_31 =>
    Bn Tryz.prog (Builtin.append_ #[46, 46] 46 #[u5, t43_2]) w_31 fun t44_2 w_32 =>
    Pu Tryz.prog (bopS Go.BinOp.add 3 (Go.Operand.tmp 12) (Go.Operand.const (Go.Value.int Go.IntKind.i64 1)) u7 (Go.Value.int Go.IntKind.i64 1)) fun t13_4 =>
   I t44_2 u6 t13_4 w_32 ∧ μ t44_2 u6 t13_4 w_32 < μ u5 u6 u7 w_2)
    (Pu Tryz.prog (bopS Go.BinOp.add 3 (Go.Operand.tmp 12) (Go.Operand.const (Go.Value.int Go.IntKind.i64 1)) u7 (Go.Value.int Go.IntKind.i64 1)) fun t13_5 =>
   I u5 u6 t13_5 w_29 ∧ μ u5 u6 t13_5 w_29 < μ u5 u6 u7 w_2)))
    (Pu Tryz.prog (Op.unary Go.UnOp.not u6) fun t46 =>
  condV t46
   (Bn Tryz.prog (Instr.loadAt 58 t3) w_3 fun t48 w_33 =>
   Bn Tryz.prog (Instr.buildSlice 46 1 #[(0, t48)]) w_33 fun t49 w_34 =>
   Bn Tryz.prog (Builtin.append_ #[46, 46] 46 #[u5, t49]) w_34 fun t50 w_35 =>
   K t50 w_35)
   (K u5 w_3))

def alumref10_with_ann : Ann :=
  { loop := fun r => match r with | 4 => [5, 6, 7] | _ => [],
    plan := fun r => match r with | 6 => (.pure 0 (.pure 1 (.pure 2 (.pure 3 (.pure 4 (.pure 5 (.pure 6 (.pure 8 (.load 7 [7, 10, 11] (.load 9 [9, 10, 11] (.pure 10 (.pure 11 .done)))))))))))) | 9 => (.pure 0 (.pure 1 (.pure 2 (.pure 3 (.pure 5 (.load 4 [4, 7] (.load 6 [6, 7] (.pure 7 .done)))))))) | _ => .done,
    hold := fun r => match r with | 6 => (fun i => match i with | 9 => true | _ => false) | 9 => (fun i => match i with | 6 => true | _ => false) | _ => fun _ => false,
    join := fun _ => none }

theorem alumref10_with_ok {K : Value → World → Prop} {t0 t1 : Value} {w : World} (h : alumref10_with_w K t0 t1 w) : Calls Tryz.prog 57 #[t0, t1] w (Rt K) :=
  calls_of_wpC (A := alumref10_with_ann) (c := Tryz.f57.body.getD .skip) (args := [t0, t1]) mixed Tryz.func57 rfl (by kernel_rfl) (Eq.mp (by kernel_rfl) h)

theorem alumref10_with_en : enters Tryz.prog 57 = true := by kernel_rfl

theorem alumref10_with_cl {K : Value → World → Prop} {t0 t1 : Value} {w : World} (h : Calls Tryz.prog 57 #[t0, t1] w (Rt K)) : Cl Tryz.prog 57 #[t0, t1] w K := ⟨alumref10_with_en, h⟩

def alumref10_Merged_w (K : Value → World → Prop) (t0 : Value) (w : World) : Prop :=
  ∃ (I : Value → Value → World → Prop) (μ : Value → Value → World → Nat), I (Go.Value.slice none 0 0) (Go.Value.int Go.IntKind.i64 0) w ∧
   ∀ (u5 u6 u7 u8 u11 u12 u13 u14 u15 u16 u3 u9 u10 u4 : Value) (w_1 : World), I u3 u4 w_1 →
   Bn Tryz.prog (Builtin.len_ #[46] 3 #[t0]) w_1 fun t7 w_2 =>
   Pu Tryz.prog (bopS Go.BinOp.lss 3 (Go.Operand.tmp 5) (Go.Operand.tmp 7) u4 t7) fun t8 =>
   condV t8
    (Pu Tryz.prog (Instr.indexAt 46 t0 u4) fun t14 =>
   Bn Tryz.prog (Instr.loadAt 58 t14) w_2 fun t15 w_3 =>
   Cl Tryz.prog 57 #[u3, t15] w_3 fun t16 w_4 =>
   Pu Tryz.prog (bopS Go.BinOp.add 3 (Go.Operand.tmp 9) (Go.Operand.const (Go.Value.int Go.IntKind.i64 1)) u4 (Go.Value.int Go.IntKind.i64 1)) fun t10 =>
   I t16 t10 w_4 ∧ μ t16 t10 w_4 < μ u3 u4 w_1)
    (K u3 w_2)

def alumref10_Merged_ann : Ann :=
  { loop := fun r => match r with | 3 => [3, 4] | _ => [],
    plan := fun _ => .done,
    hold := fun _ => fun _ => false,
    join := fun _ => none }

theorem alumref10_Merged_ok {K : Value → World → Prop} {t0 : Value} {w : World} (h : alumref10_Merged_w K t0 w) : Calls Tryz.prog 19 #[t0] w (Rt K) :=
  calls_of_wpC (A := alumref10_Merged_ann) (c := Tryz.f19.body.getD .skip) (args := [t0]) mixed Tryz.func19 rfl (by kernel_rfl) (Eq.mp (by kernel_rfl) h)

theorem alumref10_Merged_en : enters Tryz.prog 19 = true := by kernel_rfl

theorem alumref10_Merged_cl {K : Value → World → Prop} {t0 : Value} {w : World} (h : Calls Tryz.prog 19 #[t0] w (Rt K)) : Cl Tryz.prog 19 #[t0] w K := ⟨alumref10_Merged_en, h⟩

def alumref10_Lines_w (K : Value → World → Prop) (t0 : Value) (w : World) : Prop :=
  Cl Tryz.prog 19 #[t0] w fun t8 w_1 =>
  ∃ (I : Value → Value → World → Prop) (μ : Value → Value → World → Nat), I (Go.Value.slice none 0 0) (Go.Value.int Go.IntKind.i64 0) w_1 ∧
   ∀ (u9 u10 u11 u12 u15 u16 u17 u18 u19 u20 u6 u21 u22 u23 u24 u25 u26 u27 u28 u29 u30 u31 u32 u33 u34 u35 u36 u37 u3 u13 u14 u5 : Value) (w_2 : World), I u3 u5 w_2 →
   Bn Tryz.prog (Builtin.len_ #[46] 3 #[t8]) w_2 fun t11 w_3 =>
   Pu Tryz.prog (bopS Go.BinOp.lss 3 (Go.Operand.tmp 9) (Go.Operand.tmp 11) u5 t11) fun t12 =>
   condV t12
    (Pu Tryz.prog (Instr.indexAt 46 t8 u5) fun t17 =>
   Pu Tryz.prog (Instr.fieldAt 58 t17 0) fun t18 =>
   Bn Tryz.prog (Instr.loadAt 3 t18) w_3 fun t19 w_4 =>
   Pu Tryz.prog (bopS Go.BinOp.quo 3 (Go.Operand.tmp 19) (Go.Operand.const (Go.Value.int Go.IntKind.i64 8)) t19 (Go.Value.int Go.IntKind.i64 8)) fun t20 =>
   Bn Tryz.prog (Builtin.len_ #[65] 3 #[u3]) w_4 fun t22 w_5 =>
   Pu Tryz.prog (bopS Go.BinOp.eql 3 (Go.Operand.tmp 22) (Go.Operand.const (Go.Value.int Go.IntKind.i64 0)) t22 (Go.Value.int Go.IntKind.i64 0)) fun t23 =>
   condV t23
   (Bn Tryz.prog (Instr.buildSlice 65 1 #[(0, t20)]) w_5 fun t36 w_6 =>
   Bn Tryz.prog (Builtin.append_ #[65, 65] 65 #[u3, t36]) w_6 fun t37 w_7 =>
   Pu Tryz.prog (bopS Go.BinOp.add 3 (Go.Operand.tmp 13) (Go.Operand.const (Go.Value.int Go.IntKind.i64 1)) u5 (Go.Value.int Go.IntKind.i64 1)) fun t14 =>
   I t37 t14 w_7 ∧ μ t37 t14 w_7 < μ u3 u5 w_2)
   (Bn Tryz.prog (Builtin.len_ #[65] 3 #[u3]) w_5 fun t27 w_8 =>
   Pu Tryz.prog (bopS Go.BinOp.sub 3 (Go.Operand.tmp 27) (Go.Operand.const (Go.Value.int Go.IntKind.i64 1)) t27 (Go.Value.int Go.IntKind.i64 1)) fun t28 =>
   Pu Tryz.prog (Instr.indexAt 65 u3 t28) fun t29 =>
   Bn Tryz.prog (Instr.loadAt 3 t29) w_8 fun t30 w_9 =>
   Pu Tryz.prog (bopS Go.BinOp.neq 3 (Go.Operand.tmp 30) (Go.Operand.tmp 31) t30 t20) fun t32 =>
   condV t32
    (Bn Tryz.prog (Instr.buildSlice 65 1 #[(0, t20)]) w_9 fun t36_1 w_10 =>
    Bn Tryz.prog (Builtin.append_ #[65, 65] 65 #[u3, t36_1]) w_10 fun t37_1 w_11 =>
    Pu Tryz.prog (bopS Go.BinOp.add 3 (Go.Operand.tmp 13) (Go.Operand.const (Go.Value.int Go.IntKind.i64 1)) u5 (Go.Value.int Go.IntKind.i64 1)) fun t14_1 =>
   I t37_1 t14_1 w_11 ∧ μ t37_1 t14_1 w_11 < μ u3 u5 w_2)
    (Pu Tryz.prog (bopS Go.BinOp.add 3 (Go.Operand.tmp 13) (Go.Operand.const (Go.Value.int Go.IntKind.i64 1)) u5 (Go.Value.int Go.IntKind.i64 1)) fun t14_2 =>
   I u3 t14_2 w_9 ∧ μ u3 t14_2 w_9 < μ u3 u5 w_2)))
    (K u3 w_3)

def alumref10_Lines_ann : Ann :=
  { loop := fun r => match r with | 4 => [3, 5] | _ => [],
    plan := fun _ => .done,
    hold := fun _ => fun _ => false,
    join := fun _ => none }

theorem alumref10_Lines_ok {K : Value → World → Prop} {t0 : Value} {w : World} (h : alumref10_Lines_w K t0 w) : Calls Tryz.prog 35 #[t0] w (Rt K) :=
  calls_of_wpC (A := alumref10_Lines_ann) (c := Tryz.f35.body.getD .skip) (args := [t0]) mixed Tryz.func35 rfl (by kernel_rfl) (Eq.mp (by kernel_rfl) h)

theorem alumref10_Lines_en : enters Tryz.prog 35 = true := by kernel_rfl

theorem alumref10_Lines_cl {K : Value → World → Prop} {t0 : Value} {w : World} (h : Calls Tryz.prog 35 #[t0] w (Rt K)) : Cl Tryz.prog 35 #[t0] w K := ⟨alumref10_Lines_en, h⟩

def alumref10_Check_w (K : Value → World → Prop) (t0 t1 : Value) (w : World) : Prop :=
  ∃ (I : Value → World → Prop) (μ : Value → World → Nat), I (Go.Value.int Go.IntKind.i64 0) w ∧
   ∀ (u8 u9 u10 u11 u14 u15 u16 u17 u18 u19 u20 u21 u4 u12 u13 u5 : Value) (w_1 : World), I u5 w_1 →
   Bn Tryz.prog (Builtin.len_ #[46] 3 #[t1]) w_1 fun t10 w_2 =>
   Pu Tryz.prog (bopS Go.BinOp.lss 3 (Go.Operand.tmp 8) (Go.Operand.tmp 10) u5 t10) fun t11 =>
   condV t11
    (Pu Tryz.prog (Instr.indexAt 46 t1 u5) fun t17 =>
   Pu Tryz.prog (Instr.fieldAt 58 t17 0) fun t18 =>
   Bn Tryz.prog (Instr.loadAt 3 t18) w_2 fun t19 w_3 =>
   Cl Tryz.prog 55 #[t0, t19] w_3 fun t20 w_4 =>
   Pu Tryz.prog (Op.unary Go.UnOp.not t20) fun t21 =>
   condV t21
    (K (Go.Value.int Go.IntKind.i64 40) w_4)
    (Pu Tryz.prog (bopS Go.BinOp.add 3 (Go.Operand.tmp 12) (Go.Operand.const (Go.Value.int Go.IntKind.i64 1)) u5 (Go.Value.int Go.IntKind.i64 1)) fun t13 =>
   I t13 w_4 ∧ μ t13 w_4 < μ u5 w_1))
    (∃ (I_1 : Value → World → Prop) (μ_1 : Value → World → Nat), I_1 (Go.Value.int Go.IntKind.i64 0) w_2 ∧
   ∀ (u22 u23 u24 u25 u28 u29 u30 u31 u32 u33 u34 u35 u36 u37 u38 u39 u40 u41 u4_1 u26 u27 u6 : Value) (w_5 : World), I_1 u6 w_5 →
   Bn Tryz.prog (Builtin.len_ #[46] 3 #[t1]) w_5 fun t24 w_6 =>
   Pu Tryz.prog (bopS Go.BinOp.lss 3 (Go.Operand.tmp 22) (Go.Operand.tmp 24) u6 t24) fun t25 =>
   condV t25
    (Pu Tryz.prog (Instr.indexAt 46 t1 u6) fun t30 =>
   Pu Tryz.prog (Instr.fieldAt 58 t30 1) fun t31 =>
   Bn Tryz.prog (Instr.loadAt 3 t31) w_6 fun t32 w_7 =>
   Pu Tryz.prog (bopS Go.BinOp.lss 3 (Go.Operand.tmp 32) (Go.Operand.const (Go.Value.int Go.IntKind.i64 0)) t32 (Go.Value.int Go.IntKind.i64 0)) fun t33 =>
   condV t33
   (K (Go.Value.int Go.IntKind.i64 1) w_7)
   (Pu Tryz.prog (Instr.indexAt 46 t1 u6) fun t37 =>
   Pu Tryz.prog (Instr.fieldAt 58 t37 1) fun t38 =>
   Bn Tryz.prog (Instr.loadAt 3 t38) w_7 fun t39 w_8 =>
   Pu Tryz.prog (bopS Go.BinOp.gtr 3 (Go.Operand.tmp 39) (Go.Operand.const (Go.Value.int Go.IntKind.i64 1099511627775)) t39 (Go.Value.int Go.IntKind.i64 1099511627775)) fun t40 =>
   condV t40
    (K (Go.Value.int Go.IntKind.i64 1) w_8)
    (Pu Tryz.prog (bopS Go.BinOp.add 3 (Go.Operand.tmp 26) (Go.Operand.const (Go.Value.int Go.IntKind.i64 1)) u6 (Go.Value.int Go.IntKind.i64 1)) fun t27 =>
   I_1 t27 w_8 ∧ μ_1 t27 w_8 < μ_1 u6 w_5)))
    (∃ (I_2 : Value → World → Prop) (μ_2 : Value → World → Nat), I_2 (Go.Value.int Go.IntKind.i64 0) w_6 ∧
   ∀ (u42 u43 u44 u45 u48 u49 u50 u51 u52 u53 u54 u55 u56 u4_2 u46 u47 u7 : Value) (w_9 : World), I_2 u7 w_9 →
   Bn Tryz.prog (Builtin.len_ #[46] 3 #[t1]) w_9 fun t44 w_10 =>
   Pu Tryz.prog (bopS Go.BinOp.lss 3 (Go.Operand.tmp 42) (Go.Operand.tmp 44) u7 t44) fun t45 =>
   condV t45
    (Pu Tryz.prog (Instr.indexAt 46 t1 u7) fun t51 =>
   Pu Tryz.prog (Instr.fieldAt 58 t51 0) fun t52 =>
   Bn Tryz.prog (Instr.loadAt 3 t52) w_10 fun t53 w_11 =>
   Pu Tryz.prog (bopS Go.BinOp.quo 3 (Go.Operand.tmp 53) (Go.Operand.const (Go.Value.int Go.IntKind.i64 8)) t53 (Go.Value.int Go.IntKind.i64 8)) fun t54 =>
   Cl Tryz.prog 64 #[t0, t54] w_11 fun t55 w_12 =>
   Pu Tryz.prog (bopS Go.BinOp.eql 3 (Go.Operand.tmp 55) (Go.Operand.const (Go.Value.int Go.IntKind.i64 2)) t55 (Go.Value.int Go.IntKind.i64 2)) fun t56 =>
   condV t56
    (K (Go.Value.int Go.IntKind.i64 9) w_12)
    (Pu Tryz.prog (bopS Go.BinOp.add 3 (Go.Operand.tmp 46) (Go.Operand.const (Go.Value.int Go.IntKind.i64 1)) u7 (Go.Value.int Go.IntKind.i64 1)) fun t47 =>
   I_2 t47 w_12 ∧ μ_2 t47 w_12 < μ_2 u7 w_9))
    (K (Go.Value.int Go.IntKind.i64 0) w_10)))

def alumref10_Check_ann : Ann :=
  { loop := fun r => match r with | 2 => [5] | 7 => [6] | 12 => [7] | _ => [],
    plan := fun _ => .done,
    hold := fun _ => fun _ => false,
    join := fun _ => none }

theorem alumref10_Check_ok {K : Value → World → Prop} {t0 t1 : Value} {w : World} (h : alumref10_Check_w K t0 t1 w) : Calls Tryz.prog 28 #[t0, t1] w (Rt K) :=
  calls_of_wpC (A := alumref10_Check_ann) (c := Tryz.f28.body.getD .skip) (args := [t0, t1]) mixed Tryz.func28 rfl (by kernel_rfl) (Eq.mp (by kernel_rfl) h)

theorem alumref10_Check_en : enters Tryz.prog 28 = true := by kernel_rfl

theorem alumref10_Check_cl {K : Value → World → Prop} {t0 t1 : Value} {w : World} (h : Calls Tryz.prog 28 #[t0, t1] w (Rt K)) : Cl Tryz.prog 28 #[t0, t1] w K := ⟨alumref10_Check_en, h⟩

def alumref10_Apply_w (K : Value → World → Prop) (t0 t1 : Value) (w : World) : Prop :=
  Cl Tryz.prog 28 #[t0, t1] w fun t11 w_1 =>
  Pu Tryz.prog (bopS Go.BinOp.neq 40 (Go.Operand.tmp 12) (Go.Operand.const (Go.Value.int Go.IntKind.i64 0)) t11 (Go.Value.int Go.IntKind.i64 0)) fun t13 =>
  condV t13
   (K t11 w_1)
   (∃ (I : Value → World → Prop) (μ : Value → World → Nat), I (Go.Value.int Go.IntKind.i64 0) w_1 ∧
   ∀ (u15 u16 u17 u18 u21 u22 u23 u24 u25 u26 u27 u28 u29 u30 u31 u32 u19 u20 u6 : Value) (w_2 : World), I u6 w_2 →
   Bn Tryz.prog (Builtin.len_ #[46] 3 #[t1]) w_2 fun t17 w_3 =>
   Pu Tryz.prog (bopS Go.BinOp.lss 3 (Go.Operand.tmp 15) (Go.Operand.tmp 17) u6 t17) fun t18 =>
   condV t18
    (∃ S R : World → Prop, S w_3.drew ∧ (∀ w_4, S w_4 → R w_4) ∧
   Pu Tryz.prog (Instr.indexAt 46 t1 u6) fun t24 =>
   Pu Tryz.prog (Instr.fieldAt 58 t24 0) fun t25 =>
   Pu Tryz.prog (Instr.indexAt 46 t1 u6) fun t29 =>
   Pu Tryz.prog (Instr.fieldAt 58 t29 1) fun t30 =>
   ∃ t26, (∀ w_5, R w_5 → (Instr.loadAt 3 t25).run Tryz.prog w_5 = .ok t26 w_5) ∧
   ∃ t31, (∀ w_6, R w_6 → (Instr.loadAt 3 t30).run Tryz.prog w_6 = .ok t31 w_6) ∧
   (∀ w_7, S w_7 →
   Cl Tryz.prog 26 #[t0, t26, t31] w_7 fun t32 w_8 =>
   ∃ S_1 R_1 : World → Prop, S_1 w_8 ∧ (∀ w_10, S_1 w_10 → R_1 w_10) ∧ True ∧
   ∀ w_11, S_1 w_11 →
   Pu Tryz.prog (bopS Go.BinOp.add 3 (Go.Operand.tmp 19) (Go.Operand.const (Go.Value.int Go.IntKind.i64 1)) u6 (Go.Value.int Go.IntKind.i64 1)) fun t20 =>
   I t20 w_11 ∧ μ t20 w_11 < μ u6 w_2) ∧
   True)
    (Cl Tryz.prog 35 #[t1] w_3 fun t34 w_12 =>
  ∃ (I_1 : Value → World → Prop) (μ_1 : Value → World → Nat), I_1 (Go.Value.int Go.IntKind.i64 0) w_12 ∧
   ∀ (u35 u36 u37 u38 u41 u42 u43 u44 u45 u46 u39 u40 u8 : Value) (w_13 : World), I_1 u8 w_13 →
   Bn Tryz.prog (Builtin.len_ #[65] 3 #[t34]) w_13 fun t37 w_14 =>
   Pu Tryz.prog (bopS Go.BinOp.lss 3 (Go.Operand.tmp 35) (Go.Operand.tmp 37) u8 t37) fun t38 =>
   condV t38
    (Pu Tryz.prog (Instr.indexAt 65 t34 u8) fun t44 =>
   Bn Tryz.prog (Instr.loadAt 3 t44) w_14 fun t45 w_15 =>
   Cl Tryz.prog 72 #[t0, t45] w_15 fun t46 w_16 =>
   Pu Tryz.prog (bopS Go.BinOp.add 3 (Go.Operand.tmp 39) (Go.Operand.const (Go.Value.int Go.IntKind.i64 1)) u8 (Go.Value.int Go.IntKind.i64 1)) fun t40 =>
   I_1 t40 w_16 ∧ μ_1 t40 w_16 < μ_1 u8 w_13)
    (Cl Tryz.prog 73 #[t0] w_14 fun t48 w_17 =>
  K (Go.Value.int Go.IntKind.i64 0) w_17)))

def alumref10_Apply_ann : Ann :=
  { loop := fun r => match r with | 5 => [6] | 10 => [8] | _ => [],
    plan := fun r => match r with | 7 => (.pure 0 (.pure 1 (.pure 2 (.pure 3 (.pure 4 (.pure 6 (.pure 7 (.pure 8 (.pure 9 (.load 5 [5, 11] (.load 10 [10, 11] (.alt 11 .done .stop)))))))))))) | _ => .done,
    hold := fun r => match r with | 7 => (fun i => match i with | 10 => true | _ => false) | _ => fun _ => false,
    join := fun _ => none }

theorem alumref10_Apply_ok {K : Value → World → Prop} {t0 t1 : Value} {w : World} (h : alumref10_Apply_w K t0 t1 w) : Calls Tryz.prog 33 #[t0, t1] w (Rt K) :=
  calls_of_wpC (A := alumref10_Apply_ann) (c := Tryz.f33.body.getD .skip) (args := [t0, t1]) mixed Tryz.func33 rfl (by kernel_rfl) (Eq.mp (by kernel_rfl) h)

theorem alumref10_Apply_en : enters Tryz.prog 33 = true := by kernel_rfl

theorem alumref10_Apply_cl {K : Value → World → Prop} {t0 t1 : Value} {w : World} (h : Calls Tryz.prog 33 #[t0, t1] w (Rt K)) : Cl Tryz.prog 33 #[t0, t1] w K := ⟨alumref10_Apply_en, h⟩

def alumref10_Same_w (K : Value → World → Prop) (t0 t1 : Value) (w : World) : Prop :=
  Bn Tryz.prog (Builtin.len_ #[46] 3 #[t0]) w fun t7 w_1 =>
  Bn Tryz.prog (Builtin.len_ #[46] 3 #[t1]) w_1 fun t9 w_2 =>
  Pu Tryz.prog (bopS Go.BinOp.neq 3 (Go.Operand.tmp 7) (Go.Operand.tmp 9) t7 t9) fun t10 =>
  condV t10
   (K (Go.Value.bool false) w_2)
   (∃ (I : Value → World → Prop) (μ : Value → World → Nat), I (Go.Value.int Go.IntKind.i64 0) w_2 ∧
   ∀ (u11 u12 u13 u14 u17 u18 u19 u20 u21 u22 u23 u24 u25 u4 u15 u16 u5 : Value) (w_3 : World), I u5 w_3 →
   Bn Tryz.prog (Builtin.len_ #[46] 3 #[t0]) w_3 fun t13 w_4 =>
   Pu Tryz.prog (bopS Go.BinOp.lss 3 (Go.Operand.tmp 11) (Go.Operand.tmp 13) u5 t13) fun t14 =>
   condV t14
    (∃ S R : World → Prop, S w_4.drew ∧ (∀ w_5, S w_5 → R w_5) ∧
   Pu Tryz.prog (Instr.indexAt 46 t0 u5) fun t19 =>
   Pu Tryz.prog (Instr.indexAt 46 t1 u5) fun t23 =>
   ∃ t20, (∀ w_6, R w_6 → (Instr.loadAt 58 t19).run Tryz.prog w_6 = .ok t20 w_6) ∧
   ∃ t24, (∀ w_7, R w_7 → (Instr.loadAt 58 t23).run Tryz.prog w_7 = .ok t24 w_7) ∧
   Pu Tryz.prog (bopS Go.BinOp.neq 58 (Go.Operand.tmp 20) (Go.Operand.tmp 24) t20 t24) fun t25 =>
   ∀ w_8, S w_8 →
   condV t25
    (K (Go.Value.bool false) w_8)
    (Pu Tryz.prog (bopS Go.BinOp.add 3 (Go.Operand.tmp 15) (Go.Operand.const (Go.Value.int Go.IntKind.i64 1)) u5 (Go.Value.int Go.IntKind.i64 1)) fun t16 =>
   I t16 w_8 ∧ μ t16 w_8 < μ u5 w_3))
    (K (Go.Value.bool true) w_4))

def alumref10_Same_ann : Ann :=
  { loop := fun r => match r with | 4 => [5] | _ => [],
    plan := fun r => match r with | 6 => (.pure 0 (.pure 1 (.pure 2 (.pure 4 (.pure 5 (.pure 6 (.load 3 [3, 8] (.load 7 [7, 8] (.pure 8 .done))))))))) | _ => .done,
    hold := fun r => match r with | 6 => (fun i => match i with | 7 => true | _ => false) | _ => fun _ => false,
    join := fun _ => none }

theorem alumref10_Same_ok {K : Value → World → Prop} {t0 t1 : Value} {w : World} (h : alumref10_Same_w K t0 t1 w) : Calls Tryz.prog 17 #[t0, t1] w (Rt K) :=
  calls_of_wpC (A := alumref10_Same_ann) (c := Tryz.f17.body.getD .skip) (args := [t0, t1]) mixed Tryz.func17 rfl (by kernel_rfl) (Eq.mp (by kernel_rfl) h)

theorem alumref10_Same_en : enters Tryz.prog 17 = true := by kernel_rfl

theorem alumref10_Same_cl {K : Value → World → Prop} {t0 t1 : Value} {w : World} (h : Calls Tryz.prog 17 #[t0, t1] w (Rt K)) : Cl Tryz.prog 17 #[t0, t1] w K := ⟨alumref10_Same_en, h⟩

end Go.Proofs.YtlolaieolgmdnaaGreatDoor
