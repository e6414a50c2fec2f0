import Derived.Test.YtlolaieolgmdnaaGreatDoorSh1
import Derived.Test.YtlolaieolgmdnaaGreatDoorProg
import Derived.KernelRfl
namespace Go.Proofs.YtlolaieolgmdnaaGreatDoor
open Go.RowKit
set_option linter.unusedVariables false
set_option maxRecDepth 100000



def alumlaw10_sanity_w (K : Value → World → Prop) (w : World) : Prop :=
  Cl Tryz.prog 47 #[(Go.Value.int Go.IntKind.i64 2)] w fun t12 w_1 =>
  Cl Tryz.prog 9 #[t12] w_1 fun t14 w_2 =>
  Pu Tryz.prog (bopS Go.BinOp.eql 25 (Go.Operand.tmp 15) (Go.Operand.const (Go.Value.pointer none)) t12 (Go.Value.pointer none)) fun t16 =>
  condV t16
  (K (Go.Value.bool false) w_2)
  (Pu Tryz.prog (bopS Go.BinOp.eql 34 (Go.Operand.tmp 18) (Go.Operand.const (Go.Value.pointer none)) t14 (Go.Value.pointer none)) fun t19 =>
  condV t19
   (K (Go.Value.bool false) w_2)
   (Cl Tryz.prog 15 #[t14, (Go.Value.int Go.IntKind.i64 9), (Go.Value.int Go.IntKind.i64 5)] w_2 fun t22 w_3 =>
  Cl Tryz.prog 15 #[t14, (Go.Value.int Go.IntKind.i64 3), (Go.Value.int Go.IntKind.i64 1)] w_3 fun t24 w_4 =>
  Cl Tryz.prog 15 #[t14, (Go.Value.int Go.IntKind.i64 9), (Go.Value.int Go.IntKind.i64 7)] w_4 fun t26 w_5 =>
  Cl Tryz.prog 11 #[t14, (Go.Value.int Go.IntKind.i64 9)] w_5 fun t29 w_6 =>
  Pu Tryz.prog (Instr.extract t29 0) fun t30 =>
  Pu Tryz.prog (Instr.extract t29 1) fun t31 =>
  Pu Tryz.prog (Instr.build 58 #[(0, (Go.Value.int Go.IntKind.i64 3)), (1, (Go.Value.int Go.IntKind.i64 1))]) fun t32 =>
  Pu Tryz.prog (Instr.build 58 #[(0, (Go.Value.int Go.IntKind.i64 9)), (1, (Go.Value.int Go.IntKind.i64 7))]) fun t33 =>
  Bn Tryz.prog (Instr.buildSlice 46 2 #[(0, t32), (1, t33)]) w_6 fun t34 w_7 =>
  Pu Tryz.prog (bopS Go.BinOp.eql 3 (Go.Operand.tmp 35) (Go.Operand.const (Go.Value.int Go.IntKind.i64 7)) t30 (Go.Value.int Go.IntKind.i64 7)) fun t36 =>
  condV t36
  (Pu Tryz.prog (bopS Go.BinOp.eql 40 (Go.Operand.tmp 38) (Go.Operand.const (Go.Value.int Go.IntKind.i64 0)) t31 (Go.Value.int Go.IntKind.i64 0)) fun t39 =>
  condV t39
  (Cl Tryz.prog 18 #[t14] w_7 fun t43 w_8 =>
  Cl Tryz.prog 17 #[t43, t34] w_8 fun t45 w_9 =>
  condV t45
  (Pu Tryz.prog (nilC t14) fun t49 =>
  Pu Tryz.prog (Instr.fieldAt 96 t49 0) fun t50 =>
  Bn Tryz.prog (Instr.loadAt 94 t50) w_9 fun t51 w_10 =>
  Cl Tryz.prog 48 #[t51] w_10 fun t52 w_11 =>
  Pu Tryz.prog (bopS Go.BinOp.eql 25 (Go.Operand.tmp 52) (Go.Operand.tmp 53) t52 t12) fun t54 =>
  Cl Tryz.prog 13 #[t14, (Go.Value.int Go.IntKind.i64 2)] w_11 fun t57 w_12 =>
  Cl Tryz.prog 11 #[t14, (Go.Value.int Go.IntKind.i64 9)] w_12 fun t60 w_13 =>
  Pu Tryz.prog (Instr.extract t60 0) fun t61 =>
  Pu Tryz.prog (Instr.extract t60 1) fun t62 =>
  Pu Tryz.prog (bopS Go.BinOp.eql 3 (Go.Operand.tmp 63) (Go.Operand.const (Go.Value.int Go.IntKind.i64 5)) t61 (Go.Value.int Go.IntKind.i64 5)) fun t64 =>
  condV t64
  (Cl Tryz.prog 20 #[t14] w_13 fun t67 w_14 =>
  Pu Tryz.prog (bopS Go.BinOp.eql 3 (Go.Operand.tmp 67) (Go.Operand.const (Go.Value.int Go.IntKind.i64 2)) t67 (Go.Value.int Go.IntKind.i64 2)) fun t68 =>
  Pu Tryz.prog (Instr.build 58 #[(0, (Go.Value.int Go.IntKind.i64 9)), (1, (Go.Value.int Go.IntKind.i64 5))]) fun t70 =>
  Pu Tryz.prog (Instr.build 58 #[(0, (Go.Value.int Go.IntKind.i64 3)), (1, (Go.Value.int Go.IntKind.i64 1))]) fun t71 =>
  Bn Tryz.prog (Instr.buildSlice 46 2 #[(0, t70), (1, t71)]) w_14 fun t72 w_15 =>
  Pu Tryz.prog (Instr.build 99 #[(1, t72)]) fun t73 =>
  Pu Tryz.prog (Instr.build 58 #[(0, (Go.Value.int Go.IntKind.i64 9)), (1, (Go.Value.int Go.IntKind.i64 7))]) fun t74 =>
  Bn Tryz.prog (Instr.buildSlice 46 1 #[(0, t74)]) w_15 fun t75 w_16 =>
  Pu Tryz.prog (Instr.build 99 #[(1, t75)]) fun t76 =>
  Bn Tryz.prog (Instr.buildSlice 100 2 #[(0, t73), (1, t76)]) w_16 fun t77 w_17 =>
  Cl Tryz.prog 49 #[t77] w_17 fun t78 w_18 =>
  Pu Tryz.prog (Instr.build 58 #[(0, (Go.Value.int Go.IntKind.i64 9))]) fun t79 =>
  Pu Tryz.prog (Instr.build 58 #[(0, (Go.Value.int Go.IntKind.i64 3))]) fun t80 =>
  Pu Tryz.prog (Instr.build 58 #[(0, (Go.Value.int Go.IntKind.i64 8))]) fun t81 =>
  Bn Tryz.prog (Instr.buildSlice 46 3 #[(0, t79), (1, t80), (2, t81)]) w_18 fun t82 w_19 =>
  Cl Tryz.prog 50 #[t82] w_19 fun t83 w_20 =>
  condV t54
  (condV t68
  (Cl Tryz.prog 17 #[t78, t34] w_20 fun t91 w_21 =>
  condV t91
  (Bn Tryz.prog (Builtin.len_ #[65] 3 #[t83]) w_21 fun t95 w_22 =>
  Pu Tryz.prog (bopS Go.BinOp.eql 3 (Go.Operand.tmp 95) (Go.Operand.const (Go.Value.int Go.IntKind.i64 2)) t95 (Go.Value.int Go.IntKind.i64 2)) fun t96 =>
  condV t96
  (Pu Tryz.prog (Instr.indexAt 65 t83 (Go.Value.int Go.IntKind.i64 0)) fun t100 =>
  Bn Tryz.prog (Instr.loadAt 3 t100) w_22 fun t101 w_23 =>
  Pu Tryz.prog (bopS Go.BinOp.eql 3 (Go.Operand.tmp 101) (Go.Operand.const (Go.Value.int Go.IntKind.i64 0)) t101 (Go.Value.int Go.IntKind.i64 0)) fun t102 =>
  condV t102
  (Pu Tryz.prog (Instr.indexAt 65 t83 (Go.Value.int Go.IntKind.i64 1)) fun t106 =>
  Bn Tryz.prog (Instr.loadAt 3 t106) w_23 fun t107 w_24 =>
  Pu Tryz.prog (bopS Go.BinOp.eql 3 (Go.Operand.tmp 107) (Go.Operand.const (Go.Value.int Go.IntKind.i64 1)) t107 (Go.Value.int Go.IntKind.i64 1)) fun t108 =>
  K t108 w_24)
  (K (Go.Value.bool false) w_23))
  (K (Go.Value.bool false) w_22))
  (K (Go.Value.bool false) w_21))
  (K (Go.Value.bool false) w_20))
  (K (Go.Value.bool false) w_20))
  (Pu Tryz.prog (Instr.build 58 #[(0, (Go.Value.int Go.IntKind.i64 9)), (1, (Go.Value.int Go.IntKind.i64 5))]) fun t70_1 =>
  Pu Tryz.prog (Instr.build 58 #[(0, (Go.Value.int Go.IntKind.i64 3)), (1, (Go.Value.int Go.IntKind.i64 1))]) fun t71_1 =>
  Bn Tryz.prog (Instr.buildSlice 46 2 #[(0, t70_1), (1, t71_1)]) w_13 fun t72_1 w_25 =>
  Pu Tryz.prog (Instr.build 99 #[(1, t72_1)]) fun t73_1 =>
  Pu Tryz.prog (Instr.build 58 #[(0, (Go.Value.int Go.IntKind.i64 9)), (1, (Go.Value.int Go.IntKind.i64 7))]) fun t74_1 =>
  Bn Tryz.prog (Instr.buildSlice 46 1 #[(0, t74_1)]) w_25 fun t75_1 w_26 =>
  Pu Tryz.prog (Instr.build 99 #[(1, t75_1)]) fun t76_1 =>
  Bn Tryz.prog (Instr.buildSlice 100 2 #[(0, t73_1), (1, t76_1)]) w_26 fun t77_1 w_27 =>
  Cl Tryz.prog 49 #[t77_1] w_27 fun t78_1 w_28 =>
  Pu Tryz.prog (Instr.build 58 #[(0, (Go.Value.int Go.IntKind.i64 9))]) fun t79_1 =>
  Pu Tryz.prog (Instr.build 58 #[(0, (Go.Value.int Go.IntKind.i64 3))]) fun t80_1 =>
  Pu Tryz.prog (Instr.build 58 #[(0, (Go.Value.int Go.IntKind.i64 8))]) fun t81_1 =>
  Bn Tryz.prog (Instr.buildSlice 46 3 #[(0, t79_1), (1, t80_1), (2, t81_1)]) w_28 fun t82_1 w_29 =>
  Cl Tryz.prog 50 #[t82_1] w_29 fun t83_1 w_30 =>
  condV t54
  (K (Go.Value.bool false) w_30)
  (K (Go.Value.bool false) w_30)))
  (Cl Tryz.prog 13 #[t14, (Go.Value.int Go.IntKind.i64 2)] w_9 fun t57_1 w_31 =>
  Cl Tryz.prog 11 #[t14, (Go.Value.int Go.IntKind.i64 9)] w_31 fun t60_1 w_32 =>
  Pu Tryz.prog (Instr.extract t60_1 0) fun t61_1 =>
  Pu Tryz.prog (Instr.extract t60_1 1) fun t62_1 =>
  Pu Tryz.prog (bopS Go.BinOp.eql 3 (Go.Operand.tmp 63) (Go.Operand.const (Go.Value.int Go.IntKind.i64 5)) t61_1 (Go.Value.int Go.IntKind.i64 5)) fun t64_1 =>
  condV t64_1
  (Cl Tryz.prog 20 #[t14] w_32 fun t67_1 w_33 =>
  Pu Tryz.prog (bopS Go.BinOp.eql 3 (Go.Operand.tmp 67) (Go.Operand.const (Go.Value.int Go.IntKind.i64 2)) t67_1 (Go.Value.int Go.IntKind.i64 2)) fun t68_1 =>
  Pu Tryz.prog (Instr.build 58 #[(0, (Go.Value.int Go.IntKind.i64 9)), (1, (Go.Value.int Go.IntKind.i64 5))]) fun t70_2 =>
  Pu Tryz.prog (Instr.build 58 #[(0, (Go.Value.int Go.IntKind.i64 3)), (1, (Go.Value.int Go.IntKind.i64 1))]) fun t71_2 =>
  Bn Tryz.prog (Instr.buildSlice 46 2 #[(0, t70_2), (1, t71_2)]) w_33 fun t72_2 w_34 =>
  Pu Tryz.prog (Instr.build 99 #[(1, t72_2)]) fun t73_2 =>
  Pu Tryz.prog (Instr.build 58 #[(0, (Go.Value.int Go.IntKind.i64 9)), (1, (Go.Value.int Go.IntKind.i64 7))]) fun t74_2 =>
  Bn Tryz.prog (Instr.buildSlice 46 1 #[(0, t74_2)]) w_34 fun t75_2 w_35 =>
  Pu Tryz.prog (Instr.build 99 #[(1, t75_2)]) fun t76_2 =>
  Bn Tryz.prog (Instr.buildSlice 100 2 #[(0, t73_2), (1, t76_2)]) w_35 fun t77_2 w_36 =>
  Cl Tryz.prog 49 #[t77_2] w_36 fun t78_2 w_37 =>
  Pu Tryz.prog (Instr.build 58 #[(0, (Go.Value.int Go.IntKind.i64 9))]) fun t79_2 =>
  Pu Tryz.prog (Instr.build 58 #[(0, (Go.Value.int Go.IntKind.i64 3))]) fun t80_2 =>
  Pu Tryz.prog (Instr.build 58 #[(0, (Go.Value.int Go.IntKind.i64 8))]) fun t81_2 =>
  Bn Tryz.prog (Instr.buildSlice 46 3 #[(0, t79_2), (1, t80_2), (2, t81_2)]) w_37 fun t82_2 w_38 =>
  Cl Tryz.prog 50 #[t82_2] w_38 fun t83_2 w_39 =>
  K (Go.Value.bool false) w_39)
  (Pu Tryz.prog (Instr.build 58 #[(0, (Go.Value.int Go.IntKind.i64 9)), (1, (Go.Value.int Go.IntKind.i64 5))]) fun t70_3 =>
  Pu Tryz.prog (Instr.build 58 #[(0, (Go.Value.int Go.IntKind.i64 3)), (1, (Go.Value.int Go.IntKind.i64 1))]) fun t71_3 =>
  Bn Tryz.prog (Instr.buildSlice 46 2 #[(0, t70_3), (1, t71_3)]) w_32 fun t72_3 w_40 =>
  Pu Tryz.prog (Instr.build 99 #[(1, t72_3)]) fun t73_3 =>
  Pu Tryz.prog (Instr.build 58 #[(0, (Go.Value.int Go.IntKind.i64 9)), (1, (Go.Value.int Go.IntKind.i64 7))]) fun t74_3 =>
  Bn Tryz.prog (Instr.buildSlice 46 1 #[(0, t74_3)]) w_40 fun t75_3 w_41 =>
  Pu Tryz.prog (Instr.build 99 #[(1, t75_3)]) fun t76_3 =>
  Bn Tryz.prog (Instr.buildSlice 100 2 #[(0, t73_3), (1, t76_3)]) w_41 fun t77_3 w_42 =>
  Cl Tryz.prog 49 #[t77_3] w_42 fun t78_3 w_43 =>
  Pu Tryz.prog (Instr.build 58 #[(0, (Go.Value.int Go.IntKind.i64 9))]) fun t79_3 =>
  Pu Tryz.prog (Instr.build 58 #[(0, (Go.Value.int Go.IntKind.i64 3))]) fun t80_3 =>
  Pu Tryz.prog (Instr.build 58 #[(0, (Go.Value.int Go.IntKind.i64 8))]) fun t81_3 =>
  Bn Tryz.prog (Instr.buildSlice 46 3 #[(0, t79_3), (1, t80_3), (2, t81_3)]) w_43 fun t82_3 w_44 =>
  Cl Tryz.prog 50 #[t82_3] w_44 fun t83_3 w_45 =>
  K (Go.Value.bool false) w_45)))
  (Cl Tryz.prog 13 #[t14, (Go.Value.int Go.IntKind.i64 2)] w_7 fun t57_2 w_46 =>
  Cl Tryz.prog 11 #[t14, (Go.Value.int Go.IntKind.i64 9)] w_46 fun t60_2 w_47 =>
  Pu Tryz.prog (Instr.extract t60_2 0) fun t61_2 =>
  Pu Tryz.prog (Instr.extract t60_2 1) fun t62_2 =>
  Pu Tryz.prog (bopS Go.BinOp.eql 3 (Go.Operand.tmp 63) (Go.Operand.const (Go.Value.int Go.IntKind.i64 5)) t61_2 (Go.Value.int Go.IntKind.i64 5)) fun t64_2 =>
  condV t64_2
  (Cl Tryz.prog 20 #[t14] w_47 fun t67_2 w_48 =>
  Pu Tryz.prog (bopS Go.BinOp.eql 3 (Go.Operand.tmp 67) (Go.Operand.const (Go.Value.int Go.IntKind.i64 2)) t67_2 (Go.Value.int Go.IntKind.i64 2)) fun t68_2 =>
  Pu Tryz.prog (Instr.build 58 #[(0, (Go.Value.int Go.IntKind.i64 9)), (1, (Go.Value.int Go.IntKind.i64 5))]) fun t70_4 =>
  Pu Tryz.prog (Instr.build 58 #[(0, (Go.Value.int Go.IntKind.i64 3)), (1, (Go.Value.int Go.IntKind.i64 1))]) fun t71_4 =>
  Bn Tryz.prog (Instr.buildSlice 46 2 #[(0, t70_4), (1, t71_4)]) w_48 fun t72_4 w_49 =>
  Pu Tryz.prog (Instr.build 99 #[(1, t72_4)]) fun t73_4 =>
  Pu Tryz.prog (Instr.build 58 #[(0, (Go.Value.int Go.IntKind.i64 9)), (1, (Go.Value.int Go.IntKind.i64 7))]) fun t74_4 =>
  Bn Tryz.prog (Instr.buildSlice 46 1 #[(0, t74_4)]) w_49 fun t75_4 w_50 =>
  Pu Tryz.prog (Instr.build 99 #[(1, t75_4)]) fun t76_4 =>
  Bn Tryz.prog (Instr.buildSlice 100 2 #[(0, t73_4), (1, t76_4)]) w_50 fun t77_4 w_51 =>
  Cl Tryz.prog 49 #[t77_4] w_51 fun t78_4 w_52 =>
  Pu Tryz.prog (Instr.build 58 #[(0, (Go.Value.int Go.IntKind.i64 9))]) fun t79_4 =>
  Pu Tryz.prog (Instr.build 58 #[(0, (Go.Value.int Go.IntKind.i64 3))]) fun t80_4 =>
  Pu Tryz.prog (Instr.build 58 #[(0, (Go.Value.int Go.IntKind.i64 8))]) fun t81_4 =>
  Bn Tryz.prog (Instr.buildSlice 46 3 #[(0, t79_4), (1, t80_4), (2, t81_4)]) w_52 fun t82_4 w_53 =>
  Cl Tryz.prog 50 #[t82_4] w_53 fun t83_4 w_54 =>
  K (Go.Value.bool false) w_54)
  (Pu Tryz.prog (Instr.build 58 #[(0, (Go.Value.int Go.IntKind.i64 9)), (1, (Go.Value.int Go.IntKind.i64 5))]) fun t70_5 =>
  Pu Tryz.prog (Instr.build 58 #[(0, (Go.Value.int Go.IntKind.i64 3)), (1, (Go.Value.int Go.IntKind.i64 1))]) fun t71_5 =>
  Bn Tryz.prog (Instr.buildSlice 46 2 #[(0, t70_5), (1, t71_5)]) w_47 fun t72_5 w_55 =>
  Pu Tryz.prog (Instr.build 99 #[(1, t72_5)]) fun t73_5 =>
  Pu Tryz.prog (Instr.build 58 #[(0, (Go.Value.int Go.IntKind.i64 9)), (1, (Go.Value.int Go.IntKind.i64 7))]) fun t74_5 =>
  Bn Tryz.prog (Instr.buildSlice 46 1 #[(0, t74_5)]) w_55 fun t75_5 w_56 =>
  Pu Tryz.prog (Instr.build 99 #[(1, t75_5)]) fun t76_5 =>
  Bn Tryz.prog (Instr.buildSlice 100 2 #[(0, t73_5), (1, t76_5)]) w_56 fun t77_5 w_57 =>
  Cl Tryz.prog 49 #[t77_5] w_57 fun t78_5 w_58 =>
  Pu Tryz.prog (Instr.build 58 #[(0, (Go.Value.int Go.IntKind.i64 9))]) fun t79_5 =>
  Pu Tryz.prog (Instr.build 58 #[(0, (Go.Value.int Go.IntKind.i64 3))]) fun t80_5 =>
  Pu Tryz.prog (Instr.build 58 #[(0, (Go.Value.int Go.IntKind.i64 8))]) fun t81_5 =>
  Bn Tryz.prog (Instr.buildSlice 46 3 #[(0, t79_5), (1, t80_5), (2, t81_5)]) w_58 fun t82_5 w_59 =>
  Cl Tryz.prog 50 #[t82_5] w_59 fun t83_5 w_60 =>
  K (Go.Value.bool false) w_60)))
  (Cl Tryz.prog 13 #[t14, (Go.Value.int Go.IntKind.i64 2)] w_7 fun t57_3 w_61 =>
  Cl Tryz.prog 11 #[t14, (Go.Value.int Go.IntKind.i64 9)] w_61 fun t60_3 w_62 =>
  Pu Tryz.prog (Instr.extract t60_3 0) fun t61_3 =>
  Pu Tryz.prog (Instr.extract t60_3 1) fun t62_3 =>
  Pu Tryz.prog (bopS Go.BinOp.eql 3 (Go.Operand.tmp 63) (Go.Operand.const (Go.Value.int Go.IntKind.i64 5)) t61_3 (Go.Value.int Go.IntKind.i64 5)) fun t64_3 =>
  condV t64_3
  (Cl Tryz.prog 20 #[t14] w_62 fun t67_3 w_63 =>
  Pu Tryz.prog (bopS Go.BinOp.eql 3 (Go.Operand.tmp 67) (Go.Operand.const (Go.Value.int Go.IntKind.i64 2)) t67_3 (Go.Value.int Go.IntKind.i64 2)) fun t68_3 =>
  Pu Tryz.prog (Instr.build 58 #[(0, (Go.Value.int Go.IntKind.i64 9)), (1, (Go.Value.int Go.IntKind.i64 5))]) fun t70_6 =>
  Pu Tryz.prog (Instr.build 58 #[(0, (Go.Value.int Go.IntKind.i64 3)), (1, (Go.Value.int Go.IntKind.i64 1))]) fun t71_6 =>
  Bn Tryz.prog (Instr.buildSlice 46 2 #[(0, t70_6), (1, t71_6)]) w_63 fun t72_6 w_64 =>
  Pu Tryz.prog (Instr.build 99 #[(1, t72_6)]) fun t73_6 =>
  Pu Tryz.prog (Instr.build 58 #[(0, (Go.Value.int Go.IntKind.i64 9)), (1, (Go.Value.int Go.IntKind.i64 7))]) fun t74_6 =>
  Bn Tryz.prog (Instr.buildSlice 46 1 #[(0, t74_6)]) w_64 fun t75_6 w_65 =>
  Pu Tryz.prog (Instr.build 99 #[(1, t75_6)]) fun t76_6 =>
  Bn Tryz.prog (Instr.buildSlice 100 2 #[(0, t73_6), (1, t76_6)]) w_65 fun t77_6 w_66 =>
  Cl Tryz.prog 49 #[t77_6] w_66 fun t78_6 w_67 =>
  Pu Tryz.prog (Instr.build 58 #[(0, (Go.Value.int Go.IntKind.i64 9))]) fun t79_6 =>
  Pu Tryz.prog (Instr.build 58 #[(0, (Go.Value.int Go.IntKind.i64 3))]) fun t80_6 =>
  Pu Tryz.prog (Instr.build 58 #[(0, (Go.Value.int Go.IntKind.i64 8))]) fun t81_6 =>
  Bn Tryz.prog (Instr.buildSlice 46 3 #[(0, t79_6), (1, t80_6), (2, t81_6)]) w_67 fun t82_6 w_68 =>
  Cl Tryz.prog 50 #[t82_6] w_68 fun t83_6 w_69 =>
  K (Go.Value.bool false) w_69)
  (Pu Tryz.prog (Instr.build 58 #[(0, (Go.Value.int Go.IntKind.i64 9)), (1, (Go.Value.int Go.IntKind.i64 5))]) fun t70_7 =>
  Pu Tryz.prog (Instr.build 58 #[(0, (Go.Value.int Go.IntKind.i64 3)), (1, (Go.Value.int Go.IntKind.i64 1))]) fun t71_7 =>
  Bn Tryz.prog (Instr.buildSlice 46 2 #[(0, t70_7), (1, t71_7)]) w_62 fun t72_7 w_70 =>
  Pu Tryz.prog (Instr.build 99 #[(1, t72_7)]) fun t73_7 =>
  Pu Tryz.prog (Instr.build 58 #[(0, (Go.Value.int Go.IntKind.i64 9)), (1, (Go.Value.int Go.IntKind.i64 7))]) fun t74_7 =>
  Bn Tryz.prog (Instr.buildSlice 46 1 #[(0, t74_7)]) w_70 fun t75_7 w_71 =>
  Pu Tryz.prog (Instr.build 99 #[(1, t75_7)]) fun t76_7 =>
  Bn Tryz.prog (Instr.buildSlice 100 2 #[(0, t73_7), (1, t76_7)]) w_71 fun t77_7 w_72 =>
  Cl Tryz.prog 49 #[t77_7] w_72 fun t78_7 w_73 =>
  Pu Tryz.prog (Instr.build 58 #[(0, (Go.Value.int Go.IntKind.i64 9))]) fun t79_7 =>
  Pu Tryz.prog (Instr.build 58 #[(0, (Go.Value.int Go.IntKind.i64 3))]) fun t80_7 =>
  Pu Tryz.prog (Instr.build 58 #[(0, (Go.Value.int Go.IntKind.i64 8))]) fun t81_7 =>
  Bn Tryz.prog (Instr.buildSlice 46 3 #[(0, t79_7), (1, t80_7), (2, t81_7)]) w_73 fun t82_7 w_74 =>
  Cl Tryz.prog 50 #[t82_7] w_74 fun t83_7 w_75 =>
  K (Go.Value.bool false) w_75))))

def alumlaw10_sanity_ann : Ann :=
  { loop := fun _ => [],
    plan := fun _ => .done,
    hold := fun _ => fun _ => false,
    join := fun _ => none }

theorem alumlaw10_sanity_ok {K : Value → World → Prop} {w : World} (h : alumlaw10_sanity_w K w) : Calls Tryz.prog 8 #[] w (Rt K) :=
  calls_of_wpC (A := alumlaw10_sanity_ann) (c := Tryz.f8.body.getD .skip) (args := []) mixed Tryz.func8 rfl (by kernel_rfl) (Eq.mp (by kernel_rfl) h)

theorem alumlaw10_sanity_en : enters Tryz.prog 8 = true := by kernel_rfl

theorem alumlaw10_sanity_cl {K : Value → World → Prop} {w : World} (h : Calls Tryz.prog 8 #[] w (Rt K)) : Cl Tryz.prog 8 #[] w K := ⟨alumlaw10_sanity_en, h⟩

def alumlaw10_few_w (K : Value → World → Prop) (t0 : Value) (w : World) : Prop :=
  Bn Tryz.prog (Builtin.len_ #[46] 3 #[t0]) w fun t4 w_1 =>
  Pu Tryz.prog (bopS Go.BinOp.leq 3 (Go.Operand.tmp 4) (Go.Operand.const (Go.Value.int Go.IntKind.i64 60)) t4 (Go.Value.int Go.IntKind.i64 60)) fun t5 =>
  K t5 w_1

def alumlaw10_few_ann : Ann :=
  { loop := fun _ => [],
    plan := fun _ => .done,
    hold := fun _ => fun _ => false,
    join := fun _ => none }

theorem alumlaw10_few_ok {K : Value → World → Prop} {t0 : Value} {w : World} (h : alumlaw10_few_w K t0 w) : Calls Tryz.prog 24 #[t0] w (Rt K) :=
  calls_of_wpC (A := alumlaw10_few_ann) (c := Tryz.f24.body.getD .skip) (args := [t0]) mixed Tryz.func24 rfl (by kernel_rfl) (Eq.mp (by kernel_rfl) h)

theorem alumlaw10_few_en : enters Tryz.prog 24 = true := by kernel_rfl

theorem alumlaw10_few_cl {K : Value → World → Prop} {t0 : Value} {w : World} (h : Calls Tryz.prog 24 #[t0] w (Rt K)) : Cl Tryz.prog 24 #[t0] w K := ⟨alumlaw10_few_en, h⟩

def alumlaw10_play_w (K : Value → World → Prop) (t0 t1 : Value) (w : World) : Prop :=
  Bn Tryz.prog (Builtin.len_ #[31] 3 #[t1]) w fun t7 w_1 =>
  ∃ (I : Value → World → Prop) (μ : Value → World → Nat), I (Go.Value.int Go.IntKind.i64 0) w_1 ∧
   ∀ (u9 u10 u11 u5 u12 u13 u15 u14 u16 u17 u18 u19 u20 u21 u23 u22 u24 u25 u26 u27 u28 u29 u31 u30 u32 u33 u34 u35 u37 u36 u38 u39 u41 u40 u42 u43 u44 u45 u46 u47 u49 u48 u50 u51 u52 u53 u54 u55 u56 u8 : Value) (w_2 : World), I u8 w_2 →
   Pu Tryz.prog (bopS Go.BinOp.lss 3 (Go.Operand.tmp 8) (Go.Operand.tmp 7) u8 t7) fun t9 =>
   condV t9
    (Pu Tryz.prog (Instr.indexAt 31 t1 u8) fun t10 =>
   Bn Tryz.prog (Instr.loadAt 111 t10) w_2 fun t11 w_3 =>
   Bn Tryz.prog (Instr.alloc 111 true (Value.tuple #[])) w_3 fun t5 w_4 =>
   Bn Tryz.prog (unitV (Instr.storeAt 111 t5 t11)) w_4 fun _ w_5 =>
   Pu Tryz.prog (Instr.fieldAt 111 t5 0) fun t12 =>
   Bn Tryz.prog (Instr.loadAt 3 t12) w_5 fun t13 w_6 =>
   Pu Tryz.prog (bopS Go.BinOp.eql 3 (Go.Operand.tmp 13) (Go.Operand.const (Go.Value.int Go.IntKind.i64 1)) t13 (Go.Value.int Go.IntKind.i64 1)) fun t15 =>
   condV t15
    (Pu Tryz.prog (Instr.fieldAt 111 t5 1) fun t17 =>
    Bn Tryz.prog (Instr.loadAt 3 t17) w_6 fun t18 w_7 =>
    Pu Tryz.prog (Instr.fieldAt 111 t5 2) fun t19 =>
    Bn Tryz.prog (Instr.loadAt 3 t19) w_7 fun t20 w_8 =>
    Cl Tryz.prog 25 #[t0, t18, t20] w_8 fun t21 w_9 =>
    Pu Tryz.prog (bopS Go.BinOp.add 3 (Go.Operand.tmp 8) (Go.Operand.const (Go.Value.int Go.IntKind.i64 1)) u8 (Go.Value.int Go.IntKind.i64 1)) fun t56 =>
   I t56 w_9 ∧ μ t56 w_9 < μ u8 w_2)
    (Pu Tryz.prog (bopS Go.BinOp.eql 3 (Go.Operand.tmp 13) (Go.Operand.const (Go.Value.int Go.IntKind.i64 2)) t13 (Go.Value.int Go.IntKind.i64 2)) fun t23 =>
    condV t23
     (Pu Tryz.prog (Instr.fieldAt 111 t5 1) fun t25 =>
     Bn Tryz.prog (Instr.loadAt 3 t25) w_6 fun t26 w_10 =>
     Pu Tryz.prog (Instr.fieldAt 111 t5 2) fun t27 =>
     Bn Tryz.prog (Instr.loadAt 3 t27) w_10 fun t28 w_11 =>
     Cl Tryz.prog 78 #[t0, t26, t28] w_11 fun t29 w_12 =>
     Pu Tryz.prog (bopS Go.BinOp.add 3 (Go.Operand.tmp 8) (Go.Operand.const (Go.Value.int Go.IntKind.i64 1)) u8 (Go.Value.int Go.IntKind.i64 1)) fun t56_1 =>
   I t56_1 w_12 ∧ μ t56_1 w_12 < μ u8 w_2)
     (Pu Tryz.prog (bopS Go.BinOp.eql 3 (Go.Operand.tmp 13) (Go.Operand.const (Go.Value.int Go.IntKind.i64 3)) t13 (Go.Value.int Go.IntKind.i64 3)) fun t31 =>
     condV t31
      (Pu Tryz.prog (Instr.fieldAt 111 t5 1) fun t33 =>
      Bn Tryz.prog (Instr.loadAt 3 t33) w_6 fun t34 w_13 =>
      Cl Tryz.prog 69 #[t0, t34] w_13 fun t35 w_14 =>
      Pu Tryz.prog (bopS Go.BinOp.add 3 (Go.Operand.tmp 8) (Go.Operand.const (Go.Value.int Go.IntKind.i64 1)) u8 (Go.Value.int Go.IntKind.i64 1)) fun t56_2 =>
   I t56_2 w_14 ∧ μ t56_2 w_14 < μ u8 w_2)
      (Pu Tryz.prog (bopS Go.BinOp.eql 3 (Go.Operand.tmp 13) (Go.Operand.const (Go.Value.int Go.IntKind.i64 4)) t13 (Go.Value.int Go.IntKind.i64 4)) fun t37 =>
      condV t37
       (Cl Tryz.prog 70 #[t0] w_6 fun t39 w_15 =>
       Pu Tryz.prog (bopS Go.BinOp.add 3 (Go.Operand.tmp 8) (Go.Operand.const (Go.Value.int Go.IntKind.i64 1)) u8 (Go.Value.int Go.IntKind.i64 1)) fun t56_3 =>
   I t56_3 w_15 ∧ μ t56_3 w_15 < μ u8 w_2)
       (Pu Tryz.prog (bopS Go.BinOp.eql 3 (Go.Operand.tmp 13) (Go.Operand.const (Go.Value.int Go.IntKind.i64 5)) t13 (Go.Value.int Go.IntKind.i64 5)) fun t41 =>
       condV t41
        (Pu Tryz.prog (Instr.fieldAt 111 t5 1) fun t43 =>
        Bn Tryz.prog (Instr.loadAt 3 t43) w_6 fun t44 w_16 =>
        Pu Tryz.prog (Instr.fieldAt 111 t5 2) fun t45 =>
        Bn Tryz.prog (Instr.loadAt 3 t45) w_16 fun t46 w_17 =>
        Cl Tryz.prog 79 #[t0, t44, t46] w_17 fun t47 w_18 =>
        Pu Tryz.prog (bopS Go.BinOp.add 3 (Go.Operand.tmp 8) (Go.Operand.const (Go.Value.int Go.IntKind.i64 1)) u8 (Go.Value.int Go.IntKind.i64 1)) fun t56_4 =>
   I t56_4 w_18 ∧ μ t56_4 w_18 < μ u8 w_2)
        (Pu Tryz.prog (bopS Go.BinOp.eql 3 (Go.Operand.tmp 13) (Go.Operand.const (Go.Value.int Go.IntKind.i64 6)) t13 (Go.Value.int Go.IntKind.i64 6)) fun t49 =>
        condV t49
         (Pu Tryz.prog (Instr.fieldAt 111 t5 1) fun t51 =>
         Bn Tryz.prog (Instr.loadAt 3 t51) w_6 fun t52 w_19 =>
         Pu Tryz.prog (Instr.fieldAt 111 t5 4) fun t53 =>
         Bn Tryz.prog (Instr.loadAt 80 t53) w_19 fun t54 w_20 =>
         Cl Tryz.prog 80 #[t0, t52, t54] w_20 fun t55 w_21 =>
         Pu Tryz.prog (bopS Go.BinOp.add 3 (Go.Operand.tmp 8) (Go.Operand.const (Go.Value.int Go.IntKind.i64 1)) u8 (Go.Value.int Go.IntKind.i64 1)) fun t56_5 =>
   I t56_5 w_21 ∧ μ t56_5 w_21 < μ u8 w_2)
         (Pu Tryz.prog (bopS Go.BinOp.add 3 (Go.Operand.tmp 8) (Go.Operand.const (Go.Value.int Go.IntKind.i64 1)) u8 (Go.Value.int Go.IntKind.i64 1)) fun t56_6 =>
   I t56_6 w_6 ∧ μ t56_6 w_6 < μ u8 w_2)))))))
    (K (Value.tuple #[]) w_2)

def alumlaw10_play_ann : Ann :=
  { loop := fun r => match r with | 1 => [8] | _ => [],
    plan := fun _ => .done,
    hold := fun _ => fun _ => false,
    join := fun _ => none }

theorem alumlaw10_play_ok {K : Value → World → Prop} {t0 t1 : Value} {w : World} (h : alumlaw10_play_w K t0 t1 w) : Calls Tryz.prog 42 #[t0, t1] w (Rt K) :=
  calls_of_wpC (A := alumlaw10_play_ann) (c := Tryz.f42.body.getD .skip) (args := [t0, t1]) mixed Tryz.func42 rfl (by kernel_rfl) (Eq.mp (by kernel_rfl) h)

theorem alumlaw10_play_en : enters Tryz.prog 42 = true := by kernel_rfl

theorem alumlaw10_play_cl {K : Value → World → Prop} {t0 t1 : Value} {w : World} (h : Calls Tryz.prog 42 #[t0, t1] w (Rt K)) : Cl Tryz.prog 42 #[t0, t1] w K := ⟨alumlaw10_play_en, h⟩

def alumlaw10_least_w (K : Value → World → Prop) (t0 t1 : Value) (w : World) : Prop :=
  Pu Tryz.prog (bopS Go.BinOp.rem 3 (Go.Operand.tmp 5) (Go.Operand.tmp 6) t0 t1) fun t7 =>
  Pu Tryz.prog (bopS Go.BinOp.add 3 (Go.Operand.tmp 7) (Go.Operand.tmp 8) t7 t1) fun t9 =>
  Pu Tryz.prog (bopS Go.BinOp.rem 3 (Go.Operand.tmp 9) (Go.Operand.tmp 10) t9 t1) fun t11 =>
  K t11 w

def alumlaw10_least_ann : Ann :=
  { loop := fun _ => [],
    plan := fun _ => .done,
    hold := fun _ => fun _ => false,
    join := fun _ => none }

theorem alumlaw10_least_ok {K : Value → World → Prop} {t0 t1 : Value} {w : World} (h : alumlaw10_least_w K t0 t1 w) : Calls Tryz.prog 43 #[t0, t1] w (Rt K) :=
  calls_of_wpC (A := alumlaw10_least_ann) (c := Tryz.f43.body.getD .skip) (args := [t0, t1]) mixed Tryz.func43 rfl (by kernel_rfl) (Eq.mp (by kernel_rfl) h)

theorem alumlaw10_least_en : enters Tryz.prog 43 = true := by kernel_rfl

theorem alumlaw10_least_cl {K : Value → World → Prop} {t0 t1 : Value} {w : World} (h : Calls Tryz.prog 43 #[t0, t1] w (Rt K)) : Cl Tryz.prog 43 #[t0, t1] w K := ⟨alumlaw10_least_en, h⟩

def alumlaw10_cuts_w (K : Value → World → Prop) (t0 t1 : Value) (w : World) : Prop :=
  ∃ (I : Value → Value → World → Prop) (μ : Value → Value → World → Nat), I (Go.Value.slice none 0 0) (Go.Value.int Go.IntKind.i64 0) w ∧
   ∀ (u8 u9 u10 u11 u14 u15 u16 u17 u7 u18 u19 u20 u21 u22 u23 u24 u25 u26 u27 u28 u29 u30 u31 u32 u33 u34 u35 u36 u37 u5 u12 u13 u6 : Value) (w_1 : World), I u5 u6 w_1 →
   Cl Tryz.prog 39 #[t0] w_1 fun t10 w_2 =>
   Pu Tryz.prog (bopS Go.BinOp.lss 3 (Go.Operand.tmp 8) (Go.Operand.tmp 10) u6 t10) fun t11 =>
   condV t11
    (Cl Tryz.prog 36 #[t0, u6] w_2 fun t16 w_3 =>
   Bn Tryz.prog (Builtin.len_ #[67] 3 #[t16]) w_3 fun t17 w_4 =>
   Pu Tryz.prog (bopS Go.BinOp.gtr 3 (Go.Operand.tmp 18) (Go.Operand.const (Go.Value.int Go.IntKind.i64 0)) t17 (Go.Value.int Go.IntKind.i64 0)) fun t19 =>
   condV t19
   (Bn Tryz.prog (Builtin.len_ #[65] 3 #[t1]) w_4 fun t23 w_5 =>
   Pu Tryz.prog (bopS Go.BinOp.lss 3 (Go.Operand.tmp 21) (Go.Operand.tmp 23) u6 t23) fun t24 =>
   condV t24
    (Pu Tryz.prog (Instr.indexAt 65 t1 u6) fun t30 =>
    Bn Tryz.prog (Instr.loadAt 3 t30) w_5 fun t31 w_6 =>
    Pu Tryz.prog (bopS Go.BinOp.add 3 (Go.Operand.tmp 32) (Go.Operand.const (Go.Value.int Go.IntKind.i64 1)) t17 (Go.Value.int Go.IntKind.i64 1)) fun t33 =>
    Cl Tryz.prog 43 #[t31, t33] w_6 fun t34 w_7 =>
    Pu Tryz.prog (Instr.build 127 #[(0, u6), (1, t34)]) fun t35 =>
    Bn Tryz.prog (Instr.buildSlice 76 1 #[(0, t35)]) w_7 fun t36 w_8 =>
    Bn Tryz.prog (Builtin.append_ #[76, 76] 76 #[u5, t36]) w_8 fun t37 w_9 =>
    Pu Tryz.prog (bopS Go.BinOp.add 3 (Go.Operand.tmp 12) (Go.Operand.const (Go.Value.int Go.IntKind.i64 1)) u6 (Go.Value.int Go.IntKind.i64 1)) fun t13 =>
   I t37 t13 w_9 ∧ μ t37 t13 w_9 < μ u5 u6 w_1)
    (Pu Tryz.prog (bopS Go.BinOp.add 3 (Go.Operand.tmp 12) (Go.Operand.const (Go.Value.int Go.IntKind.i64 1)) u6 (Go.Value.int Go.IntKind.i64 1)) fun t13_1 =>
   I u5 t13_1 w_5 ∧ μ u5 t13_1 w_5 < μ u5 u6 w_1))
   (Pu Tryz.prog (bopS Go.BinOp.add 3 (Go.Operand.tmp 12) (Go.Operand.const (Go.Value.int Go.IntKind.i64 1)) u6 (Go.Value.int Go.IntKind.i64 1)) fun t13_2 =>
   I u5 t13_2 w_4 ∧ μ u5 t13_2 w_4 < μ u5 u6 w_1))
    (K u5 w_2)

def alumlaw10_cuts_ann : Ann :=
  { loop := fun r => match r with | 3 => [5, 6] | _ => [],
    plan := fun _ => .done,
    hold := fun _ => fun _ => false,
    join := fun _ => none }

theorem alumlaw10_cuts_ok {K : Value → World → Prop} {t0 t1 : Value} {w : World} (h : alumlaw10_cuts_w K t0 t1 w) : Calls Tryz.prog 44 #[t0, t1] w (Rt K) :=
  calls_of_wpC (A := alumlaw10_cuts_ann) (c := Tryz.f44.body.getD .skip) (args := [t0, t1]) mixed Tryz.func44 rfl (by kernel_rfl) (Eq.mp (by kernel_rfl) h)

theorem alumlaw10_cuts_en : enters Tryz.prog 44 = true := by kernel_rfl

theorem alumlaw10_cuts_cl {K : Value → World → Prop} {t0 t1 : Value} {w : World} (h : Calls Tryz.prog 44 #[t0, t1] w (Rt K)) : Cl Tryz.prog 44 #[t0, t1] w K := ⟨alumlaw10_cuts_en, h⟩

def alumlaw10_RedoViewMatchesSpec_w (K : Value → World → Prop) (t0 t1 : Value) (w : World) : Prop :=
  Cl Tryz.prog 6 #[t0] w fun t16 w_1 =>
  Cl Tryz.prog 7 #[t0] w_1 fun t18 w_2 =>
  Pu Tryz.prog (bopS Go.BinOp.eql 25 (Go.Operand.tmp 19) (Go.Operand.const (Go.Value.pointer none)) t16 (Go.Value.pointer none)) fun t20 =>
  condV t20
  (Cl Tryz.prog 8 #[] w_2 fun t31 w_3 =>
  condV t31
  (Pu Tryz.prog (bopS Go.BinOp.neq 25 (Go.Operand.tmp 33) (Go.Operand.const (Go.Value.pointer none)) t16 (Go.Value.pointer none)) fun t34 =>
  condV t34
  (K (Go.Value.bool true) w_3)
  (Pu Tryz.prog (nilC t18) fun t37 =>
  Pu Tryz.prog (Instr.fieldAt 33 t37 0) fun t38 =>
  Bn Tryz.prog (Instr.loadAt 30 t38) w_3 fun t39 w_4 =>
  Bn Tryz.prog (Builtin.len_ #[30] 3 #[t39]) w_4 fun t40 w_5 =>
  Pu Tryz.prog (bopS Go.BinOp.eql 3 (Go.Operand.tmp 40) (Go.Operand.const (Go.Value.int Go.IntKind.i64 0)) t40 (Go.Value.int Go.IntKind.i64 0)) fun t41 =>
  K t41 w_5))
  (K (Go.Value.bool false) w_3))
  (Bn Tryz.prog (Builtin.len_ #[23] 3 #[t0]) w_2 fun t23 w_6 =>
  Pu Tryz.prog (bopS Go.BinOp.gtr 3 (Go.Operand.tmp 23) (Go.Operand.const (Go.Value.int Go.IntKind.i64 12)) t23 (Go.Value.int Go.IntKind.i64 12)) fun t24 =>
  condV t24
  (Cl Tryz.prog 8 #[] w_6 fun t31_1 w_7 =>
  condV t31_1
  (Pu Tryz.prog (bopS Go.BinOp.neq 25 (Go.Operand.tmp 33) (Go.Operand.const (Go.Value.pointer none)) t16 (Go.Value.pointer none)) fun t34_1 =>
  condV t34_1
  (K (Go.Value.bool true) w_7)
  (Pu Tryz.prog (nilC t18) fun t37_1 =>
  Pu Tryz.prog (Instr.fieldAt 33 t37_1 0) fun t38_1 =>
  Bn Tryz.prog (Instr.loadAt 30 t38_1) w_7 fun t39_1 w_8 =>
  Bn Tryz.prog (Builtin.len_ #[30] 3 #[t39_1]) w_8 fun t40_1 w_9 =>
  Pu Tryz.prog (bopS Go.BinOp.eql 3 (Go.Operand.tmp 40) (Go.Operand.const (Go.Value.int Go.IntKind.i64 0)) t40_1 (Go.Value.int Go.IntKind.i64 0)) fun t41_1 =>
  K t41_1 w_9))
  (K (Go.Value.bool false) w_7))
  (Bn Tryz.prog (Builtin.len_ #[24] 3 #[t1]) w_6 fun t28 w_10 =>
  Pu Tryz.prog (bopS Go.BinOp.gtr 3 (Go.Operand.tmp 28) (Go.Operand.const (Go.Value.int Go.IntKind.i64 60)) t28 (Go.Value.int Go.IntKind.i64 60)) fun t29 =>
  condV t29
   (Cl Tryz.prog 8 #[] w_10 fun t31_2 w_11 =>
   condV t31_2
   (Pu Tryz.prog (bopS Go.BinOp.neq 25 (Go.Operand.tmp 33) (Go.Operand.const (Go.Value.pointer none)) t16 (Go.Value.pointer none)) fun t34_2 =>
   condV t34_2
   (K (Go.Value.bool true) w_11)
   (Pu Tryz.prog (nilC t18) fun t37_2 =>
   Pu Tryz.prog (Instr.fieldAt 33 t37_2 0) fun t38_2 =>
   Bn Tryz.prog (Instr.loadAt 30 t38_2) w_11 fun t39_2 w_12 =>
   Bn Tryz.prog (Builtin.len_ #[30] 3 #[t39_2]) w_12 fun t40_2 w_13 =>
   Pu Tryz.prog (bopS Go.BinOp.eql 3 (Go.Operand.tmp 40) (Go.Operand.const (Go.Value.int Go.IntKind.i64 0)) t40_2 (Go.Value.int Go.IntKind.i64 0)) fun t41_2 =>
   K t41_2 w_13))
   (K (Go.Value.bool false) w_11))
   (Cl Tryz.prog 9 #[t16] w_10 fun t45 w_14 =>
  Cl Tryz.prog 10 #[t18] w_14 fun t47 w_15 =>
  Pu Tryz.prog (bopS Go.BinOp.eql 34 (Go.Operand.tmp 48) (Go.Operand.const (Go.Value.pointer none)) t45 (Go.Value.pointer none)) fun t49 =>
  condV t49
   (K (Go.Value.bool false) w_15)
   (Bn Tryz.prog (Builtin.len_ #[24] 3 #[t1]) w_15 fun t51 w_16 =>
  ∃ (I : Value → World → Prop) (μ : Value → World → Nat), I (Go.Value.int Go.IntKind.i64 0) w_16 ∧
   ∀ (u53 u54 u55 u10 u56 u57 u72 u71 u74 u75 u76 u77 u73 u78 u79 u11 u12 u81 u82 u83 u84 u80 u85 u86 u13 u14 u87 u88 u89 u90 u91 u92 u93 u94 u96 u95 u97 u98 u99 u100 u101 u102 u103 u104 u58 u59 u60 u61 u62 u63 u64 u65 u66 u67 u68 u69 u70 u4 u105 u52 : Value) (w_17 : World), I u52 w_17 →
   Pu Tryz.prog (bopS Go.BinOp.lss 3 (Go.Operand.tmp 52) (Go.Operand.tmp 51) u52 t51) fun t53 =>
   condV t53
    (∃ J : World → Prop,
   (Pu Tryz.prog (Instr.indexAt 24 t1 u52) fun t54 =>
   Bn Tryz.prog (Instr.loadAt 39 t54) w_17 fun t55 w_18 =>
   Bn Tryz.prog (Instr.alloc 39 true (Value.tuple #[])) w_18 fun t10 w_19 =>
   Bn Tryz.prog (unitV (Instr.storeAt 39 t10 t55)) w_19 fun _ w_20 =>
   Pu Tryz.prog (Instr.fieldAt 39 t10 0) fun t56 =>
   Bn Tryz.prog (Instr.loadAt 3 t56) w_20 fun t57 w_21 =>
   Pu Tryz.prog (bopS Go.BinOp.eql 3 (Go.Operand.tmp 57) (Go.Operand.const (Go.Value.int Go.IntKind.i64 0)) t57 (Go.Value.int Go.IntKind.i64 0)) fun t72 =>
   condV t72
    (Pu Tryz.prog (Instr.fieldAt 39 t10 1) fun t75 =>
    Bn Tryz.prog (Instr.loadAt 3 t75) w_21 fun t76 w_22 =>
    Cl Tryz.prog 11 #[t45, t76] w_22 fun t77 w_23 =>
    Pu Tryz.prog (Instr.extract t77 0) fun t78 =>
    Pu Tryz.prog (Instr.extract t77 1) fun t79 =>
    Pu Tryz.prog (Instr.fieldAt 39 t10 1) fun t82 =>
    Bn Tryz.prog (Instr.loadAt 3 t82) w_23 fun t83 w_24 =>
    Cl Tryz.prog 12 #[t47, t83] w_24 fun t84 w_25 =>
    Pu Tryz.prog (Instr.extract t84 0) fun t85 =>
    Pu Tryz.prog (Instr.extract t84 1) fun t86 =>
    Pu Tryz.prog (bopS Go.BinOp.neq 3 (Go.Operand.tmp 87) (Go.Operand.tmp 88) t78 t85) fun t89 =>
    condV t89
    (K (Go.Value.bool false) w_25)
    (Pu Tryz.prog (bopS Go.BinOp.neq 40 (Go.Operand.tmp 91) (Go.Operand.tmp 92) t79 t86) fun t93 =>
    condV t93
     (K (Go.Value.bool false) w_25)
     (J w_25)))
    (Pu Tryz.prog (bopS Go.BinOp.eql 3 (Go.Operand.tmp 57) (Go.Operand.const (Go.Value.int Go.IntKind.i64 1)) t57 (Go.Value.int Go.IntKind.i64 1)) fun t96 =>
    condV t96
     (Pu Tryz.prog (Instr.fieldAt 39 t10 1) fun t98 =>
     Bn Tryz.prog (Instr.loadAt 3 t98) w_21 fun t99 w_26 =>
     Cl Tryz.prog 13 #[t45, t99] w_26 fun t100 w_27 =>
     Pu Tryz.prog (Instr.fieldAt 39 t10 1) fun t102 =>
     Bn Tryz.prog (Instr.loadAt 3 t102) w_27 fun t103 w_28 =>
     Cl Tryz.prog 14 #[t47, t103] w_28 fun t104 w_29 =>
     J w_29)
     (∃ S R : World → Prop, S w_21.drew ∧ (∀ w_30, S w_30 → R w_30) ∧
     Pu Tryz.prog (Instr.fieldAt 39 t10 1) fun t59 =>
     Pu Tryz.prog (Instr.fieldAt 39 t10 2) fun t61 =>
     Pu Tryz.prog (Instr.fieldAt 39 t10 1) fun t65 =>
     Pu Tryz.prog (Instr.fieldAt 39 t10 2) fun t67 =>
     ∃ t60, (∀ w_31, R w_31 → (Instr.loadAt 3 t59).run Tryz.prog w_31 = .ok t60 w_31) ∧
     ∃ t62, (∀ w_32, R w_32 → (Instr.loadAt 3 t61).run Tryz.prog w_32 = .ok t62 w_32) ∧
     ∃ t66, (∀ w_33, R w_33 → (Instr.loadAt 3 t65).run Tryz.prog w_33 = .ok t66 w_33) ∧
     ∃ t68, (∀ w_34, R w_34 → (Instr.loadAt 3 t67).run Tryz.prog w_34 = .ok t68 w_34) ∧
     (∀ w_35, S w_35 →
     Cl Tryz.prog 15 #[t45, t60, t62] w_35 fun t63 w_36 =>
     ∃ S_1 R_1 : World → Prop, S_1 w_36 ∧ (∀ w_38, S_1 w_38 → R_1 w_38) ∧ (∀ w_37, R_1 w_37 → R w_37) ∧
     (∀ w_39, S_1 w_39 →
     Cl Tryz.prog 16 #[t47, t66, t68] w_39 fun t69 w_40 =>
     ∃ S_2 R_2 : World → Prop, S_2 w_40 ∧ (∀ w_42, S_2 w_42 → R_2 w_42) ∧ True ∧
     Pu Tryz.prog (bopS Go.BinOp.neq 40 (Go.Operand.tmp 63) (Go.Operand.tmp 69) t63 t69) fun t70 =>
     ∀ w_43, S_2 w_43 →
     condV t70
      (K (Go.Value.bool false) w_43)
      (J w_43)) ∧
     True) ∧
     True))) ∧
   (∀ (u54_1 u55_1 u10_1 u56_1 u57_1 u72_1 u71_1 u74_1 u75_1 u76_1 u77_1 u73_1 u78_1 u79_1 u11_1 u12_1 u81_1 u82_1 u83_1 u84_1 u80_1 u85_1 u86_1 u13_1 u14_1 u87_1 u88_1 u89_1 u90_1 u91_1 u92_1 u93_1 u94_1 u96_1 u95_1 u97_1 u98_1 u99_1 u100_1 u101_1 u102_1 u103_1 u104_1 u58_1 u59_1 u60_1 u61_1 u62_1 u63_1 u64_1 u65_1 u66_1 u67_1 u68_1 u69_1 u70_1 u4_1 : Value), ∀ w_44 : World, J w_44 →
   Pu Tryz.prog (bopS Go.BinOp.add 3 (Go.Operand.tmp 52) (Go.Operand.const (Go.Value.int Go.IntKind.i64 1)) u52 (Go.Value.int Go.IntKind.i64 1)) fun t105 =>
   I t105 w_44 ∧ μ t105 w_44 < μ u52 w_17))
    (∃ S_3 R_3 : World → Prop, S_3 w_17.drew ∧ (∀ w_45, S_3 w_45 → R_3 w_45) ∧
  (∀ w_46, S_3 w_46 →
  Cl Tryz.prog 8 #[] w_46 fun t106 w_47 =>
  ∃ S_4 R_4 : World → Prop, S_4 w_47 ∧ (∀ w_49, S_4 w_49 → R_4 w_49) ∧ True ∧
  condV t106
  (Pu Tryz.prog (nilC t47) fun t111 =>
  Pu Tryz.prog (Instr.fieldAt 50 t111 1) fun t112 =>
  ∃ t113, (∀ w_50, R_4 w_50 → (Instr.loadAt 46 t112).run Tryz.prog w_50 = .ok t113 w_50) ∧
  (∀ w_51, S_4 w_51 →
  Cl Tryz.prog 18 #[t45] w_51 fun t109 w_52 =>
  ∃ S_5 R_5 : World → Prop, S_5 w_52 ∧ (∀ w_54, S_5 w_54 → R_5 w_54) ∧ (∀ w_53, R_5 w_53 → R_4 w_53) ∧
  (∀ w_55, S_5 w_55 →
  Cl Tryz.prog 19 #[t113] w_55 fun t114 w_56 =>
  ∃ S_6 R_6 : World → Prop, S_6 w_56 ∧ (∀ w_58, S_6 w_58 → R_6 w_58) ∧ True ∧
  (∀ w_59, S_6 w_59 →
  Cl Tryz.prog 17 #[t109, t114] w_59 fun t115 w_60 =>
  ∃ S_7 R_7 : World → Prop, S_7 w_60 ∧ (∀ w_62, S_7 w_62 → R_7 w_62) ∧ True ∧
  condV t115
  (Pu Tryz.prog (nilC t47) fun t121 =>
  Pu Tryz.prog (Instr.fieldAt 50 t121 1) fun t122 =>
  ∃ t123, (∀ w_63, R_7 w_63 → (Instr.loadAt 46 t122).run Tryz.prog w_63 = .ok t123 w_63) ∧
  ∃ t124, (∀ w_64, R_7 w_64 → (Builtin.len_ #[46] 3 #[t123]).run Tryz.prog w_64 = .ok t124 w_64) ∧
  (∀ w_65, S_7 w_65 →
  Cl Tryz.prog 20 #[t45] w_65 fun t119 w_66 =>
  ∃ S_8 R_8 : World → Prop, S_8 w_66 ∧ (∀ w_68, S_8 w_68 → R_8 w_68) ∧ (∀ w_67, R_8 w_67 → R_7 w_67) ∧
  Pu Tryz.prog (bopS Go.BinOp.eql 3 (Go.Operand.tmp 119) (Go.Operand.tmp 124) t119 t124) fun t125 =>
  condV t125
  ((∀ w_69, S_8 w_69 →
  Cl Tryz.prog 22 #[t16] w_69 fun t129 w_70 =>
  ∃ S_9 R_9 : World → Prop, S_9 w_70 ∧ (∀ w_72, S_9 w_72 → R_9 w_72) ∧ True ∧
  (∀ w_73, S_9 w_73 →
  Cl Tryz.prog 21 #[t129, t0] w_73 fun t131 w_74 =>
  ∃ S_10 R_10 : World → Prop, S_10 w_74 ∧ (∀ w_76, S_10 w_76 → R_10 w_76) ∧ True ∧
  condV t131
  ((∀ w_77, S_10 w_77 →
  Cl Tryz.prog 23 #[t16] w_77 fun t135 w_78 =>
  ∃ S_11 R_11 : World → Prop, S_11 w_78 ∧ (∀ w_80, S_11 w_80 → R_11 w_80) ∧ True ∧
  ∃ t136, (∀ w_81, R_11 w_81 → (Builtin.len_ #[31] 3 #[t135]).run Tryz.prog w_81 = .ok t136 w_81) ∧
  Pu Tryz.prog (bopS Go.BinOp.eql 3 (Go.Operand.tmp 136) (Go.Operand.const (Go.Value.int Go.IntKind.i64 0)) t136 (Go.Value.int Go.IntKind.i64 0)) fun t137 =>
  ∀ w_82, S_11 w_82 →
  K t137 w_82) ∧
  True)
  ((∀ w_83, S_10 w_83 →
  ∃ S_12 R_12 : World → Prop, S_12 w_83 ∧ (∀ w_85, S_12 w_85 → R_12 w_85) ∧ True ∧
  ∀ w_86, S_12 w_86 →
  K (Go.Value.bool false) w_86) ∧
  True)) ∧
  True) ∧
  True)
  ((∀ w_87, S_8 w_87 →
  ∃ S_13 R_13 : World → Prop, S_13 w_87 ∧ (∀ w_89, S_13 w_89 → R_13 w_89) ∧ True ∧
  (∀ w_90, S_13 w_90 →
  ∃ S_14 R_14 : World → Prop, S_14 w_90 ∧ (∀ w_92, S_14 w_92 → R_14 w_92) ∧ True ∧
  (∀ w_93, S_14 w_93 →
  ∃ S_15 R_15 : World → Prop, S_15 w_93 ∧ (∀ w_95, S_15 w_95 → R_15 w_95) ∧ True ∧
  ∀ w_96, S_15 w_96 →
  K (Go.Value.bool false) w_96) ∧
  True) ∧
  True) ∧
  True)) ∧
  True)
  ((∀ w_97, S_7 w_97 →
  ∃ S_16 R_16 : World → Prop, S_16 w_97 ∧ (∀ w_99, S_16 w_99 → R_16 w_99) ∧ (∀ w_98, R_16 w_98 → R_7 w_98) ∧
  (∀ w_100, S_16 w_100 →
  ∃ S_17 R_17 : World → Prop, S_17 w_100 ∧ (∀ w_102, S_17 w_102 → R_17 w_102) ∧ True ∧
  (∀ w_103, S_17 w_103 →
  ∃ S_18 R_18 : World → Prop, S_18 w_103 ∧ (∀ w_105, S_18 w_105 → R_18 w_105) ∧ True ∧
  (∀ w_106, S_18 w_106 →
  ∃ S_19 R_19 : World → Prop, S_19 w_106 ∧ (∀ w_108, S_19 w_108 → R_19 w_108) ∧ True ∧
  ∀ w_109, S_19 w_109 →
  K (Go.Value.bool false) w_109) ∧
  True) ∧
  True) ∧
  True) ∧
  True)) ∧
  True) ∧
  True) ∧
  True)
  ((∀ w_110, S_4 w_110 →
  ∃ S_20 R_20 : World → Prop, S_20 w_110 ∧ (∀ w_112, S_20 w_112 → R_20 w_112) ∧ (∀ w_111, R_20 w_111 → R_4 w_111) ∧
  (∀ w_113, S_20 w_113 →
  ∃ S_21 R_21 : World → Prop, S_21 w_113 ∧ (∀ w_115, S_21 w_115 → R_21 w_115) ∧ True ∧
  (∀ w_116, S_21 w_116 →
  ∃ S_22 R_22 : World → Prop, S_22 w_116 ∧ (∀ w_118, S_22 w_118 → R_22 w_118) ∧ True ∧
  (∀ w_119, S_22 w_119 →
  ∃ S_23 R_23 : World → Prop, S_23 w_119 ∧ (∀ w_121, S_23 w_121 → R_23 w_121) ∧ (∀ w_120, R_23 w_120 → R_22 w_120) ∧
  (∀ w_122, S_23 w_122 →
  ∃ S_24 R_24 : World → Prop, S_24 w_122 ∧ (∀ w_124, S_24 w_124 → R_24 w_124) ∧ True ∧
  (∀ w_125, S_24 w_125 →
  ∃ S_25 R_25 : World → Prop, S_25 w_125 ∧ (∀ w_127, S_25 w_127 → R_25 w_127) ∧ True ∧
  (∀ w_128, S_25 w_128 →
  ∃ S_26 R_26 : World → Prop, S_26 w_128 ∧ (∀ w_130, S_26 w_130 → R_26 w_130) ∧ True ∧
  ∀ w_131, S_26 w_131 →
  K (Go.Value.bool false) w_131) ∧
  True) ∧
  True) ∧
  True) ∧
  True) ∧
  True) ∧
  True) ∧
  True)) ∧
  True)))))

def alumlaw10_RedoViewMatchesSpec_ann : Ann :=
  { loop := fun r => match r with | 9 => [52] | _ => [],
    plan := fun r => match r with | 12 => (.pure 0 (.pure 1 (.pure 3 (.pure 6 (.pure 7 (.pure 9 (.load 2 [2, 5, 11, 12] (.load 4 [4, 5, 11, 12] (.load 8 [8, 11, 12] (.load 10 [10, 11, 12] (.alt 5 (.alt 11 (.pure 12 .done) .stop) .stop))))))))))) | 23 => (.alt 0 (.pure 1 (.pure 2 (.pure 4 (.pure 5 (.pure 6 (.load 7 [7, 8, 9, 10, 11, 12, 13, 14, 15, 16, 17, 18, 19, 20, 21, 22, 23, 24, 25, 26, 27, 28, 29, 30, 31, 32, 33] (.alt 3 (.alt 8 (.alt 9 (.pure 10 (.pure 11 (.pure 12 (.pure 14 (.pure 15 (.pure 16 (.load 17 [17, 18, 19, 20, 21, 22, 23, 24, 25, 26, 27, 28, 29, 30, 31, 32, 33] (.load 18 [18, 19, 20, 21, 22, 23, 24, 25, 26, 27, 28, 29, 30, 31, 32, 33] (.alt 13 (.pure 19 (.pure 20 (.pure 21 (.pure 22 (.pure 24 (.alt 23 (.alt 25 (.pure 26 (.pure 27 (.pure 28 (.alt 29 (.load 30 [30, 31, 32, 33] (.pure 31 (.pure 32 (.pure 33 .done)))) .stop)))) .stop) .stop)))))) .stop))))))))) .stop) .stop) .stop))))))) .stop) | _ => .done,
    hold := fun r => match r with | 12 => (fun i => match i with | 4 => true | 5 => true | 8 => true | 10 => true | _ => false) | 23 => (fun i => match i with | 3 => true | 13 => true | _ => false) | _ => fun _ => false,
    join := fun r => match r with | 22 => some [] | _ => none }

theorem alumlaw10_RedoViewMatchesSpec_ok {K : Value → World → Prop} {t0 t1 : Value} {w : World} (h : alumlaw10_RedoViewMatchesSpec_w K t0 t1 w) : Calls Tryz.prog 3 #[t0, t1] w (Rt K) :=
  calls_of_wpC (A := alumlaw10_RedoViewMatchesSpec_ann) (c := Tryz.f3.body.getD .skip) (args := [t0, t1]) mixed Tryz.func3 rfl (by kernel_rfl) (Eq.mp (by kernel_rfl) h)

theorem alumlaw10_RedoViewMatchesSpec_en : enters Tryz.prog 3 = true := by kernel_rfl

theorem alumlaw10_RedoViewMatchesSpec_cl {K : Value → World → Prop} {t0 t1 : Value} {w : World} (h : Calls Tryz.prog 3 #[t0, t1] w (Rt K)) : Cl Tryz.prog 3 #[t0, t1] w K := ⟨alumlaw10_RedoViewMatchesSpec_en, h⟩

def alumlaw10_RedoAppliesAsSpecified_w (K : Value → World → Prop) (t0 t1 t2 : Value) (w : World) : Prop :=
  Cl Tryz.prog 6 #[t0] w fun t20 w_1 =>
  Pu Tryz.prog (bopS Go.BinOp.eql 25 (Go.Operand.tmp 21) (Go.Operand.const (Go.Value.pointer none)) t20 (Go.Value.pointer none)) fun t22 =>
  condV t22
  (Cl Tryz.prog 8 #[] w_1 fun t38 w_2 =>
  K t38 w_2)
  (Bn Tryz.prog (Builtin.len_ #[23] 3 #[t0]) w_1 fun t25 w_3 =>
  Pu Tryz.prog (bopS Go.BinOp.gtr 3 (Go.Operand.tmp 25) (Go.Operand.const (Go.Value.int Go.IntKind.i64 12)) t25 (Go.Value.int Go.IntKind.i64 12)) fun t26 =>
  condV t26
  (Cl Tryz.prog 8 #[] w_3 fun t38_1 w_4 =>
  K t38_1 w_4)
  (Cl Tryz.prog 24 #[t2] w_3 fun t30 w_5 =>
  Pu Tryz.prog (Op.unary Go.UnOp.not t30) fun t31 =>
  condV t31
  (Cl Tryz.prog 8 #[] w_5 fun t38_2 w_6 =>
  K t38_2 w_6)
  (Bn Tryz.prog (Builtin.len_ #[46] 3 #[t1]) w_5 fun t35 w_7 =>
  Pu Tryz.prog (bopS Go.BinOp.gtr 3 (Go.Operand.tmp 35) (Go.Operand.const (Go.Value.int Go.IntKind.i64 20)) t35 (Go.Value.int Go.IntKind.i64 20)) fun t36 =>
  condV t36
   (Cl Tryz.prog 8 #[] w_7 fun t38_3 w_8 =>
   K t38_3 w_8)
   (Cl Tryz.prog 7 #[t0] w_7 fun t40 w_9 =>
  Bn Tryz.prog (Builtin.len_ #[46] 3 #[t1]) w_9 fun t42 w_10 =>
  ∃ (I : Value → World → Prop) (μ : Value → World → Nat), I (Go.Value.int Go.IntKind.i64 0) w_10 ∧
   ∀ (u44 u45 u46 u10 u47 u48 u49 u50 u51 u52 u53 u54 u55 u56 u57 u58 u59 u43 : Value) (w_11 : World), I u43 w_11 →
   Pu Tryz.prog (bopS Go.BinOp.lss 3 (Go.Operand.tmp 43) (Go.Operand.tmp 42) u43 t42) fun t44 =>
   condV t44
    (Pu Tryz.prog (Instr.indexAt 46 t1 u43) fun t45 =>
   Bn Tryz.prog (Instr.loadAt 58 t45) w_11 fun t46 w_12 =>
   Bn Tryz.prog (Instr.alloc 58 true (Value.tuple #[])) w_12 fun t10 w_13 =>
   Bn Tryz.prog (unitV (Instr.storeAt 58 t10 t46)) w_13 fun _ w_14 =>
   Pu Tryz.prog (Instr.fieldAt 58 t10 0) fun t48 =>
   Bn Tryz.prog (Instr.loadAt 3 t48) w_14 fun t49 w_15 =>
   Pu Tryz.prog (Instr.fieldAt 58 t10 1) fun t50 =>
   Bn Tryz.prog (Instr.loadAt 3 t50) w_15 fun t51 w_16 =>
   Cl Tryz.prog 25 #[t20, t49, t51] w_16 fun t52 w_17 =>
   Pu Tryz.prog (Instr.fieldAt 58 t10 0) fun t54 =>
   Bn Tryz.prog (Instr.loadAt 3 t54) w_17 fun t55 w_18 =>
   Pu Tryz.prog (Instr.fieldAt 58 t10 1) fun t56 =>
   Bn Tryz.prog (Instr.loadAt 3 t56) w_18 fun t57 w_19 =>
   Cl Tryz.prog 26 #[t40, t55, t57] w_19 fun t58 w_20 =>
   Pu Tryz.prog (bopS Go.BinOp.add 3 (Go.Operand.tmp 43) (Go.Operand.const (Go.Value.int Go.IntKind.i64 1)) u43 (Go.Value.int Go.IntKind.i64 1)) fun t59 =>
   I t59 w_20 ∧ μ t59 w_20 < μ u43 w_11)
    (Cl Tryz.prog 27 #[t20] w_11 fun t61 w_21 =>
  Pu Tryz.prog (bopS Go.BinOp.eql 25 (Go.Operand.tmp 62) (Go.Operand.const (Go.Value.pointer none)) t61 (Go.Value.pointer none)) fun t63 =>
  condV t63
   (K (Go.Value.bool false) w_21)
   (Cl Tryz.prog 28 #[t40, t2] w_21 fun t66 w_22 =>
  Cl Tryz.prog 29 #[t20, t2] w_22 fun t69 w_23 =>
  Pu Tryz.prog (bopS Go.BinOp.neq 40 (Go.Operand.tmp 69) (Go.Operand.tmp 70) t69 t66) fun t71 =>
  condV t71
  (K (Go.Value.bool false) w_23)
  (Cl Tryz.prog 30 #[t20, t2] w_23 fun t75 w_24 =>
  Pu Tryz.prog (bopS Go.BinOp.neq 40 (Go.Operand.tmp 75) (Go.Operand.tmp 76) t75 t66) fun t77 =>
  condV t77
   (K (Go.Value.bool false) w_24)
   (Pu Tryz.prog (bopS Go.BinOp.neq 40 (Go.Operand.tmp 79) (Go.Operand.const (Go.Value.int Go.IntKind.i64 0)) t66 (Go.Value.int Go.IntKind.i64 0)) fun t80 =>
  condV t80
   (Cl Tryz.prog 8 #[] w_24 fun t81 w_25 =>
   condV t81
   (Cl Tryz.prog 22 #[t20] w_25 fun t84 w_26 =>
   Cl Tryz.prog 22 #[t61] w_26 fun t86 w_27 =>
   Cl Tryz.prog 21 #[t84, t86] w_27 fun t87 w_28 =>
   condV t87
   (Cl Tryz.prog 32 #[t20] w_28 fun t91 w_29 =>
   Cl Tryz.prog 32 #[t61] w_29 fun t93 w_30 =>
   Cl Tryz.prog 31 #[t91, t93] w_30 fun t94 w_31 =>
   condV t94
   (Cl Tryz.prog 23 #[t20] w_31 fun t98 w_32 =>
   Bn Tryz.prog (Builtin.len_ #[31] 3 #[t98]) w_32 fun t99 w_33 =>
   Cl Tryz.prog 23 #[t61] w_33 fun t101 w_34 =>
   Bn Tryz.prog (Builtin.len_ #[31] 3 #[t101]) w_34 fun t102 w_35 =>
   Pu Tryz.prog (bopS Go.BinOp.eql 3 (Go.Operand.tmp 99) (Go.Operand.tmp 102) t99 t102) fun t103 =>
   K t103 w_35)
   (K (Go.Value.bool false) w_31))
   (K (Go.Value.bool false) w_28))
   (K (Go.Value.bool false) w_25))
   (Cl Tryz.prog 33 #[t40, t2] w_24 fun t107 w_36 =>
  Cl Tryz.prog 32 #[t20] w_36 fun t109 w_37 =>
  Cl Tryz.prog 34 #[t40] w_37 fun t111 w_38 =>
  Cl Tryz.prog 31 #[t109, t111] w_38 fun t112 w_39 =>
  Pu Tryz.prog (Op.unary Go.UnOp.not t112) fun t113 =>
  condV t113
   (K (Go.Value.bool false) w_39)
   (Cl Tryz.prog 35 #[t2] w_39 fun t115 w_40 =>
  Bn Tryz.prog (Builtin.len_ #[65] 3 #[t115]) w_40 fun t116 w_41 =>
  ∃ (I_1 : Value → World → Prop) (μ_1 : Value → World → Nat), I_1 (Go.Value.int Go.IntKind.i64 0) w_41 ∧
   ∀ (u118 u119 u120 u14 u121 u122 u123 u124 u125 u6 u126 u117 : Value) (w_42 : World), I_1 u117 w_42 →
   Pu Tryz.prog (bopS Go.BinOp.lss 3 (Go.Operand.tmp 117) (Go.Operand.tmp 116) u117 t116) fun t118 =>
   condV t118
    (Pu Tryz.prog (Instr.indexAt 65 t115 u117) fun t119 =>
   Bn Tryz.prog (Instr.loadAt 3 t119) w_42 fun t120 w_43 =>
   Cl Tryz.prog 36 #[t20, t120] w_43 fun t123 w_44 =>
   Bn Tryz.prog (Builtin.len_ #[67] 3 #[t123]) w_44 fun t124 w_45 =>
   Pu Tryz.prog (bopS Go.BinOp.neq 3 (Go.Operand.tmp 124) (Go.Operand.const (Go.Value.int Go.IntKind.i64 0)) t124 (Go.Value.int Go.IntKind.i64 0)) fun t125 =>
   condV t125
    (K (Go.Value.bool false) w_45)
    (Pu Tryz.prog (bopS Go.BinOp.add 3 (Go.Operand.tmp 117) (Go.Operand.const (Go.Value.int Go.IntKind.i64 1)) u117 (Go.Value.int Go.IntKind.i64 1)) fun t126 =>
   I_1 t126 w_45 ∧ μ_1 t126 w_45 < μ_1 u117 w_42))
    (Cl Tryz.prog 37 #[t20, (Go.Value.slice none 0 0)] w_42 fun t128 w_46 =>
  Pu Tryz.prog (bopS Go.BinOp.neq 40 (Go.Operand.tmp 128) (Go.Operand.const (Go.Value.int Go.IntKind.i64 0)) t128 (Go.Value.int Go.IntKind.i64 0)) fun t129 =>
  condV t129
   (K (Go.Value.bool false) w_46)
   (Cl Tryz.prog 19 #[t2] w_46 fun t131 w_47 =>
  Bn Tryz.prog (Builtin.len_ #[46] 3 #[t131]) w_47 fun t132 w_48 =>
  ∃ (I_2 : Value → World → Prop) (μ_2 : Value → World → Nat), I_2 (Go.Value.int Go.IntKind.i64 0) w_48 ∧
   ∀ (u134 u135 u136 u16 u138 u139 u140 u141 u137 u142 u143 u17 u18 u144 u145 u146 u147 u148 u149 u150 u151 u6_1 u152 u133 : Value) (w_49 : World), I_2 u133 w_49 →
   Pu Tryz.prog (bopS Go.BinOp.lss 3 (Go.Operand.tmp 133) (Go.Operand.tmp 132) u133 t132) fun t134 =>
   condV t134
    (Pu Tryz.prog (Instr.indexAt 46 t131 u133) fun t135 =>
   Bn Tryz.prog (Instr.loadAt 58 t135) w_49 fun t136 w_50 =>
   Bn Tryz.prog (Instr.alloc 58 true (Value.tuple #[])) w_50 fun t16 w_51 =>
   Bn Tryz.prog (unitV (Instr.storeAt 58 t16 t136)) w_51 fun _ w_52 =>
   Pu Tryz.prog (Instr.fieldAt 58 t16 0) fun t139 =>
   Bn Tryz.prog (Instr.loadAt 3 t139) w_52 fun t140 w_53 =>
   Cl Tryz.prog 38 #[t20, t140] w_53 fun t141 w_54 =>
   Pu Tryz.prog (Instr.extract t141 0) fun t142 =>
   Pu Tryz.prog (Instr.extract t141 1) fun t143 =>
   Pu Tryz.prog (Instr.fieldAt 58 t16 1) fun t145 =>
   Bn Tryz.prog (Instr.loadAt 3 t145) w_54 fun t146 w_55 =>
   Pu Tryz.prog (bopS Go.BinOp.neq 3 (Go.Operand.tmp 144) (Go.Operand.tmp 146) t142 t146) fun t147 =>
   condV t147
   (K (Go.Value.bool false) w_55)
   (Pu Tryz.prog (bopS Go.BinOp.neq 40 (Go.Operand.tmp 149) (Go.Operand.const (Go.Value.int Go.IntKind.i64 0)) t143 (Go.Value.int Go.IntKind.i64 0)) fun t150 =>
   condV t150
    (K (Go.Value.bool false) w_55)
    (Pu Tryz.prog (bopS Go.BinOp.add 3 (Go.Operand.tmp 133) (Go.Operand.const (Go.Value.int Go.IntKind.i64 1)) u133 (Go.Value.int Go.IntKind.i64 1)) fun t152 =>
   I_2 t152 w_55 ∧ μ_2 t152 w_55 < μ_2 u133 w_49)))
    (Cl Tryz.prog 8 #[] w_49 fun t153 w_56 =>
  K t153 w_56)))))))))))))

def alumlaw10_RedoAppliesAsSpecified_ann : Ann :=
  { loop := fun r => match r with | 6 => [43] | 23 => [117] | 31 => [133] | _ => [],
    plan := fun _ => .done,
    hold := fun _ => fun _ => false,
    join := fun _ => none }

theorem alumlaw10_RedoAppliesAsSpecified_ok {K : Value → World → Prop} {t0 t1 t2 : Value} {w : World} (h : alumlaw10_RedoAppliesAsSpecified_w K t0 t1 t2 w) : Calls Tryz.prog 4 #[t0, t1, t2] w (Rt K) :=
  calls_of_wpC (A := alumlaw10_RedoAppliesAsSpecified_ann) (c := Tryz.f4.body.getD .skip) (args := [t0, t1, t2]) mixed Tryz.func4 rfl (by kernel_rfl) (Eq.mp (by kernel_rfl) h)

theorem alumlaw10_RedoAppliesAsSpecified_en : enters Tryz.prog 4 = true := by kernel_rfl

theorem alumlaw10_RedoAppliesAsSpecified_cl {K : Value → World → Prop} {t0 t1 t2 : Value} {w : World} (h : Calls Tryz.prog 4 #[t0, t1, t2] w (Rt K)) : Cl Tryz.prog 4 #[t0, t1, t2] w K := ⟨alumlaw10_RedoAppliesAsSpecified_en, h⟩

def alumlaw10_RedoIsRepeated_w (K : Value → World → Prop) (t0 t1 t2 t3 : Value) (w : World) : Prop :=
  Bn Tryz.prog (Instr.box 71 t2) w fun t6 w_1 =>
  Bn Tryz.prog (Instr.box 72 t3) w_1 fun t7 w_2 =>
  Cl Tryz.prog 6 #[t0] w_2 fun t17 w_3 =>
  Pu Tryz.prog (bopS Go.BinOp.eql 25 (Go.Operand.tmp 18) (Go.Operand.const (Go.Value.pointer none)) t17 (Go.Value.pointer none)) fun t19 =>
  condV t19
  (Cl Tryz.prog 8 #[] w_3 fun t36 w_4 =>
  K t36 w_4)
  (Bn Tryz.prog (Builtin.len_ #[23] 3 #[t0]) w_3 fun t22 w_5 =>
  Pu Tryz.prog (bopS Go.BinOp.gtr 3 (Go.Operand.tmp 22) (Go.Operand.const (Go.Value.int Go.IntKind.i64 12)) t22 (Go.Value.int Go.IntKind.i64 12)) fun t23 =>
  condV t23
  (Cl Tryz.prog 8 #[] w_5 fun t36_1 w_6 =>
  K t36_1 w_6)
  (Cl Tryz.prog 24 #[t1] w_5 fun t27 w_7 =>
  Pu Tryz.prog (Op.unary Go.UnOp.not t27) fun t28 =>
  condV t28
  (Cl Tryz.prog 8 #[] w_7 fun t36_2 w_8 =>
  K t36_2 w_8)
  (Cl Tryz.prog 29 #[t17, t1] w_7 fun t33 w_9 =>
  Pu Tryz.prog (bopS Go.BinOp.neq 40 (Go.Operand.tmp 33) (Go.Operand.const (Go.Value.int Go.IntKind.i64 0)) t33 (Go.Value.int Go.IntKind.i64 0)) fun t34 =>
  condV t34
   (Cl Tryz.prog 8 #[] w_9 fun t36_3 w_10 =>
   K t36_3 w_10)
   (∃ (I : Value → World → Prop) (μ : Value → World → Nat), I (Go.Value.int Go.IntKind.i64 0) w_9 ∧
   ∀ (u37 u38 u39 u40 u43 u44 u45 u46 u47 u8 u41 u42 u10 : Value) (w_11 : World), I u10 w_11 →
   Cl Tryz.prog 39 #[t17] w_11 fun t39 w_12 =>
   Pu Tryz.prog (bopS Go.BinOp.lss 3 (Go.Operand.tmp 37) (Go.Operand.tmp 39) u10 t39) fun t40 =>
   condV t40
    (Cl Tryz.prog 40 #[t17, u10] w_12 fun t45 w_13 =>
   Pu Tryz.prog (bopS Go.BinOp.eql 3 (Go.Operand.tmp 45) (Go.Operand.const (Go.Value.int Go.IntKind.i64 2)) t45 (Go.Value.int Go.IntKind.i64 2)) fun t46 =>
   condV t46
    (Cl Tryz.prog 8 #[] w_13 fun t47 w_14 =>
    K t47 w_14)
    (Pu Tryz.prog (bopS Go.BinOp.add 3 (Go.Operand.tmp 41) (Go.Operand.const (Go.Value.int Go.IntKind.i64 1)) u10 (Go.Value.int Go.IntKind.i64 1)) fun t42 =>
   I t42 w_13 ∧ μ t42 w_13 < μ u10 w_11))
    (Cl Tryz.prog 27 #[t17] w_12 fun t49 w_15 =>
  Pu Tryz.prog (bopS Go.BinOp.eql 25 (Go.Operand.tmp 50) (Go.Operand.const (Go.Value.pointer none)) t49 (Go.Value.pointer none)) fun t51 =>
  condV t51
   (K (Go.Value.bool false) w_15)
   (Cl Tryz.prog 30 #[t49, t1] w_15 fun t54 w_16 =>
  Pu Tryz.prog (bopS Go.BinOp.neq 40 (Go.Operand.tmp 54) (Go.Operand.const (Go.Value.int Go.IntKind.i64 0)) t54 (Go.Value.int Go.IntKind.i64 0)) fun t55 =>
  condV t55
   (K (Go.Value.bool false) w_16)
   (∃ (I_1 : Value → World → Prop) (μ_1 : Value → World → Nat), I_1 (Go.Value.int Go.IntKind.i64 0) w_16 ∧
   ∀ (u57 u58 u12 u59 u60 u13 u61 u62 u63 u64 u65 u66 u67 u68 u69 u70 u14 u71 u72 u73 u74 u75 u76 u77 u78 u79 u80 u81 u82 u83 u84 u85 u86 u87 u88 u89 u8_1 u90 u56 : Value) (w_17 : World), I_1 u56 w_17 →
   Pu Tryz.prog (bopS Go.BinOp.lss 3 (Go.Operand.tmp 56) (Go.Operand.const (Go.Value.int Go.IntKind.i64 2)) u56 (Go.Value.int Go.IntKind.i64 2)) fun t57 =>
   condV t57
    (Cl Tryz.prog 27 #[t17] w_17 fun t60 w_18 =>
   Pu Tryz.prog (bopS Go.BinOp.eql 25 (Go.Operand.tmp 61) (Go.Operand.const (Go.Value.pointer none)) t60 (Go.Value.pointer none)) fun t62 =>
   condV t62
    (K (Go.Value.bool false) w_18)
    (Cl Tryz.prog 41 #[t60] w_18 fun t64 w_19 =>
   Cl Tryz.prog 30 #[t60, t1] w_19 fun t67 w_20 =>
   Pu Tryz.prog (bopS Go.BinOp.neq 40 (Go.Operand.tmp 67) (Go.Operand.const (Go.Value.int Go.IntKind.i64 0)) t67 (Go.Value.int Go.IntKind.i64 0)) fun t68 =>
   condV t68
    (K (Go.Value.bool false) w_20)
    (Cl Tryz.prog 23 #[t60] w_20 fun t70 w_21 =>
   Pu Tryz.prog (Instr.indexAt 71 t6 u56) fun t74 =>
   Bn Tryz.prog (Instr.loadAt 3 t74) w_21 fun t75 w_22 =>
   Bn Tryz.prog (Builtin.len_ #[31] 3 #[t70]) w_22 fun t77 w_23 =>
   Pu Tryz.prog (bopS Go.BinOp.add 3 (Go.Operand.tmp 77) (Go.Operand.const (Go.Value.int Go.IntKind.i64 1)) t77 (Go.Value.int Go.IntKind.i64 1)) fun t78 =>
   Cl Tryz.prog 43 #[t75, t78] w_23 fun t79 w_24 =>
   Pu Tryz.prog (Instr.sliceAt 31 t70 none (some t79) none) fun t80 =>
   Cl Tryz.prog 42 #[t17, t80] w_24 fun t81 w_25 =>
   Pu Tryz.prog (Instr.indexAt 72 t7 u56) fun t85 =>
   Bn Tryz.prog (Instr.loadAt 65 t85) w_25 fun t86 w_26 =>
   Cl Tryz.prog 44 #[t17, t86] w_26 fun t87 w_27 =>
   Cl Tryz.prog 37 #[t17, t87] w_27 fun t88 w_28 =>
   Pu Tryz.prog (bopS Go.BinOp.neq 40 (Go.Operand.tmp 88) (Go.Operand.const (Go.Value.int Go.IntKind.i64 0)) t88 (Go.Value.int Go.IntKind.i64 0)) fun t89 =>
   condV t89
    (K (Go.Value.bool false) w_28)
    (Pu Tryz.prog (bopS Go.BinOp.add 3 (Go.Operand.tmp 56) (Go.Operand.const (Go.Value.int Go.IntKind.i64 1)) u56 (Go.Value.int Go.IntKind.i64 1)) fun t90 =>
   I_1 t90 w_28 ∧ μ_1 t90 w_28 < μ_1 u56 w_17))))
    (Cl Tryz.prog 30 #[t17, t1] w_17 fun t93 w_29 =>
  Cl Tryz.prog 8 #[] w_29 fun t94 w_30 =>
  condV t94
  (Pu Tryz.prog (bopS Go.BinOp.eql 40 (Go.Operand.tmp 96) (Go.Operand.const (Go.Value.int Go.IntKind.i64 0)) t93 (Go.Value.int Go.IntKind.i64 0)) fun t97 =>
  condV t97
  (Cl Tryz.prog 32 #[t17] w_30 fun t101 w_31 =>
  Cl Tryz.prog 32 #[t49] w_31 fun t103 w_32 =>
  Cl Tryz.prog 31 #[t101, t103] w_32 fun t104 w_33 =>
  K t104 w_33)
  (K (Go.Value.bool false) w_30))
  (K (Go.Value.bool false) w_30)))))))))

def alumlaw10_RedoIsRepeated_ann : Ann :=
  { loop := fun r => match r with | 5 => [10] | 15 => [56] | _ => [],
    plan := fun _ => .done,
    hold := fun _ => fun _ => false,
    join := fun _ => none }

theorem alumlaw10_RedoIsRepeated_ok {K : Value → World → Prop} {t0 t1 t2 t3 : Value} {w : World} (h : alumlaw10_RedoIsRepeated_w K t0 t1 t2 t3 w) : Calls Tryz.prog 5 #[t0, t1, t2, t3] w (Rt K) :=
  calls_of_wpC (A := alumlaw10_RedoIsRepeated_ann) (c := Tryz.f5.body.getD .skip) (args := [t0, t1, t2, t3]) mixed Tryz.func5 rfl (by kernel_rfl) (Eq.mp (by kernel_rfl) h)

theorem alumlaw10_RedoIsRepeated_en : enters Tryz.prog 5 = true := by kernel_rfl

theorem alumlaw10_RedoIsRepeated_cl {K : Value → World → Prop} {t0 t1 t2 t3 : Value} {w : World} (h : Calls Tryz.prog 5 #[t0, t1, t2, t3] w (Rt K)) : Cl Tryz.prog 5 #[t0, t1, t2, t3] w K := ⟨alumlaw10_RedoIsRepeated_en, h⟩

end Go.Proofs.YtlolaieolgmdnaaGreatDoor
