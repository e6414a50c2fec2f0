import Derived.Test.YtlolaieolgmdnaaDoorSh1
import Derived.Test.YtlolaieolgmdnaaDoorProg
import Derived.KernelRfl
namespace Go.Proofs.YtlolaieolgmdnaaDoor
open Go.RowKit
set_option linter.unusedVariables false
set_option maxRecDepth 100000



def alumlaw10_sanity_w (K : Value → World → Prop) (w : World) : Prop :=
  Cl Tryd.prog 28 #[(Go.Value.int Go.IntKind.i64 2)] w fun t12 w_1 =>
  Cl Tryd.prog 8 #[t12] w_1 fun t14 w_2 =>
  Pu Tryd.prog (bopS Go.BinOp.eql 25 (Go.Operand.tmp 15) (Go.Operand.const (Go.Value.pointer none)) t12 (Go.Value.pointer none)) fun t16 =>
  condV t16
  (K (Go.Value.bool false) w_2)
  (Pu Tryd.prog (bopS Go.BinOp.eql 30 (Go.Operand.tmp 18) (Go.Operand.const (Go.Value.pointer none)) t14 (Go.Value.pointer none)) fun t19 =>
  condV t19
   (K (Go.Value.bool false) w_2)
   (Cl Tryd.prog 10 #[t14, (Go.Value.int Go.IntKind.i64 9), (Go.Value.int Go.IntKind.i64 5)] w_2 fun t22 w_3 =>
  Cl Tryd.prog 10 #[t14, (Go.Value.int Go.IntKind.i64 3), (Go.Value.int Go.IntKind.i64 1)] w_3 fun t24 w_4 =>
  Cl Tryd.prog 10 #[t14, (Go.Value.int Go.IntKind.i64 9), (Go.Value.int Go.IntKind.i64 7)] w_4 fun t26 w_5 =>
  Cl Tryd.prog 14 #[t14, (Go.Value.int Go.IntKind.i64 9)] w_5 fun t29 w_6 =>
  Pu Tryd.prog (Instr.extract t29 0) fun t30 =>
  Pu Tryd.prog (Instr.extract t29 1) fun t31 =>
  Pu Tryd.prog (Instr.build 34 #[(0, (Go.Value.int Go.IntKind.i64 3)), (1, (Go.Value.int Go.IntKind.i64 1))]) fun t32 =>
  Pu Tryd.prog (Instr.build 34 #[(0, (Go.Value.int Go.IntKind.i64 9)), (1, (Go.Value.int Go.IntKind.i64 7))]) fun t33 =>
  Bn Tryd.prog (Instr.buildSlice 24 2 #[(0, t32), (1, t33)]) w_6 fun t34 w_7 =>
  Pu Tryd.prog (bopS Go.BinOp.eql 3 (Go.Operand.tmp 35) (Go.Operand.const (Go.Value.int Go.IntKind.i64 7)) t30 (Go.Value.int Go.IntKind.i64 7)) fun t36 =>
  condV t36
  (Pu Tryd.prog (bopS Go.BinOp.eql 27 (Go.Operand.tmp 38) (Go.Operand.const (Go.Value.int Go.IntKind.i64 0)) t31 (Go.Value.int Go.IntKind.i64 0)) fun t39 =>
  condV t39
  (Cl Tryd.prog 12 #[t14] w_7 fun t43 w_8 =>
  Cl Tryd.prog 20 #[t43, t34] w_8 fun t45 w_9 =>
  condV t45
  (Pu Tryd.prog (nilC t14) fun t49 =>
  Pu Tryd.prog (Instr.fieldAt 70 t49 0) fun t50 =>
  Bn Tryd.prog (Instr.loadAt 68 t50) w_9 fun t51 w_10 =>
  Cl Tryd.prog 29 #[t51] w_10 fun t52 w_11 =>
  Pu Tryd.prog (bopS Go.BinOp.eql 25 (Go.Operand.tmp 52) (Go.Operand.tmp 53) t52 t12) fun t54 =>
  Cl Tryd.prog 30 #[t14, (Go.Value.int Go.IntKind.i64 2)] w_11 fun t57 w_12 =>
  Cl Tryd.prog 14 #[t14, (Go.Value.int Go.IntKind.i64 9)] w_12 fun t60 w_13 =>
  Pu Tryd.prog (Instr.extract t60 0) fun t61 =>
  Pu Tryd.prog (Instr.extract t60 1) fun t62 =>
  Pu Tryd.prog (bopS Go.BinOp.eql 3 (Go.Operand.tmp 63) (Go.Operand.const (Go.Value.int Go.IntKind.i64 5)) t61 (Go.Value.int Go.IntKind.i64 5)) fun t64 =>
  condV t64
  (Cl Tryd.prog 31 #[t14] w_13 fun t67 w_14 =>
  Pu Tryd.prog (bopS Go.BinOp.eql 3 (Go.Operand.tmp 67) (Go.Operand.const (Go.Value.int Go.IntKind.i64 2)) t67 (Go.Value.int Go.IntKind.i64 2)) fun t68 =>
  Pu Tryd.prog (Instr.build 34 #[(0, (Go.Value.int Go.IntKind.i64 9)), (1, (Go.Value.int Go.IntKind.i64 5))]) fun t70 =>
  Pu Tryd.prog (Instr.build 34 #[(0, (Go.Value.int Go.IntKind.i64 3)), (1, (Go.Value.int Go.IntKind.i64 1))]) fun t71 =>
  Bn Tryd.prog (Instr.buildSlice 24 2 #[(0, t70), (1, t71)]) w_14 fun t72 w_15 =>
  Pu Tryd.prog (Instr.build 44 #[(1, t72)]) fun t73 =>
  Pu Tryd.prog (Instr.build 34 #[(0, (Go.Value.int Go.IntKind.i64 9)), (1, (Go.Value.int Go.IntKind.i64 7))]) fun t74 =>
  Bn Tryd.prog (Instr.buildSlice 24 1 #[(0, t74)]) w_15 fun t75 w_16 =>
  Pu Tryd.prog (Instr.build 44 #[(1, t75)]) fun t76 =>
  Bn Tryd.prog (Instr.buildSlice 41 2 #[(0, t73), (1, t76)]) w_16 fun t77 w_17 =>
  Cl Tryd.prog 17 #[t77] w_17 fun t78 w_18 =>
  Pu Tryd.prog (Instr.build 34 #[(0, (Go.Value.int Go.IntKind.i64 9))]) fun t79 =>
  Pu Tryd.prog (Instr.build 34 #[(0, (Go.Value.int Go.IntKind.i64 3))]) fun t80 =>
  Pu Tryd.prog (Instr.build 34 #[(0, (Go.Value.int Go.IntKind.i64 8))]) fun t81 =>
  Bn Tryd.prog (Instr.buildSlice 24 3 #[(0, t79), (1, t80), (2, t81)]) w_18 fun t82 w_19 =>
  Cl Tryd.prog 32 #[t82] w_19 fun t83 w_20 =>
  condV t54
  (condV t68
  (Cl Tryd.prog 20 #[t78, t34] w_20 fun t91 w_21 =>
  condV t91
  (Bn Tryd.prog (Builtin.len_ #[72] 3 #[t83]) w_21 fun t95 w_22 =>
  Pu Tryd.prog (bopS Go.BinOp.eql 3 (Go.Operand.tmp 95) (Go.Operand.const (Go.Value.int Go.IntKind.i64 2)) t95 (Go.Value.int Go.IntKind.i64 2)) fun t96 =>
  condV t96
  (Pu Tryd.prog (Instr.indexAt 72 t83 (Go.Value.int Go.IntKind.i64 0)) fun t100 =>
  Bn Tryd.prog (Instr.loadAt 3 t100) w_22 fun t101 w_23 =>
  Pu Tryd.prog (bopS Go.BinOp.eql 3 (Go.Operand.tmp 101) (Go.Operand.const (Go.Value.int Go.IntKind.i64 0)) t101 (Go.Value.int Go.IntKind.i64 0)) fun t102 =>
  condV t102
  (Pu Tryd.prog (Instr.indexAt 72 t83 (Go.Value.int Go.IntKind.i64 1)) fun t106 =>
  Bn Tryd.prog (Instr.loadAt 3 t106) w_23 fun t107 w_24 =>
  Pu Tryd.prog (bopS Go.BinOp.eql 3 (Go.Operand.tmp 107) (Go.Operand.const (Go.Value.int Go.IntKind.i64 1)) t107 (Go.Value.int Go.IntKind.i64 1)) fun t108 =>
  K t108 w_24)
  (K (Go.Value.bool false) w_23))
  (K (Go.Value.bool false) w_22))
  (K (Go.Value.bool false) w_21))
  (K (Go.Value.bool false) w_20))
  (K (Go.Value.bool false) w_20))
  (Pu Tryd.prog (Instr.build 34 #[(0, (Go.Value.int Go.IntKind.i64 9)), (1, (Go.Value.int Go.IntKind.i64 5))]) fun t70_1 =>
  Pu Tryd.prog (Instr.build 34 #[(0, (Go.Value.int Go.IntKind.i64 3)), (1, (Go.Value.int Go.IntKind.i64 1))]) fun t71_1 =>
  Bn Tryd.prog (Instr.buildSlice 24 2 #[(0, t70_1), (1, t71_1)]) w_13 fun t72_1 w_25 =>
  Pu Tryd.prog (Instr.build 44 #[(1, t72_1)]) fun t73_1 =>
  Pu Tryd.prog (Instr.build 34 #[(0, (Go.Value.int Go.IntKind.i64 9)), (1, (Go.Value.int Go.IntKind.i64 7))]) fun t74_1 =>
  Bn Tryd.prog (Instr.buildSlice 24 1 #[(0, t74_1)]) w_25 fun t75_1 w_26 =>
  Pu Tryd.prog (Instr.build 44 #[(1, t75_1)]) fun t76_1 =>
  Bn Tryd.prog (Instr.buildSlice 41 2 #[(0, t73_1), (1, t76_1)]) w_26 fun t77_1 w_27 =>
  Cl Tryd.prog 17 #[t77_1] w_27 fun t78_1 w_28 =>
  Pu Tryd.prog (Instr.build 34 #[(0, (Go.Value.int Go.IntKind.i64 9))]) fun t79_1 =>
  Pu Tryd.prog (Instr.build 34 #[(0, (Go.Value.int Go.IntKind.i64 3))]) fun t80_1 =>
  Pu Tryd.prog (Instr.build 34 #[(0, (Go.Value.int Go.IntKind.i64 8))]) fun t81_1 =>
  Bn Tryd.prog (Instr.buildSlice 24 3 #[(0, t79_1), (1, t80_1), (2, t81_1)]) w_28 fun t82_1 w_29 =>
  Cl Tryd.prog 32 #[t82_1] w_29 fun t83_1 w_30 =>
  condV t54
  (K (Go.Value.bool false) w_30)
  (K (Go.Value.bool false) w_30)))
  (Cl Tryd.prog 30 #[t14, (Go.Value.int Go.IntKind.i64 2)] w_9 fun t57_1 w_31 =>
  Cl Tryd.prog 14 #[t14, (Go.Value.int Go.IntKind.i64 9)] w_31 fun t60_1 w_32 =>
  Pu Tryd.prog (Instr.extract t60_1 0) fun t61_1 =>
  Pu Tryd.prog (Instr.extract t60_1 1) fun t62_1 =>
  Pu Tryd.prog (bopS Go.BinOp.eql 3 (Go.Operand.tmp 63) (Go.Operand.const (Go.Value.int Go.IntKind.i64 5)) t61_1 (Go.Value.int Go.IntKind.i64 5)) fun t64_1 =>
  condV t64_1
  (Cl Tryd.prog 31 #[t14] w_32 fun t67_1 w_33 =>
  Pu Tryd.prog (bopS Go.BinOp.eql 3 (Go.Operand.tmp 67) (Go.Operand.const (Go.Value.int Go.IntKind.i64 2)) t67_1 (Go.Value.int Go.IntKind.i64 2)) fun t68_1 =>
  Pu Tryd.prog (Instr.build 34 #[(0, (Go.Value.int Go.IntKind.i64 9)), (1, (Go.Value.int Go.IntKind.i64 5))]) fun t70_2 =>
  Pu Tryd.prog (Instr.build 34 #[(0, (Go.Value.int Go.IntKind.i64 3)), (1, (Go.Value.int Go.IntKind.i64 1))]) fun t71_2 =>
  Bn Tryd.prog (Instr.buildSlice 24 2 #[(0, t70_2), (1, t71_2)]) w_33 fun t72_2 w_34 =>
  Pu Tryd.prog (Instr.build 44 #[(1, t72_2)]) fun t73_2 =>
  Pu Tryd.prog (Instr.build 34 #[(0, (Go.Value.int Go.IntKind.i64 9)), (1, (Go.Value.int Go.IntKind.i64 7))]) fun t74_2 =>
  Bn Tryd.prog (Instr.buildSlice 24 1 #[(0, t74_2)]) w_34 fun t75_2 w_35 =>
  Pu Tryd.prog (Instr.build 44 #[(1, t75_2)]) fun t76_2 =>
  Bn Tryd.prog (Instr.buildSlice 41 2 #[(0, t73_2), (1, t76_2)]) w_35 fun t77_2 w_36 =>
  Cl Tryd.prog 17 #[t77_2] w_36 fun t78_2 w_37 =>
  Pu Tryd.prog (Instr.build 34 #[(0, (Go.Value.int Go.IntKind.i64 9))]) fun t79_2 =>
  Pu Tryd.prog (Instr.build 34 #[(0, (Go.Value.int Go.IntKind.i64 3))]) fun t80_2 =>
  Pu Tryd.prog (Instr.build 34 #[(0, (Go.Value.int Go.IntKind.i64 8))]) fun t81_2 =>
  Bn Tryd.prog (Instr.buildSlice 24 3 #[(0, t79_2), (1, t80_2), (2, t81_2)]) w_37 fun t82_2 w_38 =>
  Cl Tryd.prog 32 #[t82_2] w_38 fun t83_2 w_39 =>
  K (Go.Value.bool false) w_39)
  (Pu Tryd.prog (Instr.build 34 #[(0, (Go.Value.int Go.IntKind.i64 9)), (1, (Go.Value.int Go.IntKind.i64 5))]) fun t70_3 =>
  Pu Tryd.prog (Instr.build 34 #[(0, (Go.Value.int Go.IntKind.i64 3)), (1, (Go.Value.int Go.IntKind.i64 1))]) fun t71_3 =>
  Bn Tryd.prog (Instr.buildSlice 24 2 #[(0, t70_3), (1, t71_3)]) w_32 fun t72_3 w_40 =>
  Pu Tryd.prog (Instr.build 44 #[(1, t72_3)]) fun t73_3 =>
  Pu Tryd.prog (Instr.build 34 #[(0, (Go.Value.int Go.IntKind.i64 9)), (1, (Go.Value.int Go.IntKind.i64 7))]) fun t74_3 =>
  Bn Tryd.prog (Instr.buildSlice 24 1 #[(0, t74_3)]) w_40 fun t75_3 w_41 =>
  Pu Tryd.prog (Instr.build 44 #[(1, t75_3)]) fun t76_3 =>
  Bn Tryd.prog (Instr.buildSlice 41 2 #[(0, t73_3), (1, t76_3)]) w_41 fun t77_3 w_42 =>
  Cl Tryd.prog 17 #[t77_3] w_42 fun t78_3 w_43 =>
  Pu Tryd.prog (Instr.build 34 #[(0, (Go.Value.int Go.IntKind.i64 9))]) fun t79_3 =>
  Pu Tryd.prog (Instr.build 34 #[(0, (Go.Value.int Go.IntKind.i64 3))]) fun t80_3 =>
  Pu Tryd.prog (Instr.build 34 #[(0, (Go.Value.int Go.IntKind.i64 8))]) fun t81_3 =>
  Bn Tryd.prog (Instr.buildSlice 24 3 #[(0, t79_3), (1, t80_3), (2, t81_3)]) w_43 fun t82_3 w_44 =>
  Cl Tryd.prog 32 #[t82_3] w_44 fun t83_3 w_45 =>
  K (Go.Value.bool false) w_45)))
  (Cl Tryd.prog 30 #[t14, (Go.Value.int Go.IntKind.i64 2)] w_7 fun t57_2 w_46 =>
  Cl Tryd.prog 14 #[t14, (Go.Value.int Go.IntKind.i64 9)] w_46 fun t60_2 w_47 =>
  Pu Tryd.prog (Instr.extract t60_2 0) fun t61_2 =>
  Pu Tryd.prog (Instr.extract t60_2 1) fun t62_2 =>
  Pu Tryd.prog (bopS Go.BinOp.eql 3 (Go.Operand.tmp 63) (Go.Operand.const (Go.Value.int Go.IntKind.i64 5)) t61_2 (Go.Value.int Go.IntKind.i64 5)) fun t64_2 =>
  condV t64_2
  (Cl Tryd.prog 31 #[t14] w_47 fun t67_2 w_48 =>
  Pu Tryd.prog (bopS Go.BinOp.eql 3 (Go.Operand.tmp 67) (Go.Operand.const (Go.Value.int Go.IntKind.i64 2)) t67_2 (Go.Value.int Go.IntKind.i64 2)) fun t68_2 =>
  Pu Tryd.prog (Instr.build 34 #[(0, (Go.Value.int Go.IntKind.i64 9)), (1, (Go.Value.int Go.IntKind.i64 5))]) fun t70_4 =>
  Pu Tryd.prog (Instr.build 34 #[(0, (Go.Value.int Go.IntKind.i64 3)), (1, (Go.Value.int Go.IntKind.i64 1))]) fun t71_4 =>
  Bn Tryd.prog (Instr.buildSlice 24 2 #[(0, t70_4), (1, t71_4)]) w_48 fun t72_4 w_49 =>
  Pu Tryd.prog (Instr.build 44 #[(1, t72_4)]) fun t73_4 =>
  Pu Tryd.prog (Instr.build 34 #[(0, (Go.Value.int Go.IntKind.i64 9)), (1, (Go.Value.int Go.IntKind.i64 7))]) fun t74_4 =>
  Bn Tryd.prog (Instr.buildSlice 24 1 #[(0, t74_4)]) w_49 fun t75_4 w_50 =>
  Pu Tryd.prog (Instr.build 44 #[(1, t75_4)]) fun t76_4 =>
  Bn Tryd.prog (Instr.buildSlice 41 2 #[(0, t73_4), (1, t76_4)]) w_50 fun t77_4 w_51 =>
  Cl Tryd.prog 17 #[t77_4] w_51 fun t78_4 w_52 =>
  Pu Tryd.prog (Instr.build 34 #[(0, (Go.Value.int Go.IntKind.i64 9))]) fun t79_4 =>
  Pu Tryd.prog (Instr.build 34 #[(0, (Go.Value.int Go.IntKind.i64 3))]) fun t80_4 =>
  Pu Tryd.prog (Instr.build 34 #[(0, (Go.Value.int Go.IntKind.i64 8))]) fun t81_4 =>
  Bn Tryd.prog (Instr.buildSlice 24 3 #[(0, t79_4), (1, t80_4), (2, t81_4)]) w_52 fun t82_4 w_53 =>
  Cl Tryd.prog 32 #[t82_4] w_53 fun t83_4 w_54 =>
  K (Go.Value.bool false) w_54)
  (Pu Tryd.prog (Instr.build 34 #[(0, (Go.Value.int Go.IntKind.i64 9)), (1, (Go.Value.int Go.IntKind.i64 5))]) fun t70_5 =>
  Pu Tryd.prog (Instr.build 34 #[(0, (Go.Value.int Go.IntKind.i64 3)), (1, (Go.Value.int Go.IntKind.i64 1))]) fun t71_5 =>
  Bn Tryd.prog (Instr.buildSlice 24 2 #[(0, t70_5), (1, t71_5)]) w_47 fun t72_5 w_55 =>
  Pu Tryd.prog (Instr.build 44 #[(1, t72_5)]) fun t73_5 =>
  Pu Tryd.prog (Instr.build 34 #[(0, (Go.Value.int Go.IntKind.i64 9)), (1, (Go.Value.int Go.IntKind.i64 7))]) fun t74_5 =>
  Bn Tryd.prog (Instr.buildSlice 24 1 #[(0, t74_5)]) w_55 fun t75_5 w_56 =>
  Pu Tryd.prog (Instr.build 44 #[(1, t75_5)]) fun t76_5 =>
  Bn Tryd.prog (Instr.buildSlice 41 2 #[(0, t73_5), (1, t76_5)]) w_56 fun t77_5 w_57 =>
  Cl Tryd.prog 17 #[t77_5] w_57 fun t78_5 w_58 =>
  Pu Tryd.prog (Instr.build 34 #[(0, (Go.Value.int Go.IntKind.i64 9))]) fun t79_5 =>
  Pu Tryd.prog (Instr.build 34 #[(0, (Go.Value.int Go.IntKind.i64 3))]) fun t80_5 =>
  Pu Tryd.prog (Instr.build 34 #[(0, (Go.Value.int Go.IntKind.i64 8))]) fun t81_5 =>
  Bn Tryd.prog (Instr.buildSlice 24 3 #[(0, t79_5), (1, t80_5), (2, t81_5)]) w_58 fun t82_5 w_59 =>
  Cl Tryd.prog 32 #[t82_5] w_59 fun t83_5 w_60 =>
  K (Go.Value.bool false) w_60)))
  (Cl Tryd.prog 30 #[t14, (Go.Value.int Go.IntKind.i64 2)] w_7 fun t57_3 w_61 =>
  Cl Tryd.prog 14 #[t14, (Go.Value.int Go.IntKind.i64 9)] w_61 fun t60_3 w_62 =>
  Pu Tryd.prog (Instr.extract t60_3 0) fun t61_3 =>
  Pu Tryd.prog (Instr.extract t60_3 1) fun t62_3 =>
  Pu Tryd.prog (bopS Go.BinOp.eql 3 (Go.Operand.tmp 63) (Go.Operand.const (Go.Value.int Go.IntKind.i64 5)) t61_3 (Go.Value.int Go.IntKind.i64 5)) fun t64_3 =>
  condV t64_3
  (Cl Tryd.prog 31 #[t14] w_62 fun t67_3 w_63 =>
  Pu Tryd.prog (bopS Go.BinOp.eql 3 (Go.Operand.tmp 67) (Go.Operand.const (Go.Value.int Go.IntKind.i64 2)) t67_3 (Go.Value.int Go.IntKind.i64 2)) fun t68_3 =>
  Pu Tryd.prog (Instr.build 34 #[(0, (Go.Value.int Go.IntKind.i64 9)), (1, (Go.Value.int Go.IntKind.i64 5))]) fun t70_6 =>
  Pu Tryd.prog (Instr.build 34 #[(0, (Go.Value.int Go.IntKind.i64 3)), (1, (Go.Value.int Go.IntKind.i64 1))]) fun t71_6 =>
  Bn Tryd.prog (Instr.buildSlice 24 2 #[(0, t70_6), (1, t71_6)]) w_63 fun t72_6 w_64 =>
  Pu Tryd.prog (Instr.build 44 #[(1, t72_6)]) fun t73_6 =>
  Pu Tryd.prog (Instr.build 34 #[(0, (Go.Value.int Go.IntKind.i64 9)), (1, (Go.Value.int Go.IntKind.i64 7))]) fun t74_6 =>
  Bn Tryd.prog (Instr.buildSlice 24 1 #[(0, t74_6)]) w_64 fun t75_6 w_65 =>
  Pu Tryd.prog (Instr.build 44 #[(1, t75_6)]) fun t76_6 =>
  Bn Tryd.prog (Instr.buildSlice 41 2 #[(0, t73_6), (1, t76_6)]) w_65 fun t77_6 w_66 =>
  Cl Tryd.prog 17 #[t77_6] w_66 fun t78_6 w_67 =>
  Pu Tryd.prog (Instr.build 34 #[(0, (Go.Value.int Go.IntKind.i64 9))]) fun t79_6 =>
  Pu Tryd.prog (Instr.build 34 #[(0, (Go.Value.int Go.IntKind.i64 3))]) fun t80_6 =>
  Pu Tryd.prog (Instr.build 34 #[(0, (Go.Value.int Go.IntKind.i64 8))]) fun t81_6 =>
  Bn Tryd.prog (Instr.buildSlice 24 3 #[(0, t79_6), (1, t80_6), (2, t81_6)]) w_67 fun t82_6 w_68 =>
  Cl Tryd.prog 32 #[t82_6] w_68 fun t83_6 w_69 =>
  K (Go.Value.bool false) w_69)
  (Pu Tryd.prog (Instr.build 34 #[(0, (Go.Value.int Go.IntKind.i64 9)), (1, (Go.Value.int Go.IntKind.i64 5))]) fun t70_7 =>
  Pu Tryd.prog (Instr.build 34 #[(0, (Go.Value.int Go.IntKind.i64 3)), (1, (Go.Value.int Go.IntKind.i64 1))]) fun t71_7 =>
  Bn Tryd.prog (Instr.buildSlice 24 2 #[(0, t70_7), (1, t71_7)]) w_62 fun t72_7 w_70 =>
  Pu Tryd.prog (Instr.build 44 #[(1, t72_7)]) fun t73_7 =>
  Pu Tryd.prog (Instr.build 34 #[(0, (Go.Value.int Go.IntKind.i64 9)), (1, (Go.Value.int Go.IntKind.i64 7))]) fun t74_7 =>
  Bn Tryd.prog (Instr.buildSlice 24 1 #[(0, t74_7)]) w_70 fun t75_7 w_71 =>
  Pu Tryd.prog (Instr.build 44 #[(1, t75_7)]) fun t76_7 =>
  Bn Tryd.prog (Instr.buildSlice 41 2 #[(0, t73_7), (1, t76_7)]) w_71 fun t77_7 w_72 =>
  Cl Tryd.prog 17 #[t77_7] w_72 fun t78_7 w_73 =>
  Pu Tryd.prog (Instr.build 34 #[(0, (Go.Value.int Go.IntKind.i64 9))]) fun t79_7 =>
  Pu Tryd.prog (Instr.build 34 #[(0, (Go.Value.int Go.IntKind.i64 3))]) fun t80_7 =>
  Pu Tryd.prog (Instr.build 34 #[(0, (Go.Value.int Go.IntKind.i64 8))]) fun t81_7 =>
  Bn Tryd.prog (Instr.buildSlice 24 3 #[(0, t79_7), (1, t80_7), (2, t81_7)]) w_73 fun t82_7 w_74 =>
  Cl Tryd.prog 32 #[t82_7] w_74 fun t83_7 w_75 =>
  K (Go.Value.bool false) w_75))))

def alumlaw10_sanity_ann : Ann :=
  { loop := fun _ => [],
    plan := fun _ => .done,
    hold := fun _ => fun _ => false,
    join := fun _ => none }

theorem alumlaw10_sanity_ok {K : Value → World → Prop} {w : World} (h : alumlaw10_sanity_w K w) : Calls Tryd.prog 7 #[] w (Rt K) :=
  calls_of_wpC (A := alumlaw10_sanity_ann) (c := Tryd.f7.body.getD .skip) (args := []) mixed Tryd.func7 rfl (by kernel_rfl) (Eq.mp (by kernel_rfl) h)

theorem alumlaw10_sanity_en : enters Tryd.prog 7 = true := by kernel_rfl

theorem alumlaw10_sanity_cl {K : Value → World → Prop} {w : World} (h : Calls Tryd.prog 7 #[] w (Rt K)) : Cl Tryd.prog 7 #[] w K := ⟨alumlaw10_sanity_en, h⟩

def alumlaw10_RedoViewsShow_w (K : Value → World → Prop) (t0 t1 : Value) (w : World) : Prop :=
  Cl Tryd.prog 5 #[t0] w fun t19 w_1 =>
  Pu Tryd.prog (bopS Go.BinOp.eql 25 (Go.Operand.tmp 20) (Go.Operand.const (Go.Value.pointer none)) t19 (Go.Value.pointer none)) fun t21 =>
  condV t21
  (Cl Tryd.prog 7 #[] w_1 fun t38 w_2 =>
  K t38 w_2)
  (Bn Tryd.prog (Builtin.len_ #[23] 3 #[t0]) w_1 fun t24 w_3 =>
  Pu Tryd.prog (bopS Go.BinOp.gtr 3 (Go.Operand.tmp 24) (Go.Operand.const (Go.Value.int Go.IntKind.i64 12)) t24 (Go.Value.int Go.IntKind.i64 12)) fun t25 =>
  condV t25
  (Cl Tryd.prog 7 #[] w_3 fun t38_1 w_4 =>
  K t38_1 w_4)
  (Bn Tryd.prog (Builtin.len_ #[24] 3 #[t1]) w_3 fun t29 w_5 =>
  Pu Tryd.prog (bopS Go.BinOp.gtr 3 (Go.Operand.tmp 29) (Go.Operand.const (Go.Value.int Go.IntKind.i64 40)) t29 (Go.Value.int Go.IntKind.i64 40)) fun t30 =>
  condV t30
  (Cl Tryd.prog 7 #[] w_5 fun t38_2 w_6 =>
  K t38_2 w_6)
  (Cl Tryd.prog 6 #[t19, t1] w_5 fun t35 w_7 =>
  Pu Tryd.prog (bopS Go.BinOp.neq 27 (Go.Operand.tmp 35) (Go.Operand.const (Go.Value.int Go.IntKind.i64 0)) t35 (Go.Value.int Go.IntKind.i64 0)) fun t36 =>
  condV t36
   (Cl Tryd.prog 7 #[] w_7 fun t38_3 w_8 =>
   K t38_3 w_8)
   (Cl Tryd.prog 8 #[t19] w_7 fun t40 w_9 =>
  Cl Tryd.prog 9 #[t19] w_9 fun t42 w_10 =>
  Cl Tryd.prog 9 #[t19] w_10 fun t44 w_11 =>
  Pu Tryd.prog (bopS Go.BinOp.eql 30 (Go.Operand.tmp 45) (Go.Operand.const (Go.Value.pointer none)) t40 (Go.Value.pointer none)) fun t46 =>
  condV t46
  (K (Go.Value.bool false) w_11)
  (Pu Tryd.prog (bopS Go.BinOp.eql 25 (Go.Operand.tmp 48) (Go.Operand.const (Go.Value.pointer none)) t42 (Go.Value.pointer none)) fun t49 =>
  condV t49
  (K (Go.Value.bool false) w_11)
  (Pu Tryd.prog (bopS Go.BinOp.eql 25 (Go.Operand.tmp 52) (Go.Operand.const (Go.Value.pointer none)) t44 (Go.Value.pointer none)) fun t53 =>
  condV t53
   (K (Go.Value.bool false) w_11)
   (Bn Tryd.prog (Builtin.len_ #[24] 3 #[t1]) w_11 fun t56 w_12 =>
  ∃ (I : Value → World → Prop) (μ : Value → World → Nat), I (Go.Value.int Go.IntKind.i64 0) w_12 ∧
   ∀ (u58 u59 u60 u10 u61 u62 u63 u64 u65 u66 u67 u4 u68 u57 : Value) (w_13 : World), I u57 w_13 →
   Pu Tryd.prog (bopS Go.BinOp.lss 3 (Go.Operand.tmp 57) (Go.Operand.tmp 56) u57 t56) fun t58 =>
   condV t58
    (Pu Tryd.prog (Instr.indexAt 24 t1 u57) fun t59 =>
   Bn Tryd.prog (Instr.loadAt 34 t59) w_13 fun t60 w_14 =>
   Bn Tryd.prog (Instr.alloc 34 true (Value.tuple #[])) w_14 fun t10 w_15 =>
   Bn Tryd.prog (unitV (Instr.storeAt 34 t10 t60)) w_15 fun _ w_16 =>
   Pu Tryd.prog (Instr.fieldAt 34 t10 0) fun t62 =>
   Bn Tryd.prog (Instr.loadAt 3 t62) w_16 fun t63 w_17 =>
   Pu Tryd.prog (Instr.fieldAt 34 t10 1) fun t64 =>
   Bn Tryd.prog (Instr.loadAt 3 t64) w_17 fun t65 w_18 =>
   Cl Tryd.prog 10 #[t40, t63, t65] w_18 fun t66 w_19 =>
   Pu Tryd.prog (bopS Go.BinOp.neq 27 (Go.Operand.tmp 66) (Go.Operand.const (Go.Value.int Go.IntKind.i64 0)) t66 (Go.Value.int Go.IntKind.i64 0)) fun t67 =>
   condV t67
    (K (Go.Value.bool false) w_19)
    (Pu Tryd.prog (bopS Go.BinOp.add 3 (Go.Operand.tmp 57) (Go.Operand.const (Go.Value.int Go.IntKind.i64 1)) u57 (Go.Value.int Go.IntKind.i64 1)) fun t68 =>
   I t68 w_19 ∧ μ t68 w_19 < μ u57 w_13))
    (Cl Tryd.prog 12 #[t40] w_13 fun t71 w_20 =>
  Cl Tryd.prog 11 #[t42, t71] w_20 fun t72 w_21 =>
  Pu Tryd.prog (bopS Go.BinOp.neq 27 (Go.Operand.tmp 72) (Go.Operand.const (Go.Value.int Go.IntKind.i64 0)) t72 (Go.Value.int Go.IntKind.i64 0)) fun t73 =>
  condV t73
  (K (Go.Value.bool false) w_21)
  (Cl Tryd.prog 11 #[t44, t1] w_21 fun t77 w_22 =>
  Pu Tryd.prog (bopS Go.BinOp.neq 27 (Go.Operand.tmp 77) (Go.Operand.const (Go.Value.int Go.IntKind.i64 0)) t77 (Go.Value.int Go.IntKind.i64 0)) fun t78 =>
  condV t78
   (K (Go.Value.bool false) w_22)
   (∃ (I_1 : Value → World → Prop) (μ_1 : Value → World → Nat), I_1 (Go.Value.int Go.IntKind.i64 0) w_22 ∧
   ∀ (u80 u81 u82 u83 u84 u88 u89 u90 u87 u91 u92 u12 u13 u94 u95 u96 u93 u97 u98 u14 u15 u100 u101 u102 u99 u103 u104 u16 u17 u105 u106 u107 u108 u109 u110 u111 u112 u113 u114 u115 u116 u117 u118 u119 u120 u121 u122 u4_1 u85 u86 u11 : Value) (w_23 : World), I_1 u11 w_23 →
   Cl Tryd.prog 13 #[t19] w_23 fun t82 w_24 =>
   Pu Tryd.prog (bopS Go.BinOp.mul 3 (Go.Operand.const (Go.Value.int Go.IntKind.i64 8)) (Go.Operand.tmp 82) (Go.Value.int Go.IntKind.i64 8) t82) fun t83 =>
   Pu Tryd.prog (bopS Go.BinOp.lss 3 (Go.Operand.tmp 80) (Go.Operand.tmp 83) u11 t83) fun t84 =>
   condV t84
    (Cl Tryd.prog 14 #[t40, u11] w_24 fun t90 w_25 =>
   Pu Tryd.prog (Instr.extract t90 0) fun t91 =>
   Pu Tryd.prog (Instr.extract t90 1) fun t92 =>
   Cl Tryd.prog 15 #[t42, u11] w_25 fun t96 w_26 =>
   Pu Tryd.prog (Instr.extract t96 0) fun t97 =>
   Pu Tryd.prog (Instr.extract t96 1) fun t98 =>
   Cl Tryd.prog 15 #[t44, u11] w_26 fun t102 w_27 =>
   Pu Tryd.prog (Instr.extract t102 0) fun t103 =>
   Pu Tryd.prog (Instr.extract t102 1) fun t104 =>
   Pu Tryd.prog (bopS Go.BinOp.neq 3 (Go.Operand.tmp 105) (Go.Operand.tmp 106) t91 t97) fun t107 =>
   condV t107
   (K (Go.Value.bool false) w_27)
   (Pu Tryd.prog (bopS Go.BinOp.neq 3 (Go.Operand.tmp 109) (Go.Operand.tmp 110) t97 t103) fun t111 =>
   condV t111
   (K (Go.Value.bool false) w_27)
   (Pu Tryd.prog (bopS Go.BinOp.neq 27 (Go.Operand.tmp 114) (Go.Operand.tmp 115) t92 t98) fun t116 =>
   condV t116
   (K (Go.Value.bool false) w_27)
   (Pu Tryd.prog (bopS Go.BinOp.neq 27 (Go.Operand.tmp 119) (Go.Operand.tmp 120) t98 t104) fun t121 =>
   condV t121
    (K (Go.Value.bool false) w_27)
    (Pu Tryd.prog (bopS Go.BinOp.add 3 (Go.Operand.tmp 85) (Go.Operand.const (Go.Value.int Go.IntKind.i64 1)) u11 (Go.Value.int Go.IntKind.i64 1)) fun t86 =>
   I_1 t86 w_27 ∧ μ_1 t86 w_27 < μ_1 u11 w_23)))))
    (Cl Tryd.prog 7 #[] w_24 fun t123 w_28 =>
  K t123 w_28)))))))))))

def alumlaw10_RedoViewsShow_ann : Ann :=
  { loop := fun r => match r with | 9 => [57] | 17 => [11] | _ => [],
    plan := fun _ => .done,
    hold := fun _ => fun _ => false,
    join := fun _ => none }

theorem alumlaw10_RedoViewsShow_ok {K : Value → World → Prop} {t0 t1 : Value} {w : World} (h : alumlaw10_RedoViewsShow_w K t0 t1 w) : Calls Tryd.prog 3 #[t0, t1] w (Rt K) :=
  calls_of_wpC (A := alumlaw10_RedoViewsShow_ann) (c := Tryd.f3.body.getD .skip) (args := [t0, t1]) mixed Tryd.func3 rfl (by kernel_rfl) (Eq.mp (by kernel_rfl) h)

theorem alumlaw10_RedoViewsShow_en : enters Tryd.prog 3 = true := by kernel_rfl

theorem alumlaw10_RedoViewsShow_cl {K : Value → World → Prop} {t0 t1 : Value} {w : World} (h : Calls Tryd.prog 3 #[t0, t1] w (Rt K)) : Cl Tryd.prog 3 #[t0, t1] w K := ⟨alumlaw10_RedoViewsShow_en, h⟩

def alumlaw10_RedoMergesRecords_w (K : Value → World → Prop) (t0 t1 : Value) (w : World) : Prop :=
  Cl Tryd.prog 5 #[t0] w fun t13 w_1 =>
  Cl Tryd.prog 16 #[t1] w_1 fun t15 w_2 =>
  Pu Tryd.prog (bopS Go.BinOp.eql 25 (Go.Operand.tmp 16) (Go.Operand.const (Go.Value.pointer none)) t13 (Go.Value.pointer none)) fun t17 =>
  condV t17
  (Cl Tryd.prog 7 #[] w_2 fun t39 w_3 =>
  K t39 w_3)
  (Bn Tryd.prog (Builtin.len_ #[23] 3 #[t0]) w_2 fun t20 w_4 =>
  Pu Tryd.prog (bopS Go.BinOp.gtr 3 (Go.Operand.tmp 20) (Go.Operand.const (Go.Value.int Go.IntKind.i64 12)) t20 (Go.Value.int Go.IntKind.i64 12)) fun t21 =>
  condV t21
  (Cl Tryd.prog 7 #[] w_4 fun t39_1 w_5 =>
  K t39_1 w_5)
  (Bn Tryd.prog (Builtin.len_ #[41] 3 #[t1]) w_4 fun t25 w_6 =>
  Pu Tryd.prog (bopS Go.BinOp.gtr 3 (Go.Operand.tmp 25) (Go.Operand.const (Go.Value.int Go.IntKind.i64 10)) t25 (Go.Value.int Go.IntKind.i64 10)) fun t26 =>
  condV t26
  (Cl Tryd.prog 7 #[] w_6 fun t39_2 w_7 =>
  K t39_2 w_7)
  (Bn Tryd.prog (Builtin.len_ #[24] 3 #[t15]) w_6 fun t30 w_8 =>
  Pu Tryd.prog (bopS Go.BinOp.gtr 3 (Go.Operand.tmp 30) (Go.Operand.const (Go.Value.int Go.IntKind.i64 40)) t30 (Go.Value.int Go.IntKind.i64 40)) fun t31 =>
  condV t31
  (Cl Tryd.prog 7 #[] w_8 fun t39_3 w_9 =>
  K t39_3 w_9)
  (Cl Tryd.prog 6 #[t13, t15] w_8 fun t36 w_10 =>
  Pu Tryd.prog (bopS Go.BinOp.neq 27 (Go.Operand.tmp 36) (Go.Operand.const (Go.Value.int Go.IntKind.i64 0)) t36 (Go.Value.int Go.IntKind.i64 0)) fun t37 =>
  condV t37
   (Cl Tryd.prog 7 #[] w_10 fun t39_4 w_11 =>
   K t39_4 w_11)
   (Cl Tryd.prog 9 #[t13] w_10 fun t41 w_12 =>
  Cl Tryd.prog 9 #[t13] w_12 fun t43 w_13 =>
  Pu Tryd.prog (bopS Go.BinOp.eql 25 (Go.Operand.tmp 44) (Go.Operand.const (Go.Value.pointer none)) t41 (Go.Value.pointer none)) fun t45 =>
  condV t45
  (K (Go.Value.bool false) w_13)
  (Pu Tryd.prog (bopS Go.BinOp.eql 25 (Go.Operand.tmp 47) (Go.Operand.const (Go.Value.pointer none)) t43 (Go.Value.pointer none)) fun t48 =>
  condV t48
   (K (Go.Value.bool false) w_13)
   (Bn Tryd.prog (Builtin.len_ #[41] 3 #[t1]) w_13 fun t51 w_14 =>
  ∃ (I : Value → World → Prop) (μ : Value → World → Nat), I (Go.Value.int Go.IntKind.i64 0) w_14 ∧
   ∀ (u53 u54 u55 u10 u56 u57 u58 u59 u60 u4 u61 u52 : Value) (w_15 : World), I u52 w_15 →
   Pu Tryd.prog (bopS Go.BinOp.lss 3 (Go.Operand.tmp 52) (Go.Operand.tmp 51) u52 t51) fun t53 =>
   condV t53
    (Pu Tryd.prog (Instr.indexAt 41 t1 u52) fun t54 =>
   Bn Tryd.prog (Instr.loadAt 44 t54) w_15 fun t55 w_16 =>
   Bn Tryd.prog (Instr.alloc 44 true (Value.tuple #[])) w_16 fun t10 w_17 =>
   Bn Tryd.prog (unitV (Instr.storeAt 44 t10 t55)) w_17 fun _ w_18 =>
   Pu Tryd.prog (Instr.fieldAt 44 t10 1) fun t57 =>
   Bn Tryd.prog (Instr.loadAt 24 t57) w_18 fun t58 w_19 =>
   Cl Tryd.prog 11 #[t41, t58] w_19 fun t59 w_20 =>
   Pu Tryd.prog (bopS Go.BinOp.neq 27 (Go.Operand.tmp 59) (Go.Operand.const (Go.Value.int Go.IntKind.i64 0)) t59 (Go.Value.int Go.IntKind.i64 0)) fun t60 =>
   condV t60
    (K (Go.Value.bool false) w_20)
    (Pu Tryd.prog (bopS Go.BinOp.add 3 (Go.Operand.tmp 52) (Go.Operand.const (Go.Value.int Go.IntKind.i64 1)) u52 (Go.Value.int Go.IntKind.i64 1)) fun t61 =>
   I t61 w_20 ∧ μ t61 w_20 < μ u52 w_15))
    (Cl Tryd.prog 17 #[t1] w_15 fun t63 w_21 =>
  Cl Tryd.prog 11 #[t43, t63] w_21 fun t66 w_22 =>
  Pu Tryd.prog (bopS Go.BinOp.neq 27 (Go.Operand.tmp 66) (Go.Operand.const (Go.Value.int Go.IntKind.i64 0)) t66 (Go.Value.int Go.IntKind.i64 0)) fun t67 =>
  condV t67
   (K (Go.Value.bool false) w_22)
   (Cl Tryd.prog 7 #[] w_22 fun t68 w_23 =>
  condV t68
  (Cl Tryd.prog 19 #[t41] w_23 fun t71 w_24 =>
  Cl Tryd.prog 19 #[t43] w_24 fun t73 w_25 =>
  Cl Tryd.prog 18 #[t71, t73] w_25 fun t74 w_26 =>
  condV t74
  (Pu Tryd.prog (Instr.build 44 #[(1, t63)]) fun t78 =>
  Bn Tryd.prog (Instr.buildSlice 41 1 #[(0, t78)]) w_26 fun t79 w_27 =>
  Cl Tryd.prog 17 #[t79] w_27 fun t80 w_28 =>
  Cl Tryd.prog 20 #[t80, t63] w_28 fun t82 w_29 =>
  K t82 w_29)
  (K (Go.Value.bool false) w_26))
  (K (Go.Value.bool false) w_23))))))))))

def alumlaw10_RedoMergesRecords_ann : Ann :=
  { loop := fun r => match r with | 9 => [52] | _ => [],
    plan := fun _ => .done,
    hold := fun _ => fun _ => false,
    join := fun _ => none }

theorem alumlaw10_RedoMergesRecords_ok {K : Value → World → Prop} {t0 t1 : Value} {w : World} (h : alumlaw10_RedoMergesRecords_w K t0 t1 w) : Calls Tryd.prog 4 #[t0, t1] w (Rt K) :=
  calls_of_wpC (A := alumlaw10_RedoMergesRecords_ann) (c := Tryd.f4.body.getD .skip) (args := [t0, t1]) mixed Tryd.func4 rfl (by kernel_rfl) (Eq.mp (by kernel_rfl) h)

theorem alumlaw10_RedoMergesRecords_en : enters Tryd.prog 4 = true := by kernel_rfl

theorem alumlaw10_RedoMergesRecords_cl {K : Value → World → Prop} {t0 t1 : Value} {w : World} (h : Calls Tryd.prog 4 #[t0, t1] w (Rt K)) : Cl Tryd.prog 4 #[t0, t1] w K := ⟨alumlaw10_RedoMergesRecords_en, h⟩

end Go.Proofs.YtlolaieolgmdnaaDoor
