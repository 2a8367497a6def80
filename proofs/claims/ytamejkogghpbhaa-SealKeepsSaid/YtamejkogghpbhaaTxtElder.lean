/- Printed by wip/gen/gen.py: the shallow texts of some functions. -/
import Derived.Test.YtamejkogghpbhaaNames
set_option linter.unusedVariables false
namespace Go.Proofs.Ytamejkogghpbhaa
open Go.Sx

/-! sojourn/sojournlaw6.SealElder: function 7 -/
def law6_SealElder_j3 (R : VCont) (v1 v5 v7 : Value) (w : World) : Prop :=
  xCall P nr.seal_Log_Sync [v7] w fun t24 w =>
  xEq P .neq 3 false true t24 (Value.int IntKind.i64 0) w fun t25 w =>
  xIf t25
  (R (Value.bool false) w)
  (xCall P nr.disk_Disk_Read [v5, (Value.string { data := #[108, 111, 103] })] w fun t26 w =>
  xExtract t26 0 w fun t27 w =>
  xExtract t26 1 w fun t28 w =>
  xCall P nr.seal_Log_Save [v7, v1] w fun t29 w =>
  xEq P .neq 3 false true t29 (Value.int IntKind.i64 0) w fun t30 w =>
  xIf t30
  (R (Value.bool false) w)
  (xCall P nr.disk_Disk_Append [v5, (Value.string { data := #[108, 111, 103] }), t27] w fun t31 w =>
  xCall P nr.disk_Disk_Sync [v5, (Value.string { data := #[108, 111, 103] })] w fun t32 w =>
  xCall P nr.seal_Open [v5] w fun t33 w =>
  xExtract t33 0 w fun t34 w =>
  xExtract t33 1 w fun t35 w =>
  xExtract t33 2 w fun t36 w =>
  xExtract t33 3 w fun t37 w =>
  xEq P .neq 3 false true t37 (Value.int IntKind.i64 0) w fun t38 w =>
  xWhen t38 false (fun K => K t34 w) w fun t39 w =>
  xWhen t38 false (fun K => xEq P .eql 53 false true t39 (Value.pointer none) w K) w fun t40 w =>
  xPick t38 (Value.bool true) t40 w fun t41 w =>
  xIf t41
  (R (Value.bool false) w)
  (xBuildSlice P 22 1 [(0, (Value.int IntKind.u8 122))] w fun t42 w =>
  xConvK P .more 22 22 t42 w fun t43 w =>
  xCall P nr.seal_Log_Put [t34, t43] w fun t44 w =>
  xCall P nr.seal_Open [v5] w fun t45 w =>
  xExtract t45 0 w fun t46 w =>
  xExtract t45 1 w fun t47 w =>
  xExtract t45 2 w fun t48 w =>
  xExtract t45 3 w fun t49 w =>
  xCall P nr.law6_told [] w fun t50 w =>
  xWhen t50 true (fun K => K t35 w) w fun t51 w =>
  xWhen t50 true (fun K => K v1 w) w fun t52 w =>
  xWhen t50 true (fun K => xCall P nr.law6_texts [t52] w K) w fun t53 w =>
  xWhen t50 true (fun K => xCall P nr.law4_Texts [t51, t53] w K) w fun t54 w =>
  xPick t50 t54 (Value.bool false) w fun t55 w =>
  xWhen t55 true (fun K => K t36 w) w fun t56 w =>
  xWhen t55 true (fun K => xLen P .pure #[54] t56 w K) w fun t57 w =>
  xWhen t55 true (fun K => xEq P .eql 3 false true t57 (Value.int IntKind.i64 0) w K) w fun t58 w =>
  xPick t55 t58 (Value.bool false) w fun t59 w =>
  xWhen t59 true (fun K => K t44 w) w fun t60 w =>
  xWhen t59 true (fun K => xEq P .eql 3 false true t60 (Value.int IntKind.i64 0) w K) w fun t61 w =>
  xPick t59 t61 (Value.bool false) w fun t62 w =>
  xWhen t62 true (fun K => K t49 w) w fun t63 w =>
  xWhen t62 true (fun K => xEq P .eql 3 false true t63 (Value.int IntKind.i64 0) w K) w fun t64 w =>
  xPick t62 t64 (Value.bool false) w fun t65 w =>
  xWhen t65 true (fun K => K t47 w) w fun t66 w =>
  xWhen t65 true (fun K => K v1 w) w fun t67 w =>
  xWhen t65 true (fun K => xCall P nr.law6_texts [t67] w K) w fun t68 w =>
  xWhen t65 true (fun K => xCall P nr.law4_Texts [t66, t68] w K) w fun t69 w =>
  xPick t65 t69 (Value.bool false) w fun t70 w =>
  xWhen t70 true (fun K => K t48 w) w fun t71 w =>
  xWhen t70 true (fun K => xLen P .pure #[54] t71 w K) w fun t72 w =>
  xWhen t70 true (fun K => xEq P .eql 3 false true t72 (Value.int IntKind.i64 1) w K) w fun t73 w =>
  xPick t70 t73 (Value.bool false) w fun t74 w =>
  xWhen t74 true (fun K => K t48 w) w fun t75 w =>
  xWhen t74 true (fun K => xIndexAddr P 54 t75 (Value.int IntKind.i64 0) w K) w fun t76 w =>
  xWhen t74 true (fun K => xLoad1 t76 w K) w fun t77 w =>
  xWhen t74 true (fun K => xConvK P .read 22 9 t77 w K) w fun t78 w =>
  xWhen t74 true (fun K => xEq P .eql 9 false true t78 (Value.string { data := #[122] }) w K) w fun t79 w =>
  xPick t74 t79 (Value.bool false) w fun t80 w =>
  R t80 w)))
def law6_SealElder_l4 (R : VCont) (X0 : LX) (v0 v1 v5 v7 v14 : Value) (w : World) : Prop :=
  xLen P .pure #[54] v0 w fun t88 w =>
  xBin P .lss 3 v14 t88 w fun t89 w =>
  xIf t89
  (xIndexAddr P 54 v0 v14 w fun t90 w =>
  xLoad1 t90 w fun t91 w =>
  xCall P nr.seal_Log_Put [v7, t91] w fun t92 w =>
  xEq P .neq 3 false true t92 (Value.int IntKind.i64 0) w fun t93 w =>
  xIf t93
  (R (Value.bool false) w)
  (xBin P .add 3 v14 (Value.int IntKind.i64 1) w fun t94 w =>
  X0 [t94] w))
  (law6_SealElder_j3 R v1 v5 v7 w)
def law6_SealElder_j0 (R : VCont) (v0 v1 v5 v7 : Value) (w : World) : Prop :=
  Lp (fun X s w => law6_SealElder_l4 R X v0 v1 v5 v7 (s.getD 0 undef) w) [(Value.int IntKind.i64 0)] w
def law6_SealElder_j2 (R : VCont) (X0 : LX) (v11 v12 v13 : Value) (w : World) : Prop :=
  xIndexAddr P 54 v12 v13 w fun t120 w =>
  xLoad1 t120 w fun t121 w =>
  xLen P .pure #[22] t121 w fun t122 w =>
  xBin P .lss 3 t122 (Value.int IntKind.i64 1) w fun t123 w =>
  xWhen t123 false (fun K => K v12 w) w fun t124 w =>
  xWhen t123 false (fun K => K v13 w) w fun t125 w =>
  xWhen t123 false (fun K => xIndexAddr P 54 t124 t125 w K) w fun t126 w =>
  xWhen t123 false (fun K => xLoad1 t126 w K) w fun t127 w =>
  xWhen t123 false (fun K => xLen P .pure #[22] t127 w K) w fun t128 w =>
  xWhen t123 false (fun K => xBin P .gtr 3 t128 (Value.int IntKind.i64 40) w K) w fun t129 w =>
  xPick t123 (Value.bool true) t129 w fun t130 w =>
  xIf t130
  (xCall P nr.law6_told [] w fun t131 w =>
  R t131 w)
  (xBin P .add 3 v11 (Value.int IntKind.i64 1) w fun t132 w =>
  X0 [t132] w)
def law6_SealElder_l1 (R : VCont) (X0 : LX) (v0 v1 v5 v7 v11 : Value) (w : World) : Prop :=
  xLen P .pure #[54] v0 w fun t116 w =>
  xLen P .pure #[54] v1 w fun t117 w =>
  xBin P .add 3 t116 t117 w fun t118 w =>
  xBin P .lss 3 v11 t118 w fun t119 w =>
  xIf t119
  (xLen P .pure #[54] v0 w fun t133 w =>
  xBin P .geq 3 v11 t133 w fun t134 w =>
  xIf t134
  (xLen P .pure #[54] v0 w fun t135 w =>
  xBin P .sub 3 v11 t135 w fun t136 w =>
  law6_SealElder_j2 R X0 v11 v1 t136 w)
  (law6_SealElder_j2 R X0 v11 v0 v11 w))
  (law6_SealElder_j0 R v0 v1 v5 v7 w)
def law6_SealElder_main (R : VCont) (a0 a1 : Value) (w : World) : Prop :=
  xCall P nr.disk_New [(Value.int IntKind.i64 1000000)] w fun t1 w =>
  xExtract t1 0 w fun t2 w =>
  xExtract t1 1 w fun t3 w =>
  xEq P .neq 3 false true t3 (Value.int IntKind.i64 0) w fun t4 w =>
  xWhen t4 false (fun K => K t2 w) w fun t5 w =>
  xWhen t4 false (fun K => xEq P .eql 23 false true t5 (Value.pointer none) w K) w fun t6 w =>
  xPick t4 (Value.bool true) t6 w fun t7 w =>
  xIf t7
  (R (Value.bool false) w)
  (xLen P .pure #[54] a0 w fun t8 w =>
  xBin P .gtr 3 t8 (Value.int IntKind.i64 8) w fun t9 w =>
  xWhen t9 false (fun K => K a1 w) w fun t10 w =>
  xWhen t9 false (fun K => xLen P .pure #[54] t10 w K) w fun t11 w =>
  xWhen t9 false (fun K => xBin P .gtr 3 t11 (Value.int IntKind.i64 4) w K) w fun t12 w =>
  xPick t9 (Value.bool true) t12 w fun t13 w =>
  xIf t13
  (xCall P nr.law6_told [] w fun t14 w =>
  R t14 w)
  (xCall P nr.seal_Open [t2] w fun t15 w =>
  xExtract t15 0 w fun t16 w =>
  xExtract t15 1 w fun t17 w =>
  xExtract t15 2 w fun t18 w =>
  xExtract t15 3 w fun t19 w =>
  xEq P .neq 3 false true t19 (Value.int IntKind.i64 0) w fun t20 w =>
  xWhen t20 false (fun K => K t16 w) w fun t21 w =>
  xWhen t20 false (fun K => xEq P .eql 53 false true t21 (Value.pointer none) w K) w fun t22 w =>
  xPick t20 (Value.bool true) t22 w fun t23 w =>
  xIf t23
  (R (Value.bool false) w)
  (Lp (fun X s w => law6_SealElder_l1 R X a0 a1 t2 t16 (s.getD 0 undef) w) [(Value.int IntKind.i64 0)] w)))
def law6_SealElder_es (R : VCont) : List Ent := [
  .join fun Xs e w => law6_SealElder_j0 R (e 0) (e 1) (e 5) (e 7) w,
  .loop [0, 1, 5, 7] [11] fun Xs fx X s w => law6_SealElder_l1 R X (fx.getD 0 undef) (fx.getD 1 undef) (fx.getD 2 undef) (fx.getD 3 undef) (s.getD 0 undef) w,
  .join fun Xs e w => law6_SealElder_j2 R (hx Xs) (e 11) (e 12) (e 13) w,
  .join fun Xs e w => law6_SealElder_j3 R (e 1) (e 5) (e 7) w,
  .loop [0, 1, 5, 7] [14] fun Xs fx X s w => law6_SealElder_l4 R X (fx.getD 0 undef) (fx.getD 1 undef) (fx.getD 2 undef) (fx.getD 3 undef) (s.getD 0 undef) w]
theorem law6_SealElder_ok {R : VCont} {a0 a1 : Value} {w : World} (h : law6_SealElder_main R a0 a1 w) : Calls P nr.law6_SealElder [a0, a1].toArray w (Ret R) :=
  calls_of_sx (P := P) (fn := Try.f7) (Os := (fun _ => .no)) (Es := (law6_SealElder_es R)) (args := [a0, a1]) mixed (by kernel_rfl) (by kernel_rfl) (by kernel_rfl) (by kernel_rfl) (by kernel_rfl) (by kernel_rfl) (by kernel_rfl)
    (Eq.mp (show law6_SealElder_main R a0 a1 w = sxh P (fun _ => .no) (law6_SealElder_es R) [] 0 (bodyOf Try.f7) (retQ P Try.f7.results.toList R) (envOf [a0, a1]) w by kernel_rfl) h)
theorem law6_SealElder_call {R : VCont} {a0 a1 : Value} {w : World} (h : law6_SealElder_main R a0 a1 w) : xCall P nr.law6_SealElder [a0, a1] w R :=
  xCall_of (P := P) (fn := Try.f7) (by kernel_rfl) (by kernel_rfl) (by kernel_rfl) (law6_SealElder_ok h)

end Go.Proofs.Ytamejkogghpbhaa
