/- Printed by wip/gen/gen.py: the shallow texts of some functions. -/
import Derived.Test.YtamejkogghpbhaaNames
set_option linter.unusedVariables false
namespace Go.Proofs.Ytamejkogghpbhaa
open Go.Sx

/-! sojourn/sojournlaw6.SealFull: function 8 -/
def law6_SealFull_j3 (R : VCont) (v2 v8 v10 v14 : Value) (w : World) : Prop :=
  xCall P nr.seal_Log_Sync [v10] w fun t28 w =>
  xEq P .neq 3 false true t28 (Value.int IntKind.i64 0) w fun t29 w =>
  xWhen t29 false (fun K => K v10 w) w fun t30 w =>
  xWhen t29 false (fun K => xCall P nr.seal_Log_Len [t30] w K) w fun t31 w =>
  xWhen t29 false (fun K => K v14 w) w fun t32 w =>
  xWhen t29 false (fun K => xLen P .pure #[34] t32 w K) w fun t33 w =>
  xWhen t29 false (fun K => xEq P .neq 3 false false t31 t33 w K) w fun t34 w =>
  xPick t29 (Value.bool true) t34 w fun t35 w =>
  xIf t35
  (R (Value.bool false) w)
  (xCall P nr.seal_Log_Save [v10, v2] w fun t36 w =>
  xEq P .neq 3 false true t36 (Value.int IntKind.i64 0) w fun t37 w =>
  xWhen t37 true (fun K => K t36 w) w fun t38 w =>
  xWhen t37 true (fun K => xEq P .neq 3 false true t38 (Value.int IntKind.i64 4) w K) w fun t39 w =>
  xPick t37 t39 (Value.bool false) w fun t40 w =>
  xIf t40
  (R (Value.bool false) w)
  (xCall P nr.seal_Open [v8] w fun t41 w =>
  xExtract t41 0 w fun t42 w =>
  xExtract t41 1 w fun t43 w =>
  xExtract t41 2 w fun t44 w =>
  xExtract t41 3 w fun t45 w =>
  xEq P .neq 3 false true t45 (Value.int IntKind.i64 0) w fun t46 w =>
  xIf t46
  (R (Value.bool false) w)
  (xEq P .eql 3 false true t36 (Value.int IntKind.i64 0) w fun t47 w =>
  xIf t47
  (xCall P nr.law6_told [] w fun t48 w =>
  xWhen t48 true (fun K => K t44 w) w fun t49 w =>
  xWhen t48 true (fun K => xLen P .pure #[54] t49 w K) w fun t50 w =>
  xWhen t48 true (fun K => xEq P .eql 3 false true t50 (Value.int IntKind.i64 0) w K) w fun t51 w =>
  xPick t48 t51 (Value.bool false) w fun t52 w =>
  xWhen t52 true (fun K => K t43 w) w fun t53 w =>
  xWhen t52 true (fun K => K v2 w) w fun t54 w =>
  xWhen t52 true (fun K => xCall P nr.law6_texts [t54] w K) w fun t55 w =>
  xWhen t52 true (fun K => xCall P nr.law4_Texts [t53, t55] w K) w fun t56 w =>
  xPick t52 t56 (Value.bool false) w fun t57 w =>
  R t57 w)
  (xCall P nr.disk_Disk_Read [v8, (Value.string { data := #[110, 101, 120, 116] })] w fun t58 w =>
  xExtract t58 0 w fun t59 w =>
  xExtract t58 1 w fun t60 w =>
  xCall P nr.law6_told [] w fun t61 w =>
  xWhen t61 true (fun K => K t44 w) w fun t62 w =>
  xWhen t61 true (fun K => K v14 w) w fun t63 w =>
  xWhen t61 true (fun K => xCall P nr.law4_Texts [t62, t63] w K) w fun t64 w =>
  xPick t61 t64 (Value.bool false) w fun t65 w =>
  xWhen t65 true (fun K => K t43 w) w fun t66 w =>
  xWhen t65 true (fun K => xLen P .pure #[54] t66 w K) w fun t67 w =>
  xWhen t65 true (fun K => xEq P .eql 3 false true t67 (Value.int IntKind.i64 0) w K) w fun t68 w =>
  xPick t65 t68 (Value.bool false) w fun t69 w =>
  xWhen t69 true (fun K => K t60 w) w fun t70 w =>
  xWhen t69 true (fun K => xEq P .eql 3 false true t70 (Value.int IntKind.i64 5) w K) w fun t71 w =>
  xPick t69 t71 (Value.bool false) w fun t72 w =>
  R t72 w))))
def law6_SealFull_j5 (R : VCont) (X0 : LX) (v14 v18 : Value) (w : World) : Prop :=
  xBin P .add 3 v18 (Value.int IntKind.i64 1) w fun t96 w =>
  X0 [v14, t96] w
def law6_SealFull_l4 (R : VCont) (X0 : LX) (v1 v2 v7 v8 v10 v14 v18 : Value) (w : World) : Prop :=
  xLen P .pure #[54] v1 w fun t94 w =>
  xBin P .lss 3 v18 t94 w fun t95 w =>
  xIf t95
  (xIndexAddr P 54 v1 v18 w fun t97 w =>
  xLoad1 t97 w fun t98 w =>
  xCall P nr.seal_Log_Put [v10, t98] w fun t99 w =>
  xEq P .neq 3 false true t99 (Value.int IntKind.i64 0) w fun t100 w =>
  xWhen t100 true (fun K => K t99 w) w fun t101 w =>
  xWhen t100 true (fun K => xEq P .neq 3 false true t101 (Value.int IntKind.i64 4) w K) w fun t102 w =>
  xPick t100 t102 (Value.bool false) w fun t103 w =>
  xWhen t103 false (fun K => K v8 w) w fun t104 w =>
  xWhen t103 false (fun K => xCall P nr.disk_Disk_Used [t104] w K) w fun t105 w =>
  xWhen t103 false (fun K => K v7 w) w fun t106 w =>
  xWhen t103 false (fun K => xBin P .gtr 3 t105 t106 w K) w fun t107 w =>
  xPick t103 (Value.bool true) t107 w fun t108 w =>
  xIf t108
  (R (Value.bool false) w)
  (xEq P .eql 3 false true t99 (Value.int IntKind.i64 0) w fun t109 w =>
  xIf t109
  (xIndexAddr P 54 v1 v18 w fun t110 w =>
  xLoad1 t110 w fun t111 w =>
  xConvK P .read 22 9 t111 w fun t112 w =>
  xBuildSlice P 34 1 [(0, t112)] w fun t113 w =>
  xBuiltin P .append #[34, 34] 34 [false, false] [v14, t113] w fun t114 w =>
  law6_SealFull_j5 R X0 t114 v18 w)
  (law6_SealFull_j5 R X0 v14 v18 w)))
  (law6_SealFull_j3 R v2 v8 v10 v14 w)
def law6_SealFull_j0 (R : VCont) (v1 v2 v7 v8 v10 v14 : Value) (w : World) : Prop :=
  Lp (fun X s w => law6_SealFull_l4 R X v1 v2 v7 v8 v10 (s.getD 0 undef) (s.getD 1 undef) w) [v14, (Value.int IntKind.i64 0)] w
def law6_SealFull_j2 (R : VCont) (X0 : LX) (v15 v16 v17 : Value) (w : World) : Prop :=
  xIndexAddr P 54 v16 v17 w fun t140 w =>
  xLoad1 t140 w fun t141 w =>
  xLen P .pure #[22] t141 w fun t142 w =>
  xBin P .lss 3 t142 (Value.int IntKind.i64 1) w fun t143 w =>
  xWhen t143 false (fun K => K v16 w) w fun t144 w =>
  xWhen t143 false (fun K => K v17 w) w fun t145 w =>
  xWhen t143 false (fun K => xIndexAddr P 54 t144 t145 w K) w fun t146 w =>
  xWhen t143 false (fun K => xLoad1 t146 w K) w fun t147 w =>
  xWhen t143 false (fun K => xLen P .pure #[22] t147 w K) w fun t148 w =>
  xWhen t143 false (fun K => xBin P .gtr 3 t148 (Value.int IntKind.i64 40) w K) w fun t149 w =>
  xPick t143 (Value.bool true) t149 w fun t150 w =>
  xIf t150
  (xCall P nr.law6_told [] w fun t151 w =>
  R t151 w)
  (xBin P .add 3 v15 (Value.int IntKind.i64 1) w fun t152 w =>
  X0 [t152] w)
def law6_SealFull_l1 (R : VCont) (X0 : LX) (v1 v2 v7 v8 v10 v14 v15 : Value) (w : World) : Prop :=
  xLen P .pure #[54] v1 w fun t136 w =>
  xLen P .pure #[54] v2 w fun t137 w =>
  xBin P .add 3 t136 t137 w fun t138 w =>
  xBin P .lss 3 v15 t138 w fun t139 w =>
  xIf t139
  (xLen P .pure #[54] v1 w fun t153 w =>
  xBin P .geq 3 v15 t153 w fun t154 w =>
  xIf t154
  (xLen P .pure #[54] v1 w fun t155 w =>
  xBin P .sub 3 v15 t155 w fun t156 w =>
  law6_SealFull_j2 R X0 v15 v2 t156 w)
  (law6_SealFull_j2 R X0 v15 v1 v15 w))
  (law6_SealFull_j0 R v1 v2 v7 v8 v10 v14 w)
def law6_SealFull_main (R : VCont) (a0 a1 a2 : Value) (w : World) : Prop :=
  xConvK P .pure 3 35 a0 w fun t1 w =>
  xBin P .rem 35 t1 (Value.int IntKind.u64 341) w fun t2 w =>
  xConvK P .pure 35 3 t2 w fun t3 w =>
  xBin P .add 3 (Value.int IntKind.i64 60) t3 w fun t4 w =>
  xCall P nr.disk_New [t4] w fun t5 w =>
  xExtract t5 0 w fun t6 w =>
  xExtract t5 1 w fun t7 w =>
  xEq P .neq 3 false true t7 (Value.int IntKind.i64 0) w fun t8 w =>
  xWhen t8 false (fun K => K t6 w) w fun t9 w =>
  xWhen t8 false (fun K => xEq P .eql 23 false true t9 (Value.pointer none) w K) w fun t10 w =>
  xPick t8 (Value.bool true) t10 w fun t11 w =>
  xIf t11
  (R (Value.bool false) w)
  (xLen P .pure #[54] a1 w fun t12 w =>
  xBin P .gtr 3 t12 (Value.int IntKind.i64 40) w fun t13 w =>
  xWhen t13 false (fun K => K a2 w) w fun t14 w =>
  xWhen t13 false (fun K => xLen P .pure #[54] t14 w K) w fun t15 w =>
  xWhen t13 false (fun K => xBin P .gtr 3 t15 (Value.int IntKind.i64 6) w K) w fun t16 w =>
  xPick t13 (Value.bool true) t16 w fun t17 w =>
  xIf t17
  (xCall P nr.law6_told [] w fun t18 w =>
  R t18 w)
  (xCall P nr.seal_Open [t6] w fun t19 w =>
  xExtract t19 0 w fun t20 w =>
  xExtract t19 1 w fun t21 w =>
  xExtract t19 2 w fun t22 w =>
  xExtract t19 3 w fun t23 w =>
  xEq P .neq 3 false true t23 (Value.int IntKind.i64 0) w fun t24 w =>
  xWhen t24 false (fun K => K t20 w) w fun t25 w =>
  xWhen t24 false (fun K => xEq P .eql 53 false true t25 (Value.pointer none) w K) w fun t26 w =>
  xPick t24 (Value.bool true) t26 w fun t27 w =>
  xIf t27
  (R (Value.bool false) w)
  (Lp (fun X s w => law6_SealFull_l1 R X a1 a2 t4 t6 t20 (Value.slice none 0 0) (s.getD 0 undef) w) [(Value.int IntKind.i64 0)] w)))
def law6_SealFull_es (R : VCont) : List Ent := [
  .join fun Xs e w => law6_SealFull_j0 R (e 1) (e 2) (e 7) (e 8) (e 10) (e 14) w,
  .loop [1, 2, 7, 8, 10, 14] [15] fun Xs fx X s w => law6_SealFull_l1 R X (fx.getD 0 undef) (fx.getD 1 undef) (fx.getD 2 undef) (fx.getD 3 undef) (fx.getD 4 undef) (fx.getD 5 undef) (s.getD 0 undef) w,
  .join fun Xs e w => law6_SealFull_j2 R (hx Xs) (e 15) (e 16) (e 17) w,
  .join fun Xs e w => law6_SealFull_j3 R (e 2) (e 8) (e 10) (e 14) w,
  .loop [1, 2, 7, 8, 10] [14, 18] fun Xs fx X s w => law6_SealFull_l4 R X (fx.getD 0 undef) (fx.getD 1 undef) (fx.getD 2 undef) (fx.getD 3 undef) (fx.getD 4 undef) (s.getD 0 undef) (s.getD 1 undef) w,
  .join fun Xs e w => law6_SealFull_j5 R (hx Xs) (e 14) (e 18) w]
theorem law6_SealFull_ok {R : VCont} {a0 a1 a2 : Value} {w : World} (h : law6_SealFull_main R a0 a1 a2 w) : Calls P nr.law6_SealFull [a0, a1, a2].toArray w (Ret R) :=
  calls_of_sx (P := P) (fn := Try.f8) (Os := (fun _ => .no)) (Es := (law6_SealFull_es R)) (args := [a0, a1, a2]) mixed (by kernel_rfl) (by kernel_rfl) (by kernel_rfl) (by kernel_rfl) (by kernel_rfl) (by kernel_rfl) (by kernel_rfl)
    (Eq.mp (show law6_SealFull_main R a0 a1 a2 w = sxh P (fun _ => .no) (law6_SealFull_es R) [] 0 (bodyOf Try.f8) (retQ P Try.f8.results.toList R) (envOf [a0, a1, a2]) w by kernel_rfl) h)
theorem law6_SealFull_call {R : VCont} {a0 a1 a2 : Value} {w : World} (h : law6_SealFull_main R a0 a1 a2 w) : xCall P nr.law6_SealFull [a0, a1, a2] w R :=
  xCall_of (P := P) (fn := Try.f8) (by kernel_rfl) (by kernel_rfl) (by kernel_rfl) (law6_SealFull_ok h)

end Go.Proofs.Ytamejkogghpbhaa
