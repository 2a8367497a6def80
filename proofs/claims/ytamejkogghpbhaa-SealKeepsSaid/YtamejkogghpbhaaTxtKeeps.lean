/- Printed by wip/gen/gen.py: the shallow texts of some functions. -/
import Derived.Test.YtamejkogghpbhaaNames
set_option linter.unusedVariables false
namespace Go.Proofs.Ytamejkogghpbhaa
open Go.Sx

/-! sojourn/sojournlaw6.SealKeeps: function 6 -/
def law6_SealKeeps_j0 (R : VCont) (v1 v5 v11 v12 v13 : Value) (w : World) : Prop :=
  xCall P nr.disk_Disk_Crash [v5, v1] w fun t17 w =>
  xCall P nr.seal_Open [v5] w fun t18 w =>
  xExtract t18 0 w fun t19 w =>
  xExtract t18 1 w fun t20 w =>
  xExtract t18 2 w fun t21 w =>
  xExtract t18 3 w fun t22 w =>
  xEq P .neq 3 false true t22 (Value.int IntKind.i64 0) w fun t23 w =>
  xWhen t23 false (fun K => K t19 w) w fun t24 w =>
  xWhen t23 false (fun K => xEq P .eql 53 false true t24 (Value.pointer none) w K) w fun t25 w =>
  xPick t23 (Value.bool true) t25 w fun t26 w =>
  xWhen t26 false (fun K => K t20 w) w fun t27 w =>
  xWhen t26 false (fun K => K v11 w) w fun t28 w =>
  xWhen t26 false (fun K => xCall P nr.law4_Texts [t27, t28] w K) w fun t29 w =>
  xWhen t26 false (fun K => xUn P .not t29 w K) w fun t30 w =>
  xPick t26 (Value.bool true) t30 w fun t31 w =>
  xWhen t31 false (fun K => K t21 w) w fun t32 w =>
  xWhen t31 false (fun K => xLen P .pure #[54] t32 w K) w fun t33 w =>
  xWhen t31 false (fun K => K v13 w) w fun t34 w =>
  xWhen t31 false (fun K => xBin P .lss 3 t33 t34 w K) w fun t35 w =>
  xPick t31 (Value.bool true) t35 w fun t36 w =>
  xWhen t36 false (fun K => K t21 w) w fun t37 w =>
  xWhen t36 false (fun K => xLen P .pure #[54] t37 w K) w fun t38 w =>
  xWhen t36 false (fun K => K v12 w) w fun t39 w =>
  xWhen t36 false (fun K => xLen P .pure #[34] t39 w K) w fun t40 w =>
  xWhen t36 false (fun K => xBin P .gtr 3 t38 t40 w K) w fun t41 w =>
  xPick t36 (Value.bool true) t41 w fun t42 w =>
  xWhen t42 false (fun K => K t21 w) w fun t43 w =>
  xWhen t42 false (fun K => K v12 w) w fun t44 w =>
  xWhen t42 false (fun K => K t21 w) w fun t45 w =>
  xWhen t42 false (fun K => xLen P .pure #[54] t45 w K) w fun t46 w =>
  xWhen t42 false (fun K => xSlice P 34 t44 none (some t46) none w K) w fun t47 w =>
  xWhen t42 false (fun K => xCall P nr.law4_Texts [t43, t47] w K) w fun t48 w =>
  xWhen t42 false (fun K => xUn P .not t48 w K) w fun t49 w =>
  xPick t42 (Value.bool true) t49 w fun t50 w =>
  xIf t50
  (R (Value.bool false) w)
  (xBuildSlice P 22 4 [(0, (Value.int IntKind.u8 109)), (1, (Value.int IntKind.u8 111)), (2, (Value.int IntKind.u8 114)), (3, (Value.int IntKind.u8 101))] w fun t51 w =>
  xConvK P .more 22 22 t51 w fun t52 w =>
  xCall P nr.seal_Log_Put [t19, t52] w fun t53 w =>
  xEq P .neq 3 false true t53 (Value.int IntKind.i64 0) w fun t54 w =>
  xWhen t54 false (fun K => K t19 w) w fun t55 w =>
  xWhen t54 false (fun K => xCall P nr.seal_Log_Sync [t55] w K) w fun t56 w =>
  xWhen t54 false (fun K => xEq P .neq 3 false true t56 (Value.int IntKind.i64 0) w K) w fun t57 w =>
  xPick t54 (Value.bool true) t57 w fun t58 w =>
  xIf t58
  (R (Value.bool false) w)
  (xCall P nr.disk_Disk_Crash [v5, (Value.int IntKind.i64 0)] w fun t59 w =>
  xCall P nr.seal_Open [v5] w fun t60 w =>
  xExtract t60 0 w fun t61 w =>
  xExtract t60 1 w fun t62 w =>
  xExtract t60 2 w fun t63 w =>
  xExtract t60 3 w fun t64 w =>
  xCall P nr.law6_told [] w fun t65 w =>
  xWhen t65 true (fun K => K t64 w) w fun t66 w =>
  xWhen t65 true (fun K => xEq P .eql 3 false true t66 (Value.int IntKind.i64 0) w K) w fun t67 w =>
  xPick t65 t67 (Value.bool false) w fun t68 w =>
  xWhen t68 true (fun K => K t62 w) w fun t69 w =>
  xWhen t68 true (fun K => K v11 w) w fun t70 w =>
  xWhen t68 true (fun K => xCall P nr.law4_Texts [t69, t70] w K) w fun t71 w =>
  xPick t68 t71 (Value.bool false) w fun t72 w =>
  xWhen t72 true (fun K => K t63 w) w fun t73 w =>
  xWhen t72 true (fun K => xLen P .pure #[54] t73 w K) w fun t74 w =>
  xWhen t72 true (fun K => K t21 w) w fun t75 w =>
  xWhen t72 true (fun K => xLen P .pure #[54] t75 w K) w fun t76 w =>
  xWhen t72 true (fun K => xBin P .add 3 t76 (Value.int IntKind.i64 1) w K) w fun t77 w =>
  xWhen t72 true (fun K => xEq P .eql 3 false false t74 t77 w K) w fun t78 w =>
  xPick t72 t78 (Value.bool false) w fun t79 w =>
  xWhen t79 true (fun K => K t63 w) w fun t80 w =>
  xWhen t79 true (fun K => K t21 w) w fun t81 w =>
  xWhen t79 true (fun K => xLen P .pure #[54] t81 w K) w fun t82 w =>
  xWhen t79 true (fun K => xIndexAddr P 54 t80 t82 w K) w fun t83 w =>
  xWhen t79 true (fun K => xLoad1 t83 w K) w fun t84 w =>
  xWhen t79 true (fun K => xConvK P .read 22 9 t84 w K) w fun t85 w =>
  xWhen t79 true (fun K => xEq P .eql 9 false true t85 (Value.string { data := #[109, 111, 114, 101] }) w K) w fun t86 w =>
  xPick t79 t86 (Value.bool false) w fun t87 w =>
  R t87 w))
def law6_SealKeeps_j2 (R : VCont) (X0 : LX) (v11 v12 v13 v14 : Value) (w : World) : Prop :=
  xBin P .add 3 v14 (Value.int IntKind.i64 1) w fun t134 w =>
  X0 [v11, v12, v13, t134] w
def law6_SealKeeps_l1 (R : VCont) (X0 : LX) (v0 v1 v5 v7 v11 v12 v13 v14 : Value) (w : World) : Prop :=
  xLen P .pure #[52] v0 w fun t129 w =>
  xBin P .lss 3 v14 t129 w fun t130 w =>
  xWhen t130 true (fun K => K v14 w) w fun t131 w =>
  xWhen t130 true (fun K => xBin P .lss 3 t131 (Value.int IntKind.i64 40) w K) w fun t132 w =>
  xPick t130 t132 (Value.bool false) w fun t133 w =>
  xIf t133
  (xIndexAddr P 52 v0 v14 w fun t135 w =>
  xLoadN 4 t135 w fun t136 w =>
  xAlloc P 58 w fun t137 w =>
  xStore P 58 t137 t136 w fun _ w =>
  xLoadN 4 t137 w fun t138 w =>
  xCall P nr.law6_few [t138] w fun t139 w =>
  xUn P .not t139 w fun t140 w =>
  xIf t140
  (xCall P nr.law6_told [] w fun t141 w =>
  R t141 w)
  (xOff (some 0) t137 w fun t142 w =>
  xLoad1 t142 w fun t143 w =>
  xEq P .eql 3 false true t143 (Value.int IntKind.i64 0) w fun t144 w =>
  xIf t144
  (xOff (some 2) t137 w fun t145 w =>
  xLoad1 t145 w fun t146 w =>
  xCall P nr.seal_Log_Put [v7, t146] w fun t147 w =>
  xEq P .eql 3 false true t147 (Value.int IntKind.i64 0) w fun t148 w =>
  xIf t148
  (xOff (some 2) t137 w fun t149 w =>
  xLoad1 t149 w fun t150 w =>
  xConvK P .read 22 9 t150 w fun t151 w =>
  xBuildSlice P 34 1 [(0, t151)] w fun t152 w =>
  xBuiltin P .append #[34, 34] 34 [false, false] [v12, t152] w fun t153 w =>
  law6_SealKeeps_j2 R X0 v11 t153 v13 v14 w)
  (xOff (some 2) t137 w fun t154 w =>
  xLoad1 t154 w fun t155 w =>
  xLen P .pure #[22] t155 w fun t156 w =>
  xBin P .gtr 3 t156 (Value.int IntKind.i64 0) w fun t157 w =>
  xIf t157
  (R (Value.bool false) w)
  (law6_SealKeeps_j2 R X0 v11 v12 v13 v14 w)))
  (xEq P .eql 3 false true t143 (Value.int IntKind.i64 1) w fun t158 w =>
  xIf t158
  (xCall P nr.seal_Log_Sync [v7] w fun t159 w =>
  xEq P .neq 3 false true t159 (Value.int IntKind.i64 0) w fun t160 w =>
  xIf t160
  (R (Value.bool false) w)
  (xLen P .pure #[34] v12 w fun t161 w =>
  law6_SealKeeps_j2 R X0 v11 v12 t161 v14 w))
  (xEq P .eql 3 false true t143 (Value.int IntKind.i64 2) w fun t162 w =>
  xIf t162
  (xOff (some 3) t137 w fun t163 w =>
  xLoad1 t163 w fun t164 w =>
  xCall P nr.seal_Log_Save [v7, t164] w fun t165 w =>
  xEq P .eql 3 false true t165 (Value.int IntKind.i64 0) w fun t166 w =>
  xIf t166
  (xOff (some 3) t137 w fun t167 w =>
  xLoad1 t167 w fun t168 w =>
  xCall P nr.law6_texts [t168] w fun t169 w =>
  law6_SealKeeps_j2 R X0 t169 (Value.slice none 0 0) (Value.int IntKind.i64 0) v14 w)
  (law6_SealKeeps_j2 R X0 v11 v12 v13 v14 w))
  (law6_SealKeeps_j2 R X0 v11 v12 v13 v14 w)))))
  (law6_SealKeeps_j0 R v1 v5 v11 v12 v13 w)
def law6_SealKeeps_main (R : VCont) (a0 a1 : Value) (w : World) : Prop :=
  xCall P nr.disk_New [(Value.int IntKind.i64 1000000)] w fun t1 w =>
  xExtract t1 0 w fun t2 w =>
  xExtract t1 1 w fun t3 w =>
  xEq P .neq 3 false true t3 (Value.int IntKind.i64 0) w fun t4 w =>
  xWhen t4 false (fun K => K t2 w) w fun t5 w =>
  xWhen t4 false (fun K => xEq P .eql 23 false true t5 (Value.pointer none) w K) w fun t6 w =>
  xPick t4 (Value.bool true) t6 w fun t7 w =>
  xIf t7
  (R (Value.bool false) w)
  (xCall P nr.seal_Open [t2] w fun t8 w =>
  xExtract t8 0 w fun t9 w =>
  xExtract t8 1 w fun t10 w =>
  xExtract t8 2 w fun t11 w =>
  xExtract t8 3 w fun t12 w =>
  xEq P .neq 3 false true t12 (Value.int IntKind.i64 0) w fun t13 w =>
  xWhen t13 false (fun K => K t9 w) w fun t14 w =>
  xWhen t13 false (fun K => xEq P .eql 53 false true t14 (Value.pointer none) w K) w fun t15 w =>
  xPick t13 (Value.bool true) t15 w fun t16 w =>
  xIf t16
  (R (Value.bool false) w)
  (Lp (fun X s w => law6_SealKeeps_l1 R X a0 a1 t2 t9 (s.getD 0 undef) (s.getD 1 undef) (s.getD 2 undef) (s.getD 3 undef) w) [(Value.slice none 0 0), (Value.slice none 0 0), (Value.int IntKind.i64 0), (Value.int IntKind.i64 0)] w))
def law6_SealKeeps_es (R : VCont) : List Ent := [
  .join fun Xs e w => law6_SealKeeps_j0 R (e 1) (e 5) (e 11) (e 12) (e 13) w,
  .loop [0, 1, 5, 7] [11, 12, 13, 14] fun Xs fx X s w => law6_SealKeeps_l1 R X (fx.getD 0 undef) (fx.getD 1 undef) (fx.getD 2 undef) (fx.getD 3 undef) (s.getD 0 undef) (s.getD 1 undef) (s.getD 2 undef) (s.getD 3 undef) w,
  .join fun Xs e w => law6_SealKeeps_j2 R (hx Xs) (e 11) (e 12) (e 13) (e 14) w]
theorem law6_SealKeeps_ok {R : VCont} {a0 a1 : Value} {w : World} (h : law6_SealKeeps_main R a0 a1 w) : Calls P nr.law6_SealKeeps [a0, a1].toArray w (Ret R) :=
  calls_of_sx (P := P) (fn := Try.f6) (Os := (fun _ => .no)) (Es := (law6_SealKeeps_es R)) (args := [a0, a1]) mixed (by kernel_rfl) (by kernel_rfl) (by kernel_rfl) (by kernel_rfl) (by kernel_rfl) (by kernel_rfl) (by kernel_rfl)
    (Eq.mp (show law6_SealKeeps_main R a0 a1 w = sxh P (fun _ => .no) (law6_SealKeeps_es R) [] 0 (bodyOf Try.f6) (retQ P Try.f6.results.toList R) (envOf [a0, a1]) w by kernel_rfl) h)
theorem law6_SealKeeps_call {R : VCont} {a0 a1 : Value} {w : World} (h : law6_SealKeeps_main R a0 a1 w) : xCall P nr.law6_SealKeeps [a0, a1] w R :=
  xCall_of (P := P) (fn := Try.f6) (by kernel_rfl) (by kernel_rfl) (by kernel_rfl) (law6_SealKeeps_ok h)

end Go.Proofs.Ytamejkogghpbhaa
