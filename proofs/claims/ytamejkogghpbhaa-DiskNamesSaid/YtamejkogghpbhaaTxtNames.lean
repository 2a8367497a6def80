/- Printed by wip/gen/gen.py: the shallow texts of some functions. -/
import Derived.Test.YtamejkogghpbhaaNames
set_option linter.unusedVariables false
namespace Go.Proofs.Ytamejkogghpbhaa
open Go.Sx

/-! sojourn/sojournlaw5.DiskNames: function 4 -/
def law5_DiskNames_j2 (R : VCont) (v7 v10 v11 v12 v14 v15 v16 v18 v19 v20 : Value) (w : World) : Prop :=
  xEq P .neq 3 false true v19 (Value.int IntKind.i64 0) w fun t48 w =>
  xWhen t48 false (fun K => K v18 w) w fun t49 w =>
  xWhen t48 false (fun K => xConvK P .read 22 9 t49 w K) w fun t50 w =>
  xWhen t48 false (fun K => K v12 w) w fun t51 w =>
  xWhen t48 false (fun K => xConvK P .read 22 9 t51 w K) w fun t52 w =>
  xWhen t48 false (fun K => xEq P .neq 9 false false t50 t52 w K) w fun t53 w =>
  xPick t48 (Value.bool true) t53 w fun t54 w =>
  xWhen t54 false (fun K => K v7 w) w fun t55 w =>
  xWhen t54 false (fun K => K v11 w) w fun t56 w =>
  xWhen t54 false (fun K => xCall P nr.disk_Disk_Synced [t55, t56] w K) w fun t57 w =>
  xWhen t54 false (fun K => K v12 w) w fun t58 w =>
  xWhen t54 false (fun K => xLen P .pure #[22] t58 w K) w fun t59 w =>
  xWhen t54 false (fun K => xBin P .sub 3 t59 (Value.int IntKind.i64 4) w K) w fun t60 w =>
  xWhen t54 false (fun K => xEq P .neq 3 false false t57 t60 w K) w fun t61 w =>
  xPick t54 (Value.bool true) t61 w fun t62 w =>
  xIf t62
  (R (Value.bool false) w)
  (xEq P .eql 9 false false v10 v11 w fun t63 w =>
  xIf t63
  (xCall P nr.law5_told [] w fun t64 w =>
  xWhen t64 true (fun K => K v20 w) w fun t65 w =>
  xWhen t64 true (fun K => xLen P .pure #[34] t65 w K) w fun t66 w =>
  xWhen t64 true (fun K => K v14 w) w fun t67 w =>
  xWhen t64 true (fun K => xEq P .eql 3 false false t66 t67 w K) w fun t68 w =>
  xPick t64 t68 (Value.bool false) w fun t69 w =>
  xWhen t69 true (fun K => K v7 w) w fun t70 w =>
  xWhen t69 true (fun K => xCall P nr.disk_Disk_Used [t70] w K) w fun t71 w =>
  xWhen t69 true (fun K => K v15 w) w fun t72 w =>
  xWhen t69 true (fun K => xEq P .eql 3 false false t71 t72 w K) w fun t73 w =>
  xPick t69 t73 (Value.bool false) w fun t74 w =>
  R t74 w)
  (xCall P nr.disk_Disk_Read [v7, v10] w fun t75 w =>
  xExtract t75 0 w fun t76 w =>
  xExtract t75 1 w fun t77 w =>
  xCall P nr.law5_told [] w fun t78 w =>
  xWhen t78 true (fun K => K t77 w) w fun t79 w =>
  xWhen t78 true (fun K => xEq P .eql 3 false true t79 (Value.int IntKind.i64 5) w K) w fun t80 w =>
  xPick t78 t80 (Value.bool false) w fun t81 w =>
  xWhen t81 true (fun K => K v20 w) w fun t82 w =>
  xWhen t81 true (fun K => xLen P .pure #[34] t82 w K) w fun t83 w =>
  xWhen t81 true (fun K => K v14 w) w fun t84 w =>
  xWhen t81 true (fun K => xBin P .sub 3 t84 (Value.int IntKind.i64 1) w K) w fun t85 w =>
  xWhen t81 true (fun K => xEq P .eql 3 false false t83 t85 w K) w fun t86 w =>
  xPick t81 t86 (Value.bool false) w fun t87 w =>
  xWhen t87 true (fun K => K v7 w) w fun t88 w =>
  xWhen t87 true (fun K => xCall P nr.disk_Disk_Used [t88] w K) w fun t89 w =>
  xWhen t87 true (fun K => K v15 w) w fun t90 w =>
  xWhen t87 true (fun K => K v16 w) w fun t91 w =>
  xWhen t87 true (fun K => xLen P .pure #[22] t91 w K) w fun t92 w =>
  xWhen t87 true (fun K => xBin P .sub 3 t90 t92 w K) w fun t93 w =>
  xWhen t87 true (fun K => xEq P .eql 3 false false t89 t93 w K) w fun t94 w =>
  xPick t87 t94 (Value.bool false) w fun t95 w =>
  xWhen t95 true (fun K => K v7 w) w fun t96 w =>
  xWhen t95 true (fun K => K v10 w) w fun t97 w =>
  xWhen t95 true (fun K => K v11 w) w fun t98 w =>
  xWhen t95 true (fun K => xCall P nr.disk_Disk_Rename [t96, t97, t98] w K) w fun t99 w =>
  xWhen t95 true (fun K => xEq P .eql 3 false true t99 (Value.int IntKind.i64 5) w K) w fun t100 w =>
  xPick t95 t100 (Value.bool false) w fun t101 w =>
  xWhen t101 true (fun K => K v7 w) w fun t102 w =>
  xWhen t101 true (fun K => K v11 w) w fun t103 w =>
  xWhen t101 true (fun K => xCall P nr.disk_Disk_Rename [t102, t103, (Value.string { data := #[] })] w K) w fun t104 w =>
  xWhen t101 true (fun K => xEq P .eql 3 false true t104 (Value.int IntKind.i64 1) w K) w fun t105 w =>
  xPick t101 t105 (Value.bool false) w fun t106 w =>
  R t106 w))
def law5_DiskNames_l3 (R : VCont) (X0 : LX) (v7 v10 v11 v12 v14 v15 v16 v18 v19 v20 v21 : Value) (w : World) : Prop :=
  xLen P .pure #[34] v20 w fun t116 w =>
  xBin P .lss 3 v21 t116 w fun t117 w =>
  xIf t117
  (Sx.dr w fun w =>
  xBin P .sub 3 v21 (Value.int IntKind.i64 1) w fun t118 _ =>
  xIndexAddr P 34 v20 t118 w fun t119 _ =>
  xLoad1 t119 w fun t120 w' =>
  w' = w ∧
  xIndexAddr P 34 v20 v21 w fun t121 _ =>
  xLoad1 t121 w fun t122 w' =>
  w' = w ∧
  xBin P .geq 9 t120 t122 w fun t123 _ =>
  xIf t123
  (R (Value.bool false) w)
  (xBin P .add 3 v21 (Value.int IntKind.i64 1) w fun t124 w =>
  X0 [t124] w))
  (law5_DiskNames_j2 R v7 v10 v11 v12 v14 v15 v16 v18 v19 v20 w)
def law5_DiskNames_j0 (R : VCont) (v0 v1 v2 v7 : Value) (w : World) : Prop :=
  Sx.dr w fun w =>
  xConvK P .pure 3 35 v1 w fun t15 _ =>
  xLen P .pure #[34] v0 w fun t16 _ =>
  xConvK P .pure 3 35 t16 w fun t17 _ =>
  xBin P .rem 35 t15 t17 w fun t18 _ =>
  xConvK P .pure 35 3 t18 w fun t19 _ =>
  xIndexAddr P 34 v0 t19 w fun t20 _ =>
  xLoad1 t20 w fun t21 w' =>
  w' = w ∧
  xConvK P .pure 3 35 v2 w fun t22 _ =>
  xLen P .pure #[34] v0 w fun t23 _ =>
  xConvK P .pure 3 35 t23 w fun t24 _ =>
  xBin P .rem 35 t22 t24 w fun t25 _ =>
  xConvK P .pure 35 3 t25 w fun t26 _ =>
  xIndexAddr P 34 v0 t26 w fun t27 _ =>
  xLoad1 t27 w fun t28 w' =>
  w' = w ∧
  xCall P nr.disk_Disk_Sync [v7, t21] w fun t29 w =>
  xBuildSlice P 22 4 [(0, (Value.int IntKind.u8 116)), (1, (Value.int IntKind.u8 97)), (2, (Value.int IntKind.u8 105)), (3, (Value.int IntKind.u8 108))] w fun t30 w =>
  xConvK P .more 22 22 t30 w fun t31 w =>
  xCall P nr.disk_Disk_Append [v7, t21, t31] w fun t32 w =>
  xCall P nr.disk_Disk_Read [v7, t21] w fun t33 w =>
  xExtract t33 0 w fun t34 w =>
  xExtract t33 1 w fun t35 w =>
  xCall P nr.disk_Disk_Names [v7] w fun t36 w =>
  xLen P .pure #[34] t36 w fun t37 w =>
  xCall P nr.disk_Disk_Used [v7] w fun t38 w =>
  xCall P nr.disk_Disk_Read [v7, t28] w fun t39 w =>
  xExtract t39 0 w fun t40 w =>
  xExtract t39 1 w fun t41 w =>
  xCall P nr.disk_Disk_Rename [v7, t21, t28] w fun t42 w =>
  xEq P .neq 3 false true t42 (Value.int IntKind.i64 0) w fun t43 w =>
  xIf t43
  (R (Value.bool false) w)
  (xCall P nr.disk_Disk_Read [v7, t28] w fun t44 w =>
  xExtract t44 0 w fun t45 w =>
  xExtract t44 1 w fun t46 w =>
  xCall P nr.disk_Disk_Names [v7] w fun t47 w =>
  Lp (fun X s w => law5_DiskNames_l3 R X v7 t21 t28 t34 t37 t38 t40 t45 t46 t47 (s.getD 0 undef) w) [(Value.int IntKind.i64 1)] w)
def law5_DiskNames_l1 (R : VCont) (X0 : LX) (v0 v1 v2 v7 v9 : Value) (w : World) : Prop :=
  xLen P .pure #[34] v0 w fun t146 w =>
  xBin P .lss 3 v9 t146 w fun t147 w =>
  xIf t147
  (xIndexAddr P 34 v0 v9 w fun t148 w =>
  xLoad1 t148 w fun t149 w =>
  xLen P .pure #[9] t149 w fun t150 w =>
  xBin P .lss 3 t150 (Value.int IntKind.i64 1) w fun t151 w =>
  xWhen t151 false (fun K => K v0 w) w fun t152 w =>
  xWhen t151 false (fun K => K v9 w) w fun t153 w =>
  xWhen t151 false (fun K => xIndexAddr P 34 t152 t153 w K) w fun t154 w =>
  xWhen t151 false (fun K => xLoad1 t154 w K) w fun t155 w =>
  xWhen t151 false (fun K => xLen P .pure #[9] t155 w K) w fun t156 w =>
  xWhen t151 false (fun K => xBin P .gtr 3 t156 (Value.int IntKind.i64 20) w K) w fun t157 w =>
  xPick t151 (Value.bool true) t157 w fun t158 w =>
  xIf t158
  (xCall P nr.law5_told [] w fun t159 w =>
  R t159 w)
  (xIndexAddr P 34 v0 v9 w fun t160 w =>
  xLoad1 t160 w fun t161 w =>
  xConvK P .pure 3 5 v9 w fun t162 w =>
  xBuildSlice P 22 1 [(0, t162)] w fun t163 w =>
  xCall P nr.disk_Disk_Append [v7, t161, t163] w fun t164 w =>
  xEq P .neq 3 false true t164 (Value.int IntKind.i64 0) w fun t165 w =>
  xIf t165
  (R (Value.bool false) w)
  (xBin P .add 3 v9 (Value.int IntKind.i64 1) w fun t166 w =>
  X0 [t166] w)))
  (law5_DiskNames_j0 R v0 v1 v2 v7 w)
def law5_DiskNames_main (R : VCont) (a0 a1 a2 : Value) (w : World) : Prop :=
  xCall P nr.disk_New [(Value.int IntKind.i64 1000)] w fun t1 w =>
  xExtract t1 0 w fun t2 w =>
  xExtract t1 1 w fun t3 w =>
  xEq P .neq 3 false true t3 (Value.int IntKind.i64 0) w fun t4 w =>
  xWhen t4 false (fun K => K t2 w) w fun t5 w =>
  xWhen t4 false (fun K => xEq P .eql 23 false true t5 (Value.pointer none) w K) w fun t6 w =>
  xPick t4 (Value.bool true) t6 w fun t7 w =>
  xIf t7
  (R (Value.bool false) w)
  (xLen P .pure #[34] a0 w fun t8 w =>
  xBin P .lss 3 t8 (Value.int IntKind.i64 1) w fun t9 w =>
  xWhen t9 false (fun K => K a0 w) w fun t10 w =>
  xWhen t9 false (fun K => xLen P .pure #[34] t10 w K) w fun t11 w =>
  xWhen t9 false (fun K => xBin P .gtr 3 t11 (Value.int IntKind.i64 12) w K) w fun t12 w =>
  xPick t9 (Value.bool true) t12 w fun t13 w =>
  xIf t13
  (xCall P nr.law5_told [] w fun t14 w =>
  R t14 w)
  (Lp (fun X s w => law5_DiskNames_l1 R X a0 a1 a2 t2 (s.getD 0 undef) w) [(Value.int IntKind.i64 0)] w))
def law5_DiskNames_os (i : Nat) : OT := cond (Nat.beq i 13) (.fl 0 (.fl 1 (.fl 2 (.fl 3 (.fl 4 (.fl 5 (.fl 6 (.fl 7 (.fl 8 (.fl 9 (.fl 10 (.fl 11 (.fl 12 (.fl 13 (.fl 14 (.fl 15 (.fl 16 (.fl 17 (.fl 18 (.fl 19 (.fl 20 (.fl 21 .done)))))))))))))))))))))) (cond (Nat.beq i 26) (.fl 0 (.fl 1 (.fl 2 (.fl 3 (.fl 4 (.fl 5 (.fl 6 (.fl 7 (.fl 8 (.fl 9 .done)))))))))) (.no))
def law5_DiskNames_es (R : VCont) : List Ent := [
  .join fun Xs e w => law5_DiskNames_j0 R (e 0) (e 1) (e 2) (e 7) w,
  .loop [0, 1, 2, 7] [9] fun Xs fx X s w => law5_DiskNames_l1 R X (fx.getD 0 undef) (fx.getD 1 undef) (fx.getD 2 undef) (fx.getD 3 undef) (s.getD 0 undef) w,
  .join fun Xs e w => law5_DiskNames_j2 R (e 7) (e 10) (e 11) (e 12) (e 14) (e 15) (e 16) (e 18) (e 19) (e 20) w,
  .loop [7, 10, 11, 12, 14, 15, 16, 18, 19, 20] [21] fun Xs fx X s w => law5_DiskNames_l3 R X (fx.getD 0 undef) (fx.getD 1 undef) (fx.getD 2 undef) (fx.getD 3 undef) (fx.getD 4 undef) (fx.getD 5 undef) (fx.getD 6 undef) (fx.getD 7 undef) (fx.getD 8 undef) (fx.getD 9 undef) (s.getD 0 undef) w]
theorem law5_DiskNames_ok {R : VCont} {a0 a1 a2 : Value} {w : World} (h : law5_DiskNames_main R a0 a1 a2 w) : Calls P nr.law5_DiskNames [a0, a1, a2].toArray w (Ret R) :=
  calls_of_sx (P := P) (fn := Try.f4) (Os := law5_DiskNames_os) (Es := (law5_DiskNames_es R)) (args := [a0, a1, a2]) mixed (by kernel_rfl) (by kernel_rfl) (by kernel_rfl) (by kernel_rfl) (by kernel_rfl) (by kernel_rfl) (by kernel_rfl)
    (Eq.mp (show law5_DiskNames_main R a0 a1 a2 w = sxh P law5_DiskNames_os (law5_DiskNames_es R) [] 0 (bodyOf Try.f4) (retQ P Try.f4.results.toList R) (envOf [a0, a1, a2]) w by kernel_rfl) h)
theorem law5_DiskNames_call {R : VCont} {a0 a1 a2 : Value} {w : World} (h : law5_DiskNames_main R a0 a1 a2 w) : xCall P nr.law5_DiskNames [a0, a1, a2] w R :=
  xCall_of (P := P) (fn := Try.f4) (by kernel_rfl) (by kernel_rfl) (by kernel_rfl) (law5_DiskNames_ok h)

end Go.Proofs.Ytamejkogghpbhaa
