/- Printed by wip/gen/gen.py: the shallow texts of some functions. -/
import Derived.Test.YtamejkogghpbhaaNames
set_option linter.unusedVariables false
namespace Go.Proofs.Ytamejkogghpbhaa
open Go.Sx

/-! sojourn/sojournlaw5.DiskStays: function 3 -/
def law5_DiskStays_main (R : VCont) (a0 a1 a2 a3 a4 : Value) (w : World) : Prop :=
  xCall P nr.disk_New [(Value.int IntKind.i64 1000)] w fun t1 w =>
  xExtract t1 0 w fun t2 w =>
  xExtract t1 1 w fun t3 w =>
  xEq P .neq 3 false true t3 (Value.int IntKind.i64 0) w fun t4 w =>
  xWhen t4 false (fun K => K t2 w) w fun t5 w =>
  xWhen t4 false (fun K => xEq P .eql 23 false true t5 (Value.pointer none) w K) w fun t6 w =>
  xPick t4 (Value.bool true) t6 w fun t7 w =>
  xIf t7
  (R (Value.bool false) w)
  (xLen P .pure #[22] a0 w fun t8 w =>
  xBin P .gtr 3 t8 (Value.int IntKind.i64 100) w fun t9 w =>
  xWhen t9 false (fun K => K a1 w) w fun t10 w =>
  xWhen t9 false (fun K => xLen P .pure #[22] t10 w K) w fun t11 w =>
  xWhen t9 false (fun K => xBin P .gtr 3 t11 (Value.int IntKind.i64 100) w K) w fun t12 w =>
  xPick t9 (Value.bool true) t12 w fun t13 w =>
  xWhen t13 false (fun K => K a2 w) w fun t14 w =>
  xWhen t13 false (fun K => xLen P .pure #[22] t14 w K) w fun t15 w =>
  xWhen t13 false (fun K => xBin P .gtr 3 t15 (Value.int IntKind.i64 100) w K) w fun t16 w =>
  xPick t13 (Value.bool true) t16 w fun t17 w =>
  xWhen t17 false (fun K => K a3 w) w fun t18 w =>
  xWhen t17 false (fun K => xLen P .pure #[22] t18 w K) w fun t19 w =>
  xWhen t17 false (fun K => xBin P .gtr 3 t19 (Value.int IntKind.i64 100) w K) w fun t20 w =>
  xPick t17 (Value.bool true) t20 w fun t21 w =>
  xIf t21
  (xCall P nr.law5_told [] w fun t22 w =>
  R t22 w)
  (xCall P nr.disk_Disk_Append [t2, (Value.string { data := #[120] }), a0] w fun t23 w =>
  xCall P nr.disk_Disk_Append [t2, (Value.string { data := #[121] }), a1] w fun t24 w =>
  xCall P nr.disk_Disk_Sync [t2, (Value.string { data := #[120] })] w fun t25 w =>
  xEq P .neq 3 false true t25 (Value.int IntKind.i64 0) w fun t26 w =>
  xWhen t26 false (fun K => K t2 w) w fun t27 w =>
  xWhen t26 false (fun K => xCall P nr.disk_Disk_Sync [t27, (Value.string { data := #[121] })] w K) w fun t28 w =>
  xWhen t26 false (fun K => xEq P .neq 3 false true t28 (Value.int IntKind.i64 0) w K) w fun t29 w =>
  xPick t26 (Value.bool true) t29 w fun t30 w =>
  xIf t30
  (R (Value.bool false) w)
  (xCall P nr.disk_Disk_Append [t2, (Value.string { data := #[120] }), a2] w fun t31 w =>
  xCall P nr.disk_Disk_Append [t2, (Value.string { data := #[121] }), a3] w fun t32 w =>
  xCall P nr.disk_Disk_Crash [t2, a4] w fun t33 w =>
  xCall P nr.disk_Disk_Read [t2, (Value.string { data := #[120] })] w fun t34 w =>
  xExtract t34 0 w fun t35 w =>
  xExtract t34 1 w fun t36 w =>
  xCall P nr.disk_Disk_Read [t2, (Value.string { data := #[121] })] w fun t37 w =>
  xExtract t37 0 w fun t38 w =>
  xExtract t37 1 w fun t39 w =>
  xLen P .pure #[22] a2 w fun t40 w =>
  xMinMax P false [a4, t40] w fun t41 w =>
  xMinMax P true [(Value.int IntKind.i64 0), t41] w fun t42 w =>
  xLen P .pure #[22] a3 w fun t43 w =>
  xMinMax P false [a4, t43] w fun t44 w =>
  xMinMax P true [(Value.int IntKind.i64 0), t44] w fun t45 w =>
  Sx.dr w fun w =>
  xCall P nr.law5_told [] w fun t46 w =>
  xWhen t46 true (fun K => K t36 w) w fun t47 _ =>
  xWhen t46 true (fun K => xEq P .eql 3 false true t47 (Value.int IntKind.i64 0) w K) w fun t48 _ =>
  xPick t46 t48 (Value.bool false) w fun t49 _ =>
  xWhen t49 true (fun K => K t39 w) w fun t50 _ =>
  xWhen t49 true (fun K => xEq P .eql 3 false true t50 (Value.int IntKind.i64 0) w K) w fun t51 _ =>
  xPick t49 t51 (Value.bool false) w fun t52 _ =>
  xWhen t52 true (fun K => K t35 w) w fun t53 _ =>
  xWhen t52 true (fun K => xConvK P .read 22 9 t53 w K) w fun t54 w' =>
  w' = w ∧
  xWhen t52 true (fun K => K a0 w) w fun t55 _ =>
  xWhen t52 true (fun K => xConvK P .read 22 9 t55 w K) w fun t56 w' =>
  w' = w ∧
  xWhen t52 true (fun K => K a2 w) w fun t57 _ =>
  xWhen t52 true (fun K => K t42 w) w fun t58 _ =>
  xWhen t52 true (fun K => xSlice P 22 t57 none (some t58) none w K) w fun t59 _ =>
  xWhen t52 true (fun K => xConvK P .read 22 9 t59 w K) w fun t60 w' =>
  w' = w ∧
  xWhen t52 true (fun K => xBin P .add 9 t56 t60 w K) w fun t61 _ =>
  xWhen t52 true (fun K => xEq P .eql 9 false false t54 t61 w K) w fun t62 _ =>
  xPick t52 t62 (Value.bool false) w fun t63 _ =>
  xWhen t63 true (fun K => K t38 w) w fun t64 _ =>
  xWhen t63 true (fun K => xConvK P .read 22 9 t64 w K) w fun t65 w' =>
  w' = w ∧
  xWhen t63 true (fun K => K a1 w) w fun t66 _ =>
  xWhen t63 true (fun K => xConvK P .read 22 9 t66 w K) w fun t67 w' =>
  w' = w ∧
  xWhen t63 true (fun K => K a3 w) w fun t68 _ =>
  xWhen t63 true (fun K => K t45 w) w fun t69 _ =>
  xWhen t63 true (fun K => xSlice P 22 t68 none (some t69) none w K) w fun t70 _ =>
  xWhen t63 true (fun K => xConvK P .read 22 9 t70 w K) w fun t71 w' =>
  w' = w ∧
  xWhen t63 true (fun K => xBin P .add 9 t67 t71 w K) w fun t72 _ =>
  xWhen t63 true (fun K => xEq P .eql 9 false false t65 t72 w K) w fun t73 _ =>
  xPick t63 t73 (Value.bool false) w fun t74 _ =>
  xWhen t74 true (fun K => K t2 w) w fun t75 _ =>
  xWhen t74 true (fun K => K t35 w) w fun t76 _ =>
  xWhen t74 true (fun K => xLen P .pure #[22] t76 w K) w fun t77 _ =>
  xWhen t74 true (fun K => xCall P nr.disk_Disk_Synced [t75, (Value.string { data := #[120] })] w K) w fun t78 w =>
  xWhen t74 true (fun K => xEq P .eql 3 false false t78 t77 w K) w fun t79 _ =>
  xPick t74 t79 (Value.bool false) w fun t80 _ =>
  xWhen t80 true (fun K => K t2 w) w fun t81 _ =>
  xWhen t80 true (fun K => K t35 w) w fun t82 _ =>
  xWhen t80 true (fun K => xLen P .pure #[22] t82 w K) w fun t83 _ =>
  xWhen t80 true (fun K => K t38 w) w fun t84 _ =>
  xWhen t80 true (fun K => xLen P .pure #[22] t84 w K) w fun t85 _ =>
  xWhen t80 true (fun K => xBin P .add 3 t83 t85 w K) w fun t86 _ =>
  xWhen t80 true (fun K => xCall P nr.disk_Disk_Used [t81] w K) w fun t87 w =>
  xWhen t80 true (fun K => xEq P .eql 3 false false t87 t86 w K) w fun t88 _ =>
  xPick t80 t88 (Value.bool false) w fun t89 _ =>
  R t89 w)))
def law5_DiskStays_os (i : Nat) : OT := cond (Nat.beq i 16) (.an 0 (.fl 1 (.fl 2 (.fl 3 (.fl 4 (.fl 5 (.fl 6 (.fl 7 (.fl 8 (.fl 9 (.fl 10 (.fl 11 (.fl 12 (.fl 13 (.fl 14 (.fl 15 (.fl 16 (.fl 17 (.fl 18 (.fl 19 (.fl 20 (.fl 21 (.fl 22 (.fl 23 (.fl 24 (.fl 25 (.fl 26 (.fl 27 (.fl 28 (.fl 29 (.fl 30 (.fl 31 (.fl 32 (.fl 33 (.fl 34 (.fl 36 (.fl 37 (.an 35 (.fl 38 (.fl 39 (.fl 40 (.fl 41 (.fl 43 (.fl 44 (.fl 45 (.fl 46 (.fl 47 (.an 42 (.fl 48 (.fl 49 (.fl 50 .done))) .no)))))))))) .no))))))))))))))))))))))))))))))))))))) .no) (.no)
theorem law5_DiskStays_ok {R : VCont} {a0 a1 a2 a3 a4 : Value} {w : World} (h : law5_DiskStays_main R a0 a1 a2 a3 a4 w) : Calls P nr.law5_DiskStays [a0, a1, a2, a3, a4].toArray w (Ret R) :=
  calls_of_sx (P := P) (fn := Try.f3) (Os := law5_DiskStays_os) (Es := []) (args := [a0, a1, a2, a3, a4]) mixed (by kernel_rfl) (by kernel_rfl) (by kernel_rfl) (by kernel_rfl) (by kernel_rfl) (by kernel_rfl) (by kernel_rfl)
    (Eq.mp (show law5_DiskStays_main R a0 a1 a2 a3 a4 w = sxh P law5_DiskStays_os [] [] 0 (bodyOf Try.f3) (retQ P Try.f3.results.toList R) (envOf [a0, a1, a2, a3, a4]) w by kernel_rfl) h)
theorem law5_DiskStays_call {R : VCont} {a0 a1 a2 a3 a4 : Value} {w : World} (h : law5_DiskStays_main R a0 a1 a2 a3 a4 w) : xCall P nr.law5_DiskStays [a0, a1, a2, a3, a4] w R :=
  xCall_of (P := P) (fn := Try.f3) (by kernel_rfl) (by kernel_rfl) (by kernel_rfl) (law5_DiskStays_ok h)

end Go.Proofs.Ytamejkogghpbhaa
