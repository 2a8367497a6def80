/- Printed by wip/gen/gen.py: the shallow texts of some functions. -/
import Derived.Test.YtamejkogghpbhaaNames
set_option linter.unusedVariables false
namespace Go.Proofs.Ytamejkogghpbhaa
open Go.Sx

/-! sojourn/sojournlaw5.told: function 12 -/
def law5_told_main (R : VCont) (w : World) : Prop :=
  xCall P nr.disk_New [(Value.int IntKind.i64 20)] w fun t1 w =>
  xExtract t1 0 w fun t2 w =>
  xExtract t1 1 w fun t3 w =>
  xEq P .neq 3 false true t3 (Value.int IntKind.i64 0) w fun t4 w =>
  xWhen t4 false (fun K => K t2 w) w fun t5 w =>
  xWhen t4 false (fun K => xEq P .eql 23 false true t5 (Value.pointer none) w K) w fun t6 w =>
  xPick t4 (Value.bool true) t6 w fun t7 w =>
  xIf t7
  (R (Value.bool false) w)
  (xBuildSlice P 22 5 [(0, (Value.int IntKind.u8 97)), (1, (Value.int IntKind.u8 98)), (2, (Value.int IntKind.u8 99)), (3, (Value.int IntKind.u8 100)), (4, (Value.int IntKind.u8 101))] w fun t8 w =>
  xConvK P .more 22 22 t8 w fun t9 w =>
  xCall P nr.disk_Disk_Append [t2, (Value.string { data := #[97] }), t9] w fun t10 w =>
  xCall P nr.disk_Disk_Sync [t2, (Value.string { data := #[97] })] w fun t11 w =>
  xBuildSlice P 22 3 [(0, (Value.int IntKind.u8 120)), (1, (Value.int IntKind.u8 121)), (2, (Value.int IntKind.u8 122))] w fun t12 w =>
  xConvK P .more 22 22 t12 w fun t13 w =>
  xCall P nr.disk_Disk_Append [t2, (Value.string { data := #[97] }), t13] w fun t14 w =>
  xCall P nr.disk_Disk_Copy [t2] w fun t15 w =>
  xCall P nr.disk_Disk_Crash [t2, (Value.int IntKind.i64 1)] w fun t16 w =>
  xCall P nr.disk_Disk_Read [t2, (Value.string { data := #[97] })] w fun t17 w =>
  xExtract t17 0 w fun t18 w =>
  xExtract t17 1 w fun t19 w =>
  xEq P .eql 3 false true t10 (Value.int IntKind.i64 0) w fun t20 w =>
  xWhen t20 true (fun K => K t11 w) w fun t21 w =>
  xWhen t20 true (fun K => xEq P .eql 3 false true t21 (Value.int IntKind.i64 0) w K) w fun t22 w =>
  xPick t20 t22 (Value.bool false) w fun t23 w =>
  xWhen t23 true (fun K => K t19 w) w fun t24 w =>
  xWhen t23 true (fun K => xEq P .eql 3 false true t24 (Value.int IntKind.i64 0) w K) w fun t25 w =>
  xPick t23 t25 (Value.bool false) w fun t26 w =>
  xWhen t26 true (fun K => K t18 w) w fun t27 w =>
  xWhen t26 true (fun K => xConvK P .read 22 9 t27 w K) w fun t28 w =>
  xWhen t26 true (fun K => xEq P .eql 9 false true t28 (Value.string { data := #[97, 98, 99, 100, 101, 120] }) w K) w fun t29 w =>
  xPick t26 t29 (Value.bool false) w fun t30 w =>
  xWhen t30 true (fun K => K t2 w) w fun t31 w =>
  xWhen t30 true (fun K => xCall P nr.disk_Disk_Synced [t31, (Value.string { data := #[97] })] w K) w fun t32 w =>
  xWhen t30 true (fun K => xEq P .eql 3 false true t32 (Value.int IntKind.i64 6) w K) w fun t33 w =>
  xPick t30 t33 (Value.bool false) w fun t34 w =>
  xWhen t34 true (fun K => K t15 w) w fun t35 w =>
  xWhen t34 true (fun K => xCall P nr.disk_Disk_Used [t35] w K) w fun t36 w =>
  xWhen t34 true (fun K => xEq P .eql 3 false true t36 (Value.int IntKind.i64 8) w K) w fun t37 w =>
  xPick t34 t37 (Value.bool false) w fun t38 w =>
  xWhen t38 true (fun K => K t2 w) w fun t39 w =>
  xWhen t38 true (fun K => xMakeSlice P 22 (Value.int IntKind.i64 15) (Value.int IntKind.i64 15) w K) w fun t40 w =>
  xWhen t38 true (fun K => xCall P nr.disk_Disk_Append [t39, (Value.string { data := #[97] }), t40] w K) w fun t41 w =>
  xWhen t38 true (fun K => xEq P .eql 3 false true t41 (Value.int IntKind.i64 4) w K) w fun t42 w =>
  xPick t38 t42 (Value.bool false) w fun t43 w =>
  xWhen t43 true (fun K => K t2 w) w fun t44 w =>
  xWhen t43 true (fun K => xCall P nr.disk_Disk_Rename [t44, (Value.string { data := #[97] }), (Value.string { data := #[98] })] w K) w fun t45 w =>
  xWhen t43 true (fun K => xEq P .eql 3 false true t45 (Value.int IntKind.i64 0) w K) w fun t46 w =>
  xPick t43 t46 (Value.bool false) w fun t47 w =>
  xWhen t47 true (fun K => K t2 w) w fun t48 w =>
  xWhen t47 true (fun K => xCall P nr.disk_Disk_Sync [t48, (Value.string { data := #[97] })] w K) w fun t49 w =>
  xWhen t47 true (fun K => xEq P .eql 3 false true t49 (Value.int IntKind.i64 5) w K) w fun t50 w =>
  xPick t47 t50 (Value.bool false) w fun t51 w =>
  xWhen t51 true (fun K => K t2 w) w fun t52 w =>
  xWhen t51 true (fun K => xCall P nr.disk_Disk_Names [t52] w K) w fun t53 w =>
  xWhen t51 true (fun K => xLen P .pure #[34] t53 w K) w fun t54 w =>
  xWhen t51 true (fun K => xEq P .eql 3 false true t54 (Value.int IntKind.i64 1) w K) w fun t55 w =>
  xPick t51 t55 (Value.bool false) w fun t56 w =>
  xWhen t56 true (fun K => K t2 w) w fun t57 w =>
  xWhen t56 true (fun K => xCall P nr.disk_Disk_Remove [t57, (Value.string { data := #[98] })] w K) w fun t58 w =>
  xWhen t56 true (fun K => xEq P .eql 3 false true t58 (Value.int IntKind.i64 0) w K) w fun t59 w =>
  xPick t56 t59 (Value.bool false) w fun t60 w =>
  xWhen t60 true (fun K => K t2 w) w fun t61 w =>
  xWhen t60 true (fun K => xCall P nr.disk_Disk_Used [t61] w K) w fun t62 w =>
  xWhen t60 true (fun K => xEq P .eql 3 false true t62 (Value.int IntKind.i64 0) w K) w fun t63 w =>
  xPick t60 t63 (Value.bool false) w fun t64 w =>
  R t64 w)
theorem law5_told_ok {R : VCont} {w : World} (h : law5_told_main R w) : Calls P nr.law5_told [].toArray w (Ret R) :=
  calls_of_sx (P := P) (fn := Try.f12) (Os := (fun _ => .no)) (Es := []) (args := []) mixed (by kernel_rfl) (by kernel_rfl) (by kernel_rfl) (by kernel_rfl) (by kernel_rfl) (by kernel_rfl) (by kernel_rfl)
    (Eq.mp (show law5_told_main R w = sxh P (fun _ => .no) [] [] 0 (bodyOf Try.f12) (retQ P Try.f12.results.toList R) (envOf []) w by kernel_rfl) h)
theorem law5_told_call {R : VCont} {w : World} (h : law5_told_main R w) : xCall P nr.law5_told [] w R :=
  xCall_of (P := P) (fn := Try.f12) (by kernel_rfl) (by kernel_rfl) (by kernel_rfl) (law5_told_ok h)

end Go.Proofs.Ytamejkogghpbhaa
