/- Printed by wip/gen/gen.py: the shallow texts of some functions. -/
import Derived.Test.YtamejkogghpbhaaNames
set_option linter.unusedVariables false
namespace Go.Proofs.Ytamejkogghpbhaa
open Go.Sx

/-! (*sojourn/sojournref5.D).Append: function 21 -/
def ref5_D_Append_j0 (R : VCont) (v0 v2 v7 : Value) (w : World) : Prop :=
  Sx.dr w fun w =>
  xNil v0 w fun t14 _ =>
  xOff (some 1) t14 w fun t15 _ =>
  xLoad1 t15 w fun t16 w' =>
  w' = w ∧
  xNil v0 w fun t17 _ =>
  xOff (some 1) t17 w fun t18 _ =>
  xLoad1 t18 w fun t19 w' =>
  w' = w ∧
  xIndexAddr P 41 t19 v7 w fun t20 _ =>
  xOff (some 1) t20 w fun t21 _ =>
  xLoad1 t21 w fun t22 w' =>
  w' = w ∧
  xBin P .add 9 t22 v2 w fun t23 _ =>
  xIndexAddr P 41 t16 v7 w fun t24 _ =>
  xOff (some 1) t24 w fun t25 _ =>
  xStore P 9 t25 t23 w fun _ w =>
  R (Value.int IntKind.i64 0) w
def ref5_D_Append_main (R : VCont) (a0 a1 a2 : Value) (w : World) : Prop :=
  xCall P nr.ref5_good [a1] w fun t1 w =>
  xUn P .not t1 w fun t2 w =>
  xIf t2
  (R (Value.int IntKind.i64 1) w)
  (Sx.dr w fun w =>
  xLen P .pure #[9] a2 w fun t3 _ =>
  xNil a0 w fun t4 _ =>
  xOff (some 0) t4 w fun t5 _ =>
  xLoad1 t5 w fun t6 w' =>
  w' = w ∧
  xCall P nr.ref5_D_Used [a0] w fun t7 w =>
  (xLoad1 t5 w fun t8 w' =>
  w' = w ∧ t8 = t6) ∧
  xBin P .sub 3 t6 t7 w fun t9 _ =>
  xBin P .gtr 3 t3 t9 w fun t10 _ =>
  xIf t10
  (R (Value.int IntKind.i64 4) w)
  (xCall P nr.ref5_D_at [a0, a1] w fun t11 w =>
  xExtract t11 0 w fun t12 w =>
  xExtract t11 1 w fun t13 w =>
  xUn P .not t13 w fun t26 w =>
  xIf t26
  (Sx.dr w fun w =>
  xNil a0 w fun t27 _ =>
  xOff (some 1) t27 w fun t28 _ =>
  xLoad1 t28 w fun t29 w' =>
  w' = w ∧
  xSlice P 41 t29 none (some t12) none w fun t30 _ =>
  xBuild P 76 [(0, a1)] w fun t31 _ =>
  xNil a0 w fun t32 _ =>
  xOff (some 1) t32 w fun t33 _ =>
  xLoad1 t33 w fun t34 w' =>
  w' = w ∧
  xSlice P 41 t34 (some t12) none none w fun t35 _ =>
  (xBuildSlice P 41 0 [] w fun t36 w =>
  (xLoad1 t33 w fun t37 w' =>
  w' = w ∧ t37 = t34) ∧
  (xLoad1 t28 w fun t38 w' =>
  w' = w ∧ t38 = t29) ∧
  (xBuiltin P .append #[41, 41] 41 [false, false] [t36, t30] w fun t39 w =>
  (xLoad1 t33 w fun t40 w' =>
  w' = w ∧ t40 = t34) ∧
  xBuildSlice P 41 1 [(0, t31)] w fun t41 w =>
  (xLoad1 t33 w fun t42 w' =>
  w' = w ∧ t42 = t34) ∧
  xBuiltin P .append #[41, 41] 41 [false, false] [t39, t41] w fun t43 w =>
  (xLoad1 t33 w fun t44 w' =>
  w' = w ∧ t44 = t34) ∧
  xBuiltin P .append #[41, 41] 41 [false, false] [t43, t35] w fun t45 w =>
  xNil a0 w fun t46 _ =>
  xOff (some 1) t46 w fun t47 _ =>
  xStore P 41 t47 t45 w fun _ w =>
  ref5_D_Append_j0 R a0 a2 t12 w) ∧
  (xBuildSlice P 41 1 [(0, t31)] w fun t48 w =>
  (xLoad1 t33 w fun t49 w' =>
  w' = w ∧ t49 = t34) ∧
  (xLoad1 t28 w fun t50 w' =>
  w' = w ∧ t50 = t29) ∧
  xBuiltin P .append #[41, 41] 41 [false, false] [t36, t30] w fun t51 w =>
  (xLoad1 t33 w fun t52 w' =>
  w' = w ∧ t52 = t34) ∧
  xBuiltin P .append #[41, 41] 41 [false, false] [t51, t48] w fun t53 w =>
  (xLoad1 t33 w fun t54 w' =>
  w' = w ∧ t54 = t34) ∧
  xBuiltin P .append #[41, 41] 41 [false, false] [t53, t35] w fun t55 w =>
  xNil a0 w fun t56 _ =>
  xOff (some 1) t56 w fun t57 _ =>
  xStore P 41 t57 t55 w fun _ w =>
  ref5_D_Append_j0 R a0 a2 t12 w)) ∧
  (xBuildSlice P 41 1 [(0, t31)] w fun t58 w =>
  (xLoad1 t33 w fun t59 w' =>
  w' = w ∧ t59 = t34) ∧
  (xLoad1 t28 w fun t60 w' =>
  w' = w ∧ t60 = t29) ∧
  xBuildSlice P 41 0 [] w fun t61 w =>
  (xLoad1 t33 w fun t62 w' =>
  w' = w ∧ t62 = t34) ∧
  (xLoad1 t28 w fun t63 w' =>
  w' = w ∧ t63 = t29) ∧
  xBuiltin P .append #[41, 41] 41 [false, false] [t61, t30] w fun t64 w =>
  (xLoad1 t33 w fun t65 w' =>
  w' = w ∧ t65 = t34) ∧
  xBuiltin P .append #[41, 41] 41 [false, false] [t64, t58] w fun t66 w =>
  (xLoad1 t33 w fun t67 w' =>
  w' = w ∧ t67 = t34) ∧
  xBuiltin P .append #[41, 41] 41 [false, false] [t66, t35] w fun t68 w =>
  xNil a0 w fun t69 _ =>
  xOff (some 1) t69 w fun t70 _ =>
  xStore P 41 t70 t68 w fun _ w =>
  ref5_D_Append_j0 R a0 a2 t12 w))
  (ref5_D_Append_j0 R a0 a2 t12 w)))
def ref5_D_Append_os (i : Nat) : OT := cond (Nat.beq i 3) (.fl 0 (.fl 1 (.fl 2 (.fl 3 (.fl 4 (.fl 5 (.fl 6 (.an 7 (.fl 8 (.fl 9 .done)) .no)))))))) (cond (Nat.beq i 7) (.fl 0 (.fl 2 (.fl 3 (.fl 4 (.fl 5 (.fl 6 (.fl 7 (.fl 9 (.fl 10 (.fl 13 (.fl 14 (.fl 15 (.fl 16 (.fl 17 (.fl 18 (.an 1 (.an 8 (.an 11 (.an 12 (.an 19 (.fl 20 (.fl 21 (.an 22 .done .no))) .no) .no) .no) (.an 11 (.an 8 (.an 12 (.an 19 (.fl 20 (.fl 21 (.an 22 .done .no))) .no) .no) .no) .no)) (.an 11 (.an 1 (.an 8 (.an 12 (.an 19 (.fl 20 (.fl 21 (.an 22 .done .no))) .no) .no) .no) .no) .no))))))))))))))))) (cond (Nat.beq i 8) (.fl 0 (.fl 1 (.fl 2 (.fl 3 (.fl 4 (.fl 5 (.fl 6 (.fl 7 (.fl 8 (.fl 9 (.fl 10 (.fl 11 (.fl 12 (.fl 13 (.fl 14 (.fl 15 (.fl 16 (.an 17 .done .no)))))))))))))))))) (.no)))
def ref5_D_Append_es (R : VCont) : List Ent := [
  .join fun Xs e w => ref5_D_Append_j0 R (e 0) (e 2) (e 7) w]
theorem ref5_D_Append_ok {R : VCont} {a0 a1 a2 : Value} {w : World} (h : ref5_D_Append_main R a0 a1 a2 w) : Calls P nr.ref5_D_Append [a0, a1, a2].toArray w (Ret R) :=
  calls_of_sx (P := P) (fn := Try.f21) (Os := ref5_D_Append_os) (Es := (ref5_D_Append_es R)) (args := [a0, a1, a2]) mixed (by kernel_rfl) (by kernel_rfl) (by kernel_rfl) (by kernel_rfl) (by kernel_rfl) (by kernel_rfl) (by kernel_rfl)
    (Eq.mp (show ref5_D_Append_main R a0 a1 a2 w = sxh P ref5_D_Append_os (ref5_D_Append_es R) [] 0 (bodyOf Try.f21) (retQ P Try.f21.results.toList R) (envOf [a0, a1, a2]) w by kernel_rfl) h)
theorem ref5_D_Append_call {R : VCont} {a0 a1 a2 : Value} {w : World} (h : ref5_D_Append_main R a0 a1 a2 w) : xCall P nr.ref5_D_Append [a0, a1, a2] w R :=
  xCall_of (P := P) (fn := Try.f21) (by kernel_rfl) (by kernel_rfl) (by kernel_rfl) (ref5_D_Append_ok h)

/-! (*sojourn/sojournref5.D).Sync: function 22 -/
def ref5_D_Sync_main (R : VCont) (a0 a1 : Value) (w : World) : Prop :=
  xCall P nr.ref5_D_at [a0, a1] w fun t1 w =>
  xExtract t1 0 w fun t2 w =>
  xExtract t1 1 w fun t3 w =>
  xUn P .not t3 w fun t4 w =>
  xIf t4
  (R (Value.int IntKind.i64 5) w)
  (Sx.dr w fun w =>
  xNil a0 w fun t5 _ =>
  xOff (some 1) t5 w fun t6 _ =>
  xLoad1 t6 w fun t7 w' =>
  w' = w ∧
  xNil a0 w fun t8 _ =>
  xOff (some 1) t8 w fun t9 _ =>
  xLoad1 t9 w fun t10 w' =>
  w' = w ∧
  xIndexAddr P 41 t10 t2 w fun t11 _ =>
  xOff (some 1) t11 w fun t12 _ =>
  xLoad1 t12 w fun t13 w' =>
  w' = w ∧
  xLen P .pure #[9] t13 w fun t14 _ =>
  xIndexAddr P 41 t7 t2 w fun t15 _ =>
  xOff (some 2) t15 w fun t16 _ =>
  xStore P 3 t16 t14 w fun _ w =>
  R (Value.int IntKind.i64 0) w)
def ref5_D_Sync_os (i : Nat) : OT := cond (Nat.beq i 4) (.fl 0 (.fl 1 (.fl 2 (.fl 3 (.fl 4 (.fl 5 (.fl 6 (.fl 7 (.fl 8 (.fl 9 (.fl 10 (.fl 11 (.fl 12 (.fl 13 (.fl 14 (.fl 15 (.an 16 .done .no))))))))))))))))) (.no)
theorem ref5_D_Sync_ok {R : VCont} {a0 a1 : Value} {w : World} (h : ref5_D_Sync_main R a0 a1 w) : Calls P nr.ref5_D_Sync [a0, a1].toArray w (Ret R) :=
  calls_of_sx (P := P) (fn := Try.f22) (Os := ref5_D_Sync_os) (Es := []) (args := [a0, a1]) mixed (by kernel_rfl) (by kernel_rfl) (by kernel_rfl) (by kernel_rfl) (by kernel_rfl) (by kernel_rfl) (by kernel_rfl)
    (Eq.mp (show ref5_D_Sync_main R a0 a1 w = sxh P ref5_D_Sync_os [] [] 0 (bodyOf Try.f22) (retQ P Try.f22.results.toList R) (envOf [a0, a1]) w by kernel_rfl) h)
theorem ref5_D_Sync_call {R : VCont} {a0 a1 : Value} {w : World} (h : ref5_D_Sync_main R a0 a1 w) : xCall P nr.ref5_D_Sync [a0, a1] w R :=
  xCall_of (P := P) (fn := Try.f22) (by kernel_rfl) (by kernel_rfl) (by kernel_rfl) (ref5_D_Sync_ok h)

/-! (*sojourn/sojournref5.D).Cut: function 24 -/
def ref5_D_Cut_main (R : VCont) (a0 a1 a2 : Value) (w : World) : Prop :=
  xCall P nr.ref5_D_at [a0, a1] w fun t1 w =>
  xExtract t1 0 w fun t2 w =>
  xExtract t1 1 w fun t3 w =>
  xUn P .not t3 w fun t4 w =>
  xIf t4
  (R (Value.int IntKind.i64 5) w)
  (xBin P .lss 3 a2 (Value.int IntKind.i64 0) w fun t5 w =>
  xWhen t5 false (fun K => K a2 w) w fun t6 w =>
  xWhen t5 false (fun K => K a0 w) w fun t7 w =>
  xWhen t5 false (fun K => xNil t7 w K) w fun t8 w =>
  xWhen t5 false (fun K => xOff (some 1) t8 w K) w fun t9 w =>
  xWhen t5 false (fun K => xLoad1 t9 w K) w fun t10 w =>
  xWhen t5 false (fun K => K t2 w) w fun t11 w =>
  xWhen t5 false (fun K => xIndexAddr P 41 t10 t11 w K) w fun t12 w =>
  xWhen t5 false (fun K => xOff (some 1) t12 w K) w fun t13 w =>
  xWhen t5 false (fun K => xLoad1 t13 w K) w fun t14 w =>
  xWhen t5 false (fun K => xLen P .pure #[9] t14 w K) w fun t15 w =>
  xWhen t5 false (fun K => xBin P .gtr 3 t6 t15 w K) w fun t16 w =>
  xPick t5 (Value.bool true) t16 w fun t17 w =>
  xIf t17
  (R (Value.int IntKind.i64 3) w)
  (Sx.dr w fun w =>
  xNil a0 w fun t18 _ =>
  xOff (some 1) t18 w fun t19 _ =>
  xLoad1 t19 w fun t20 w' =>
  w' = w ∧
  xNil a0 w fun t21 _ =>
  xOff (some 1) t21 w fun t22 _ =>
  xLoad1 t22 w fun t23 w' =>
  w' = w ∧
  xNil a0 w fun t24 _ =>
  xOff (some 1) t24 w fun t25 _ =>
  xLoad1 t25 w fun t26 w' =>
  w' = w ∧
  xIndexAddr P 41 t26 t2 w fun t27 _ =>
  xOff (some 1) t27 w fun t28 _ =>
  xLoad1 t28 w fun t29 w' =>
  w' = w ∧
  xSlice P 9 t29 none (some a2) none w fun t30 _ =>
  xIndexAddr P 41 t20 t2 w fun t31 _ =>
  xOff (some 1) t31 w fun t32 _ =>
  xStore P 9 t32 t30 w fun _ w =>
  xIndexAddr P 41 t23 t2 w fun t33 _ =>
  xOff (some 2) t33 w fun t34 _ =>
  xStore P 3 t34 a2 w fun _ w =>
  R (Value.int IntKind.i64 0) w))
def ref5_D_Cut_os (i : Nat) : OT := cond (Nat.beq i 6) (.fl 0 (.fl 1 (.fl 2 (.fl 3 (.fl 4 (.fl 5 (.fl 6 (.fl 7 (.fl 8 (.fl 9 (.fl 10 (.fl 11 (.fl 12 (.fl 13 (.fl 14 (.fl 15 (.fl 16 (.fl 17 (.fl 18 (.fl 19 (.fl 20 (.fl 21 (.fl 22 (.an 23 (.fl 24 (.fl 25 (.an 26 .done .no))) .no)))))))))))))))))))))))) (.no)
theorem ref5_D_Cut_ok {R : VCont} {a0 a1 a2 : Value} {w : World} (h : ref5_D_Cut_main R a0 a1 a2 w) : Calls P nr.ref5_D_Cut [a0, a1, a2].toArray w (Ret R) :=
  calls_of_sx (P := P) (fn := Try.f24) (Os := ref5_D_Cut_os) (Es := []) (args := [a0, a1, a2]) mixed (by kernel_rfl) (by kernel_rfl) (by kernel_rfl) (by kernel_rfl) (by kernel_rfl) (by kernel_rfl) (by kernel_rfl)
    (Eq.mp (show ref5_D_Cut_main R a0 a1 a2 w = sxh P ref5_D_Cut_os [] [] 0 (bodyOf Try.f24) (retQ P Try.f24.results.toList R) (envOf [a0, a1, a2]) w by kernel_rfl) h)
theorem ref5_D_Cut_call {R : VCont} {a0 a1 a2 : Value} {w : World} (h : ref5_D_Cut_main R a0 a1 a2 w) : xCall P nr.ref5_D_Cut [a0, a1, a2] w R :=
  xCall_of (P := P) (fn := Try.f24) (by kernel_rfl) (by kernel_rfl) (by kernel_rfl) (ref5_D_Cut_ok h)

/-! (*sojourn/sojournref5.D).Rename: function 25 -/
def ref5_D_Rename_j0 (R : VCont) (w : World) : Prop :=
  R (Value.int IntKind.i64 0) w
def ref5_D_Rename_main (R : VCont) (a0 a1 a2 : Value) (w : World) : Prop :=
  xCall P nr.ref5_D_at [a0, a1] w fun t1 w =>
  xExtract t1 0 w fun t2 w =>
  xExtract t1 1 w fun t3 w =>
  xUn P .not t3 w fun t4 w =>
  xIf t4
  (R (Value.int IntKind.i64 5) w)
  (xCall P nr.ref5_good [a2] w fun t5 w =>
  xUn P .not t5 w fun t6 w =>
  xIf t6
  (R (Value.int IntKind.i64 1) w)
  (xEq P .eql 9 false false a1 a2 w fun t7 w =>
  xIf t7
  (R (Value.int IntKind.i64 0) w)
  (xNil a0 w fun t8 w =>
  xOff (some 1) t8 w fun t9 w =>
  xLoad1 t9 w fun t10 w =>
  xIndexAddr P 41 t10 t2 w fun t11 w =>
  xLoadN 3 t11 w fun t12 w =>
  xAlloc P 76 w fun t13 w =>
  xStore P 76 t13 t12 w fun _ w =>
  xCall P nr.ref5_D_Remove [a0, a1] w fun t14 w =>
  xCall P nr.ref5_D_Remove [a0, a2] w fun t15 w =>
  xOff (some 0) t13 w fun t16 w =>
  xStore P 9 t16 a2 w fun _ w =>
  xCall P nr.ref5_D_at [a0, a2] w fun t17 w =>
  xExtract t17 0 w fun t18 w =>
  xExtract t17 1 w fun t19 w =>
  Sx.dr w fun w =>
  xNil a0 w fun t20 _ =>
  xOff (some 1) t20 w fun t21 _ =>
  xLoad1 t21 w fun t22 w' =>
  w' = w ∧
  xSlice P 41 t22 none (some t18) none w fun t23 _ =>
  xLoadN 3 t13 w fun t24 w' =>
  w' = w ∧
  xNil a0 w fun t25 _ =>
  xOff (some 1) t25 w fun t26 _ =>
  xLoad1 t26 w fun t27 w' =>
  w' = w ∧
  xSlice P 41 t27 (some t18) none none w fun t28 _ =>
  (xBuildSlice P 41 0 [] w fun t29 w =>
  (xLoad1 t26 w fun t30 w' =>
  w' = w ∧ t30 = t27) ∧
  (xLoadN 3 t13 w fun t31 w' =>
  w' = w ∧ t31 = t24) ∧
  (xLoad1 t21 w fun t32 w' =>
  w' = w ∧ t32 = t22) ∧
  (xBuiltin P .append #[41, 41] 41 [false, false] [t29, t23] w fun t33 w =>
  (xLoad1 t26 w fun t34 w' =>
  w' = w ∧ t34 = t27) ∧
  (xLoadN 3 t13 w fun t35 w' =>
  w' = w ∧ t35 = t24) ∧
  xBuildSlice P 41 1 [(0, t24)] w fun t36 w =>
  (xLoad1 t26 w fun t37 w' =>
  w' = w ∧ t37 = t27) ∧
  xBuiltin P .append #[41, 41] 41 [false, false] [t33, t36] w fun t38 w =>
  (xLoad1 t26 w fun t39 w' =>
  w' = w ∧ t39 = t27) ∧
  xBuiltin P .append #[41, 41] 41 [false, false] [t38, t28] w fun t40 w =>
  xNil a0 w fun t41 _ =>
  xOff (some 1) t41 w fun t42 _ =>
  xStore P 41 t42 t40 w fun _ w =>
  ref5_D_Rename_j0 R w) ∧
  (xBuildSlice P 41 1 [(0, t24)] w fun t43 w =>
  (xLoad1 t26 w fun t44 w' =>
  w' = w ∧ t44 = t27) ∧
  (xLoad1 t21 w fun t45 w' =>
  w' = w ∧ t45 = t22) ∧
  xBuiltin P .append #[41, 41] 41 [false, false] [t29, t23] w fun t46 w =>
  (xLoad1 t26 w fun t47 w' =>
  w' = w ∧ t47 = t27) ∧
  xBuiltin P .append #[41, 41] 41 [false, false] [t46, t43] w fun t48 w =>
  (xLoad1 t26 w fun t49 w' =>
  w' = w ∧ t49 = t27) ∧
  xBuiltin P .append #[41, 41] 41 [false, false] [t48, t28] w fun t50 w =>
  xNil a0 w fun t51 _ =>
  xOff (some 1) t51 w fun t52 _ =>
  xStore P 41 t52 t50 w fun _ w =>
  ref5_D_Rename_j0 R w)) ∧
  (xBuildSlice P 41 1 [(0, t24)] w fun t53 w =>
  (xLoad1 t26 w fun t54 w' =>
  w' = w ∧ t54 = t27) ∧
  (xLoad1 t21 w fun t55 w' =>
  w' = w ∧ t55 = t22) ∧
  xBuildSlice P 41 0 [] w fun t56 w =>
  (xLoad1 t26 w fun t57 w' =>
  w' = w ∧ t57 = t27) ∧
  (xLoad1 t21 w fun t58 w' =>
  w' = w ∧ t58 = t22) ∧
  xBuiltin P .append #[41, 41] 41 [false, false] [t56, t23] w fun t59 w =>
  (xLoad1 t26 w fun t60 w' =>
  w' = w ∧ t60 = t27) ∧
  xBuiltin P .append #[41, 41] 41 [false, false] [t59, t53] w fun t61 w =>
  (xLoad1 t26 w fun t62 w' =>
  w' = w ∧ t62 = t27) ∧
  xBuiltin P .append #[41, 41] 41 [false, false] [t61, t28] w fun t63 w =>
  xNil a0 w fun t64 _ =>
  xOff (some 1) t64 w fun t65 _ =>
  xStore P 41 t65 t63 w fun _ w =>
  ref5_D_Rename_j0 R w))))
def ref5_D_Rename_os (i : Nat) : OT := cond (Nat.beq i 13) (.fl 0 (.fl 2 (.fl 3 (.fl 4 (.fl 5 (.fl 6 (.fl 7 (.fl 9 (.fl 12 (.fl 13 (.fl 14 (.fl 15 (.fl 16 (.fl 17 (.an 1 (.an 8 (.an 10 (.an 11 (.an 18 (.fl 19 (.fl 20 (.an 21 .done .no))) .no) .no) .no) (.an 10 (.an 8 (.an 11 (.an 18 (.fl 19 (.fl 20 (.an 21 .done .no))) .no) .no) .no) .no)) (.an 10 (.an 1 (.an 8 (.an 11 (.an 18 (.fl 19 (.fl 20 (.an 21 .done .no))) .no) .no) .no) .no) .no)))))))))))))))) (.no)
def ref5_D_Rename_es (R : VCont) : List Ent := [
  .join fun Xs e w => ref5_D_Rename_j0 R  w]
theorem ref5_D_Rename_ok {R : VCont} {a0 a1 a2 : Value} {w : World} (h : ref5_D_Rename_main R a0 a1 a2 w) : Calls P nr.ref5_D_Rename [a0, a1, a2].toArray w (Ret R) :=
  calls_of_sx (P := P) (fn := Try.f25) (Os := ref5_D_Rename_os) (Es := (ref5_D_Rename_es R)) (args := [a0, a1, a2]) mixed (by kernel_rfl) (by kernel_rfl) (by kernel_rfl) (by kernel_rfl) (by kernel_rfl) (by kernel_rfl) (by kernel_rfl)
    (Eq.mp (show ref5_D_Rename_main R a0 a1 a2 w = sxh P ref5_D_Rename_os (ref5_D_Rename_es R) [] 0 (bodyOf Try.f25) (retQ P Try.f25.results.toList R) (envOf [a0, a1, a2]) w by kernel_rfl) h)
theorem ref5_D_Rename_call {R : VCont} {a0 a1 a2 : Value} {w : World} (h : ref5_D_Rename_main R a0 a1 a2 w) : xCall P nr.ref5_D_Rename [a0, a1, a2] w R :=
  xCall_of (P := P) (fn := Try.f25) (by kernel_rfl) (by kernel_rfl) (by kernel_rfl) (ref5_D_Rename_ok h)

/-! (*sojourn/sojournref5.D).Remove: function 27 -/
def ref5_D_Remove_j0 (R : VCont) (w : World) : Prop :=
  R (Value.int IntKind.i64 0) w
def ref5_D_Remove_main (R : VCont) (a0 a1 : Value) (w : World) : Prop :=
  xCall P nr.ref5_D_at [a0, a1] w fun t1 w =>
  xExtract t1 0 w fun t2 w =>
  xExtract t1 1 w fun t3 w =>
  xUn P .not t3 w fun t4 w =>
  xIf t4
  (R (Value.int IntKind.i64 5) w)
  (Sx.dr w fun w =>
  xNil a0 w fun t5 _ =>
  xOff (some 1) t5 w fun t6 _ =>
  xLoad1 t6 w fun t7 w' =>
  w' = w ∧
  xSlice P 41 t7 none (some t2) none w fun t8 _ =>
  xNil a0 w fun t9 _ =>
  xOff (some 1) t9 w fun t10 _ =>
  xLoad1 t10 w fun t11 w' =>
  w' = w ∧
  xBin P .add 3 t2 (Value.int IntKind.i64 1) w fun t12 _ =>
  xSlice P 41 t11 (some t12) none none w fun t13 _ =>
  xBuildSlice P 41 0 [] w fun t14 w =>
  (xLoad1 t10 w fun t15 w' =>
  w' = w ∧ t15 = t11) ∧
  (xLoad1 t6 w fun t16 w' =>
  w' = w ∧ t16 = t7) ∧
  xBuiltin P .append #[41, 41] 41 [false, false] [t14, t8] w fun t17 w =>
  (xLoad1 t10 w fun t18 w' =>
  w' = w ∧ t18 = t11) ∧
  xBuiltin P .append #[41, 41] 41 [false, false] [t17, t13] w fun t19 w =>
  xNil a0 w fun t20 _ =>
  xOff (some 1) t20 w fun t21 _ =>
  xStore P 41 t21 t19 w fun _ w =>
  ref5_D_Remove_j0 R w)
def ref5_D_Remove_os (i : Nat) : OT := cond (Nat.beq i 4) (.fl 0 (.fl 2 (.fl 3 (.fl 4 (.fl 5 (.fl 6 (.fl 7 (.fl 9 (.fl 10 (.fl 11 (.fl 12 (.fl 13 (.fl 14 (.fl 15 (.an 1 (.an 8 (.an 16 (.fl 17 (.fl 18 (.an 19 .done .no))) .no) .no) .no))))))))))))))) (.no)
def ref5_D_Remove_es (R : VCont) : List Ent := [
  .join fun Xs e w => ref5_D_Remove_j0 R  w]
theorem ref5_D_Remove_ok {R : VCont} {a0 a1 : Value} {w : World} (h : ref5_D_Remove_main R a0 a1 w) : Calls P nr.ref5_D_Remove [a0, a1].toArray w (Ret R) :=
  calls_of_sx (P := P) (fn := Try.f27) (Os := ref5_D_Remove_os) (Es := (ref5_D_Remove_es R)) (args := [a0, a1]) mixed (by kernel_rfl) (by kernel_rfl) (by kernel_rfl) (by kernel_rfl) (by kernel_rfl) (by kernel_rfl) (by kernel_rfl)
    (Eq.mp (show ref5_D_Remove_main R a0 a1 w = sxh P ref5_D_Remove_os (ref5_D_Remove_es R) [] 0 (bodyOf Try.f27) (retQ P Try.f27.results.toList R) (envOf [a0, a1]) w by kernel_rfl) h)
theorem ref5_D_Remove_call {R : VCont} {a0 a1 : Value} {w : World} (h : ref5_D_Remove_main R a0 a1 w) : xCall P nr.ref5_D_Remove [a0, a1] w R :=
  xCall_of (P := P) (fn := Try.f27) (by kernel_rfl) (by kernel_rfl) (by kernel_rfl) (ref5_D_Remove_ok h)

/-! (*sojourn/sojournref5.D).Crash: function 28 -/
def ref5_D_Crash_j0 (R : VCont) (v0 v4 : Value) (w : World) : Prop :=
  xNil v0 w fun t6 w =>
  xOff (some 1) t6 w fun t7 w =>
  xStore P 41 t7 v4 w fun _ w =>
  R (Value.tuple #[]) w
def ref5_D_Crash_j2 (R : VCont) (X0 : LX) (v4 v5 v6 : Value) (w : World) : Prop :=
  Sx.dr w fun w =>
  xIndexAddr P 41 v4 v5 w fun t47 _ =>
  xOff (some 1) t47 w fun t48 _ =>
  xLoad1 t48 w fun t49 w' =>
  w' = w ∧
  xIndexAddr P 41 v4 v5 w fun t50 _ =>
  xOff (some 2) t50 w fun t51 _ =>
  xLoad1 t51 w fun t52 w' =>
  w' = w ∧
  xBin P .add 3 t52 v6 w fun t53 _ =>
  xSlice P 9 t49 none (some t53) none w fun t54 _ =>
  xIndexAddr P 41 v4 v5 w fun t55 _ =>
  xOff (some 1) t55 w fun t56 _ =>
  xStore P 9 t56 t54 w fun _ w =>
  xIndexAddr P 41 v4 v5 w fun t57 w =>
  xOff (some 1) t57 w fun t58 w =>
  xLoad1 t58 w fun t59 w =>
  xLen P .pure #[9] t59 w fun t60 w =>
  xIndexAddr P 41 v4 v5 w fun t61 w =>
  xOff (some 2) t61 w fun t62 w =>
  xStore P 3 t62 t60 w fun _ w =>
  xBin P .add 3 v5 (Value.int IntKind.i64 1) w fun t63 w =>
  X0 [t63] w
def ref5_D_Crash_l1 (R : VCont) (X0 : LX) (v0 v1 v4 v5 : Value) (w : World) : Prop :=
  xLen P .pure #[41] v4 w fun t37 w =>
  xBin P .lss 3 v5 t37 w fun t38 w =>
  xIf t38
  (Sx.dr w fun w =>
  xIndexAddr P 41 v4 v5 w fun t39 _ =>
  xOff (some 1) t39 w fun t40 _ =>
  xLoad1 t40 w fun t41 w' =>
  w' = w ∧
  xLen P .pure #[9] t41 w fun t42 _ =>
  xIndexAddr P 41 v4 v5 w fun t43 _ =>
  xOff (some 2) t43 w fun t44 _ =>
  xLoad1 t44 w fun t45 w' =>
  w' = w ∧
  xBin P .sub 3 t42 t45 w fun t46 _ =>
  xBin P .lss 3 v1 t46 w fun t64 w =>
  xIf t64
  (xMinMax P true [v1, (Value.int IntKind.i64 0)] w fun t65 w =>
  ref5_D_Crash_j2 R X0 v4 v5 t65 w)
  (ref5_D_Crash_j2 R X0 v4 v5 t46 w))
  (ref5_D_Crash_j0 R v0 v4 w)
def ref5_D_Crash_main (R : VCont) (a0 a1 : Value) (w : World) : Prop :=
  xBuildSlice P 41 0 [] w fun t1 w =>
  xNil a0 w fun t2 w =>
  xOff (some 1) t2 w fun t3 w =>
  xLoad1 t3 w fun t4 w =>
  xBuiltin P .append #[41, 41] 41 [false, false] [t1, t4] w fun t5 w =>
  Lp (fun X s w => ref5_D_Crash_l1 R X a0 a1 t5 (s.getD 0 undef) w) [(Value.int IntKind.i64 0)] w
def ref5_D_Crash_os (i : Nat) : OT := cond (Nat.beq i 4) (.fl 0 (.fl 1 (.fl 2 (.fl 3 (.fl 4 (.fl 5 (.fl 6 (.fl 7 (.fl 8 (.fl 9 (.fl 10 (.fl 11 (.fl 12 .done))))))))))))) (cond (Nat.beq i 7) (.fl 0 (.fl 1 (.fl 2 (.fl 3 (.fl 4 (.fl 5 (.fl 6 (.fl 7 (.fl 8 (.fl 9 (.fl 10 (.fl 11 (.fl 12 (.fl 13 (.fl 14 (.fl 15 (.fl 16 (.an 17 .done .no)))))))))))))))))) (.no))
def ref5_D_Crash_es (R : VCont) : List Ent := [
  .join fun Xs e w => ref5_D_Crash_j0 R (e 0) (e 4) w,
  .loop [0, 1, 4] [5] fun Xs fx X s w => ref5_D_Crash_l1 R X (fx.getD 0 undef) (fx.getD 1 undef) (fx.getD 2 undef) (s.getD 0 undef) w,
  .join fun Xs e w => ref5_D_Crash_j2 R (hx Xs) (e 4) (e 5) (e 6) w]
theorem ref5_D_Crash_ok {R : VCont} {a0 a1 : Value} {w : World} (h : ref5_D_Crash_main R a0 a1 w) : Calls P nr.ref5_D_Crash [a0, a1].toArray w (Ret R) :=
  calls_of_sx (P := P) (fn := Try.f28) (Os := ref5_D_Crash_os) (Es := (ref5_D_Crash_es R)) (args := [a0, a1]) mixed (by kernel_rfl) (by kernel_rfl) (by kernel_rfl) (by kernel_rfl) (by kernel_rfl) (by kernel_rfl) (by kernel_rfl)
    (Eq.mp (show ref5_D_Crash_main R a0 a1 w = sxh P ref5_D_Crash_os (ref5_D_Crash_es R) [] 0 (bodyOf Try.f28) (retQ P Try.f28.results.toList R) (envOf [a0, a1]) w by kernel_rfl) h)
theorem ref5_D_Crash_call {R : VCont} {a0 a1 : Value} {w : World} (h : ref5_D_Crash_main R a0 a1 w) : xCall P nr.ref5_D_Crash [a0, a1] w R :=
  xCall_of (P := P) (fn := Try.f28) (by kernel_rfl) (by kernel_rfl) (by kernel_rfl) (ref5_D_Crash_ok h)

/-! (*sojourn/sojournref5.D).Read: function 31 -/
def ref5_D_Read_main (R : VCont) (a0 a1 : Value) (w : World) : Prop :=
  xCall P nr.ref5_D_at [a0, a1] w fun t1 w =>
  xExtract t1 0 w fun t2 w =>
  xExtract t1 1 w fun t3 w =>
  xUn P .not t3 w fun t4 w =>
  xIf t4
  (R (Value.tuple #[(Value.string { data := #[] }), (Value.int IntKind.i64 5)]) w)
  (xNil a0 w fun t5 w =>
  xOff (some 1) t5 w fun t6 w =>
  xLoad1 t6 w fun t7 w =>
  xIndexAddr P 41 t7 t2 w fun t8 w =>
  xOff (some 1) t8 w fun t9 w =>
  xLoad1 t9 w fun t10 w =>
  R (Value.tuple #[t10, (Value.int IntKind.i64 0)]) w)
theorem ref5_D_Read_ok {R : VCont} {a0 a1 : Value} {w : World} (h : ref5_D_Read_main R a0 a1 w) : Calls P nr.ref5_D_Read [a0, a1].toArray w (Ret R) :=
  calls_of_sx (P := P) (fn := Try.f31) (Os := (fun _ => .no)) (Es := []) (args := [a0, a1]) mixed (by kernel_rfl) (by kernel_rfl) (by kernel_rfl) (by kernel_rfl) (by kernel_rfl) (by kernel_rfl) (by kernel_rfl)
    (Eq.mp (show ref5_D_Read_main R a0 a1 w = sxh P (fun _ => .no) [] [] 0 (bodyOf Try.f31) (retQ P Try.f31.results.toList R) (envOf [a0, a1]) w by kernel_rfl) h)
theorem ref5_D_Read_call {R : VCont} {a0 a1 : Value} {w : World} (h : ref5_D_Read_main R a0 a1 w) : xCall P nr.ref5_D_Read [a0, a1] w R :=
  xCall_of (P := P) (fn := Try.f31) (by kernel_rfl) (by kernel_rfl) (by kernel_rfl) (ref5_D_Read_ok h)

/-! (*sojourn/sojournref5.D).Used: function 52 -/
def ref5_D_Used_j0 (R : VCont) (v3 : Value) (w : World) : Prop :=
  R v3 w
def ref5_D_Used_l1 (R : VCont) (X0 : LX) (v0 v3 v4 : Value) (w : World) : Prop :=
  xNil v0 w fun t15 w =>
  xOff (some 1) t15 w fun t16 w =>
  xLoad1 t16 w fun t17 w =>
  xLen P .pure #[41] t17 w fun t18 w =>
  xBin P .lss 3 v4 t18 w fun t19 w =>
  xIf t19
  (xNil v0 w fun t20 w =>
  xOff (some 1) t20 w fun t21 w =>
  xLoad1 t21 w fun t22 w =>
  xIndexAddr P 41 t22 v4 w fun t23 w =>
  xOff (some 1) t23 w fun t24 w =>
  xLoad1 t24 w fun t25 w =>
  xLen P .pure #[9] t25 w fun t26 w =>
  xBin P .add 3 v3 t26 w fun t27 w =>
  xBin P .add 3 v4 (Value.int IntKind.i64 1) w fun t28 w =>
  X0 [t27, t28] w)
  (ref5_D_Used_j0 R v3 w)
def ref5_D_Used_main (R : VCont) (a0 : Value) (w : World) : Prop :=
  Lp (fun X s w => ref5_D_Used_l1 R X a0 (s.getD 0 undef) (s.getD 1 undef) w) [(Value.int IntKind.i64 0), (Value.int IntKind.i64 0)] w
def ref5_D_Used_es (R : VCont) : List Ent := [
  .join fun Xs e w => ref5_D_Used_j0 R (e 3) w,
  .loop [0] [3, 4] fun Xs fx X s w => ref5_D_Used_l1 R X (fx.getD 0 undef) (s.getD 0 undef) (s.getD 1 undef) w]
theorem ref5_D_Used_ok {R : VCont} {a0 : Value} {w : World} (h : ref5_D_Used_main R a0 w) : Calls P nr.ref5_D_Used [a0].toArray w (Ret R) :=
  calls_of_sx (P := P) (fn := Try.f52) (Os := (fun _ => .no)) (Es := (ref5_D_Used_es R)) (args := [a0]) mixed (by kernel_rfl) (by kernel_rfl) (by kernel_rfl) (by kernel_rfl) (by kernel_rfl) (by kernel_rfl) (by kernel_rfl)
    (Eq.mp (show ref5_D_Used_main R a0 w = sxh P (fun _ => .no) (ref5_D_Used_es R) [] 0 (bodyOf Try.f52) (retQ P Try.f52.results.toList R) (envOf [a0]) w by kernel_rfl) h)
theorem ref5_D_Used_call {R : VCont} {a0 : Value} {w : World} (h : ref5_D_Used_main R a0 w) : xCall P nr.ref5_D_Used [a0] w R :=
  xCall_of (P := P) (fn := Try.f52) (by kernel_rfl) (by kernel_rfl) (by kernel_rfl) (ref5_D_Used_ok h)

/-! (*sojourn/sojournref5.D).at: function 53 -/
def ref5_D_at_j0 (R : VCont) (v0 v1 v6 : Value) (w : World) : Prop :=
  Sx.dr w fun w =>
  xNil v0 w fun t1 _ =>
  xOff (some 1) t1 w fun t2 _ =>
  xLoad1 t2 w fun t3 w' =>
  w' = w ∧
  xLen P .pure #[41] t3 w fun t4 _ =>
  xBin P .lss 3 v6 t4 w fun t5 _ =>
  xWhen t5 true (fun K => K v0 w) w fun t6 _ =>
  xWhen t5 true (fun K => xNil t6 w K) w fun t7 _ =>
  xWhen t5 true (fun K => xOff (some 1) t7 w K) w fun t8 _ =>
  xWhen t5 true (fun K => xLoad1 t8 w K) w fun t9 w' =>
  w' = w ∧
  xWhen t5 true (fun K => K v6 w) w fun t10 _ =>
  xWhen t5 true (fun K => xIndexAddr P 41 t9 t10 w K) w fun t11 _ =>
  xWhen t5 true (fun K => xOff (some 0) t11 w K) w fun t12 _ =>
  xWhen t5 true (fun K => xLoad1 t12 w K) w fun t13 w' =>
  w' = w ∧
  xWhen t5 true (fun K => K v1 w) w fun t14 _ =>
  xWhen t5 true (fun K => xEq P .eql 9 false false t13 t14 w K) w fun t15 _ =>
  xPick t5 t15 (Value.bool false) w fun t16 _ =>
  R (Value.tuple #[v6, t16]) w
def ref5_D_at_l1 (R : VCont) (X0 : LX) (v0 v1 v6 : Value) (w : World) : Prop :=
  xNil v0 w fun t34 w =>
  xOff (some 1) t34 w fun t35 w =>
  xLoad1 t35 w fun t36 w =>
  xLen P .pure #[41] t36 w fun t37 w =>
  xBin P .lss 3 v6 t37 w fun t38 w =>
  xWhen t38 true (fun K => K v0 w) w fun t39 w =>
  xWhen t38 true (fun K => xNil t39 w K) w fun t40 w =>
  xWhen t38 true (fun K => xOff (some 1) t40 w K) w fun t41 w =>
  xWhen t38 true (fun K => xLoad1 t41 w K) w fun t42 w =>
  xWhen t38 true (fun K => K v6 w) w fun t43 w =>
  xWhen t38 true (fun K => xIndexAddr P 41 t42 t43 w K) w fun t44 w =>
  xWhen t38 true (fun K => xOff (some 0) t44 w K) w fun t45 w =>
  xWhen t38 true (fun K => xLoad1 t45 w K) w fun t46 w =>
  xWhen t38 true (fun K => K v1 w) w fun t47 w =>
  xWhen t38 true (fun K => xBin P .lss 9 t46 t47 w K) w fun t48 w =>
  xPick t38 t48 (Value.bool false) w fun t49 w =>
  xIf t49
  (xBin P .add 3 v6 (Value.int IntKind.i64 1) w fun t50 w =>
  X0 [t50] w)
  (ref5_D_at_j0 R v0 v1 v6 w)
def ref5_D_at_main (R : VCont) (a0 a1 : Value) (w : World) : Prop :=
  Lp (fun X s w => ref5_D_at_l1 R X a0 a1 (s.getD 0 undef) w) [(Value.int IntKind.i64 0)] w
def ref5_D_at_os (i : Nat) : OT := cond (Nat.beq i 4) (.fl 0 (.fl 1 (.fl 2 (.fl 3 (.fl 4 (.fl 5 (.fl 6 (.fl 7 (.fl 8 (.fl 9 (.fl 10 (.fl 11 (.fl 12 (.fl 13 (.fl 14 (.fl 15 (.fl 16 (.fl 17 (.fl 18 (.fl 19 (.fl 20 (.fl 21 .done)))))))))))))))))))))) (.no)
def ref5_D_at_es (R : VCont) : List Ent := [
  .join fun Xs e w => ref5_D_at_j0 R (e 0) (e 1) (e 6) w,
  .loop [0, 1] [6] fun Xs fx X s w => ref5_D_at_l1 R X (fx.getD 0 undef) (fx.getD 1 undef) (s.getD 0 undef) w]
theorem ref5_D_at_ok {R : VCont} {a0 a1 : Value} {w : World} (h : ref5_D_at_main R a0 a1 w) : Calls P nr.ref5_D_at [a0, a1].toArray w (Ret R) :=
  calls_of_sx (P := P) (fn := Try.f53) (Os := ref5_D_at_os) (Es := (ref5_D_at_es R)) (args := [a0, a1]) mixed (by kernel_rfl) (by kernel_rfl) (by kernel_rfl) (by kernel_rfl) (by kernel_rfl) (by kernel_rfl) (by kernel_rfl)
    (Eq.mp (show ref5_D_at_main R a0 a1 w = sxh P ref5_D_at_os (ref5_D_at_es R) [] 0 (bodyOf Try.f53) (retQ P Try.f53.results.toList R) (envOf [a0, a1]) w by kernel_rfl) h)
theorem ref5_D_at_call {R : VCont} {a0 a1 : Value} {w : World} (h : ref5_D_at_main R a0 a1 w) : xCall P nr.ref5_D_at [a0, a1] w R :=
  xCall_of (P := P) (fn := Try.f53) (by kernel_rfl) (by kernel_rfl) (by kernel_rfl) (ref5_D_at_ok h)

/-! sojourn/sojournref5.good: function 51 -/
def ref5_good_main (R : VCont) (a0 : Value) (w : World) : Prop :=
  xLen P .pure #[9] a0 w fun t1 w =>
  xBin P .geq 3 t1 (Value.int IntKind.i64 1) w fun t2 w =>
  xWhen t2 true (fun K => K a0 w) w fun t3 w =>
  xWhen t2 true (fun K => xLen P .pure #[9] t3 w K) w fun t4 w =>
  xWhen t2 true (fun K => xBin P .leq 3 t4 (Value.int IntKind.i64 20) w K) w fun t5 w =>
  xPick t2 t5 (Value.bool false) w fun t6 w =>
  R t6 w
theorem ref5_good_ok {R : VCont} {a0 : Value} {w : World} (h : ref5_good_main R a0 w) : Calls P nr.ref5_good [a0].toArray w (Ret R) :=
  calls_of_sx (P := P) (fn := Try.f51) (Os := (fun _ => .no)) (Es := []) (args := [a0]) mixed (by kernel_rfl) (by kernel_rfl) (by kernel_rfl) (by kernel_rfl) (by kernel_rfl) (by kernel_rfl) (by kernel_rfl)
    (Eq.mp (show ref5_good_main R a0 w = sxh P (fun _ => .no) [] [] 0 (bodyOf Try.f51) (retQ P Try.f51.results.toList R) (envOf [a0]) w by kernel_rfl) h)
theorem ref5_good_call {R : VCont} {a0 : Value} {w : World} (h : ref5_good_main R a0 w) : xCall P nr.ref5_good [a0] w R :=
  xCall_of (P := P) (fn := Try.f51) (by kernel_rfl) (by kernel_rfl) (by kernel_rfl) (ref5_good_ok h)

end Go.Proofs.Ytamejkogghpbhaa
