import Derived.Test.YtamejkogghpbhaaMg10
import Derived.Test.YtamejkogghpbhaaMg17
import Derived.Test.YtamejkogghpbhaaMg9
section
/- Printed by wip/gen/gen.py: the shallow texts of some functions. -/
set_option linter.unusedVariables false
namespace Go.Proofs.Ytamejkogghpbhaa
open Go.Sx

/-! (*sojourn/sojournref5.D).Append: function 21 -/
def ref5_D_Append_j0 (R : VCont) (v0 v2 v7 : Value) (w : World) : Prop :=
  Sx.dr w fun w =>
  xNil v0 w fun t14 _ =>
  xOff (some 1) t14 w fun t15 _ =>
  xLoad1 t15 w fun t16 w' =>
  w' = w ∧
  xNil v0 w fun t17 _ =>
  xOff (some 1) t17 w fun t18 _ =>
  xLoad1 t18 w fun t19 w' =>
  w' = w ∧
  xIndexAddr P 41 t19 v7 w fun t20 _ =>
  xOff (some 1) t20 w fun t21 _ =>
  xLoad1 t21 w fun t22 w' =>
  w' = w ∧
  xBin P .add 9 t22 v2 w fun t23 _ =>
  xIndexAddr P 41 t16 v7 w fun t24 _ =>
  xOff (some 1) t24 w fun t25 _ =>
  xStore P 9 t25 t23 w fun _ w =>
  R (Value.int IntKind.i64 0) w
def ref5_D_Append_main (R : VCont) (a0 a1 a2 : Value) (w : World) : Prop :=
  xCall P nr.ref5_good [a1] w fun t1 w =>
  xUn P .not t1 w fun t2 w =>
  xIf t2
  (R (Value.int IntKind.i64 1) w)
  (Sx.dr w fun w =>
  xLen P .pure #[9] a2 w fun t3 _ =>
  xNil a0 w fun t4 _ =>
  xOff (some 0) t4 w fun t5 _ =>
  xLoad1 t5 w fun t6 w' =>
  w' = w ∧
  xCall P nr.ref5_D_Used [a0] w fun t7 w =>
  (xLoad1 t5 w fun t8 w' =>
  w' = w ∧ t8 = t6) ∧
  xBin P .sub 3 t6 t7 w fun t9 _ =>
  xBin P .gtr 3 t3 t9 w fun t10 _ =>
  xIf t10
  (R (Value.int IntKind.i64 4) w)
  (xCall P nr.ref5_D_at [a0, a1] w fun t11 w =>
  xExtract t11 0 w fun t12 w =>
  xExtract t11 1 w fun t13 w =>
  xUn P .not t13 w fun t26 w =>
  xIf t26
  (Sx.dr w fun w =>
  xNil a0 w fun t27 _ =>
  xOff (some 1) t27 w fun t28 _ =>
  xLoad1 t28 w fun t29 w' =>
  w' = w ∧
  xSlice P 41 t29 none (some t12) none w fun t30 _ =>
  xBuild P 76 [(0, a1)] w fun t31 _ =>
  xNil a0 w fun t32 _ =>
  xOff (some 1) t32 w fun t33 _ =>
  xLoad1 t33 w fun t34 w' =>
  w' = w ∧
  xSlice P 41 t34 (some t12) none none w fun t35 _ =>
  (xBuildSlice P 41 0 [] w fun t36 w =>
  (xLoad1 t33 w fun t37 w' =>
  w' = w ∧ t37 = t34) ∧
  (xLoad1 t28 w fun t38 w' =>
  w' = w ∧ t38 = t29) ∧
  (xBuiltin P .append #[41, 41] 41 [false, false] [t36, t30] w fun t39 w =>
  (xLoad1 t33 w fun t40 w' =>
  w' = w ∧ t40 = t34) ∧
  xBuildSlice P 41 1 [(0, t31)] w fun t41 w =>
  (xLoad1 t33 w fun t42 w' =>
  w' = w ∧ t42 = t34) ∧
  xBuiltin P .append #[41, 41] 41 [false, false] [t39, t41] w fun t43 w =>
  (xLoad1 t33 w fun t44 w' =>
  w' = w ∧ t44 = t34) ∧
  xBuiltin P .append #[41, 41] 41 [false, false] [t43, t35] w fun t45 w =>
  xNil a0 w fun t46 _ =>
  xOff (some 1) t46 w fun t47 _ =>
  xStore P 41 t47 t45 w fun _ w =>
  ref5_D_Append_j0 R a0 a2 t12 w) ∧
  (xBuildSlice P 41 1 [(0, t31)] w fun t48 w =>
  (xLoad1 t33 w fun t49 w' =>
  w' = w ∧ t49 = t34) ∧
  (xLoad1 t28 w fun t50 w' =>
  w' = w ∧ t50 = t29) ∧
  xBuiltin P .append #[41, 41] 41 [false, false] [t36, t30] w fun t51 w =>
  (xLoad1 t33 w fun t52 w' =>
  w' = w ∧ t52 = t34) ∧
  xBuiltin P .append #[41, 41] 41 [false, false] [t51, t48] w fun t53 w =>
  (xLoad1 t33 w fun t54 w' =>
  w' = w ∧ t54 = t34) ∧
  xBuiltin P .append #[41, 41] 41 [false, false] [t53, t35] w fun t55 w =>
  xNil a0 w fun t56 _ =>
  xOff (some 1) t56 w fun t57 _ =>
  xStore P 41 t57 t55 w fun _ w =>
  ref5_D_Append_j0 R a0 a2 t12 w)) ∧
  (xBuildSlice P 41 1 [(0, t31)] w fun t58 w =>
  (xLoad1 t33 w fun t59 w' =>
  w' = w ∧ t59 = t34) ∧
  (xLoad1 t28 w fun t60 w' =>
  w' = w ∧ t60 = t29) ∧
  xBuildSlice P 41 0 [] w fun t61 w =>
  (xLoad1 t33 w fun t62 w' =>
  w' = w ∧ t62 = t34) ∧
  (xLoad1 t28 w fun t63 w' =>
  w' = w ∧ t63 = t29) ∧
  xBuiltin P .append #[41, 41] 41 [false, false] [t61, t30] w fun t64 w =>
  (xLoad1 t33 w fun t65 w' =>
  w' = w ∧ t65 = t34) ∧
  xBuiltin P .append #[41, 41] 41 [false, false] [t64, t58] w fun t66 w =>
  (xLoad1 t33 w fun t67 w' =>
  w' = w ∧ t67 = t34) ∧
  xBuiltin P .append #[41, 41] 41 [false, false] [t66, t35] w fun t68 w =>
  xNil a0 w fun t69 _ =>
  xOff (some 1) t69 w fun t70 _ =>
  xStore P 41 t70 t68 w fun _ w =>
  ref5_D_Append_j0 R a0 a2 t12 w))
  (ref5_D_Append_j0 R a0 a2 t12 w)))
def ref5_D_Append_os (i : Nat) : OT := cond (Nat.beq i 3) (.fl 0 (.fl 1 (.fl 2 (.fl 3 (.fl 4 (.fl 5 (.fl 6 (.an 7 (.fl 8 (.fl 9 .done)) .no)))))))) (cond (Nat.beq i 7) (.fl 0 (.fl 2 (.fl 3 (.fl 4 (.fl 5 (.fl 6 (.fl 7 (.fl 9 (.fl 10 (.fl 13 (.fl 14 (.fl 15 (.fl 16 (.fl 17 (.fl 18 (.an 1 (.an 8 (.an 11 (.an 12 (.an 19 (.fl 20 (.fl 21 (.an 22 .done .no))) .no) .no) .no) (.an 11 (.an 8 (.an 12 (.an 19 (.fl 20 (.fl 21 (.an 22 .done .no))) .no) .no) .no) .no)) (.an 11 (.an 1 (.an 8 (.an 12 (.an 19 (.fl 20 (.fl 21 (.an 22 .done .no))) .no) .no) .no) .no) .no))))))))))))))))) (cond (Nat.beq i 8) (.fl 0 (.fl 1 (.fl 2 (.fl 3 (.fl 4 (.fl 5 (.fl 6 (.fl 7 (.fl 8 (.fl 9 (.fl 10 (.fl 11 (.fl 12 (.fl 13 (.fl 14 (.fl 15 (.fl 16 (.an 17 .done .no)))))))))))))))))) (.no)))
def ref5_D_Append_es (R : VCont) : List Ent := [
  .join fun Xs e w => ref5_D_Append_j0 R (e 0) (e 2) (e 7) w]
theorem ref5_D_Append_ok {R : VCont} {a0 a1 a2 : Value} {w : World} (h : ref5_D_Append_main R a0 a1 a2 w) : Calls P nr.ref5_D_Append [a0, a1, a2].toArray w (Ret R) :=
  calls_of_sx (P := P) (fn := Try.f21) (Os := ref5_D_Append_os) (Es := (ref5_D_Append_es R)) (args := [a0, a1, a2]) mixed (by kernel_rfl) (by kernel_rfl) (by kernel_rfl) (by kernel_rfl) (by kernel_rfl) (by kernel_rfl) (by kernel_rfl)
    (Eq.mp (show ref5_D_Append_main R a0 a1 a2 w = sxh P ref5_D_Append_os (ref5_D_Append_es R) [] 0 (bodyOf Try.f21) (retQ P Try.f21.results.toList R) (envOf [a0, a1, a2]) w by kernel_rfl) h)
theorem ref5_D_Append_call {R : VCont} {a0 a1 a2 : Value} {w : World} (h : ref5_D_Append_main R a0 a1 a2 w) : xCall P nr.ref5_D_Append [a0, a1, a2] w R :=
  xCall_of (P := P) (fn := Try.f21) (by kernel_rfl) (by kernel_rfl) (by kernel_rfl) (ref5_D_Append_ok h)

/-! (*sojourn/sojournref5.D).Sync: function 22 -/
def ref5_D_Sync_main (R : VCont) (a0 a1 : Value) (w : World) : Prop :=
  xCall P nr.ref5_D_at [a0, a1] w fun t1 w =>
  xExtract t1 0 w fun t2 w =>
  xExtract t1 1 w fun t3 w =>
  xUn P .not t3 w fun t4 w =>
  xIf t4
  (R (Value.int IntKind.i64 5) w)
  (Sx.dr w fun w =>
  xNil a0 w fun t5 _ =>
  xOff (some 1) t5 w fun t6 _ =>
  xLoad1 t6 w fun t7 w' =>
  w' = w ∧
  xNil a0 w fun t8 _ =>
  xOff (some 1) t8 w fun t9 _ =>
  xLoad1 t9 w fun t10 w' =>
  w' = w ∧
  xIndexAddr P 41 t10 t2 w fun t11 _ =>
  xOff (some 1) t11 w fun t12 _ =>
  xLoad1 t12 w fun t13 w' =>
  w' = w ∧
  xLen P .pure #[9] t13 w fun t14 _ =>
  xIndexAddr P 41 t7 t2 w fun t15 _ =>
  xOff (some 2) t15 w fun t16 _ =>
  xStore P 3 t16 t14 w fun _ w =>
  R (Value.int IntKind.i64 0) w)
def ref5_D_Sync_os (i : Nat) : OT := cond (Nat.beq i 4) (.fl 0 (.fl 1 (.fl 2 (.fl 3 (.fl 4 (.fl 5 (.fl 6 (.fl 7 (.fl 8 (.fl 9 (.fl 10 (.fl 11 (.fl 12 (.fl 13 (.fl 14 (.fl 15 (.an 16 .done .no))))))))))))))))) (.no)
theorem ref5_D_Sync_ok {R : VCont} {a0 a1 : Value} {w : World} (h : ref5_D_Sync_main R a0 a1 w) : Calls P nr.ref5_D_Sync [a0, a1].toArray w (Ret R) :=
  calls_of_sx (P := P) (fn := Try.f22) (Os := ref5_D_Sync_os) (Es := []) (args := [a0, a1]) mixed (by kernel_rfl) (by kernel_rfl) (by kernel_rfl) (by kernel_rfl) (by kernel_rfl) (by kernel_rfl) (by kernel_rfl)
    (Eq.mp (show ref5_D_Sync_main R a0 a1 w = sxh P ref5_D_Sync_os [] [] 0 (bodyOf Try.f22) (retQ P Try.f22.results.toList R) (envOf [a0, a1]) w by kernel_rfl) h)
theorem ref5_D_Sync_call {R : VCont} {a0 a1 : Value} {w : World} (h : ref5_D_Sync_main R a0 a1 w) : xCall P nr.ref5_D_Sync [a0, a1] w R :=
  xCall_of (P := P) (fn := Try.f22) (by kernel_rfl) (by kernel_rfl) (by kernel_rfl) (ref5_D_Sync_ok h)

/-! (*sojourn/sojournref5.D).Cut: function 24 -/
def ref5_D_Cut_main (R : VCont) (a0 a1 a2 : Value) (w : World) : Prop :=
  xCall P nr.ref5_D_at [a0, a1] w fun t1 w =>
  xExtract t1 0 w fun t2 w =>
  xExtract t1 1 w fun t3 w =>
  xUn P .not t3 w fun t4 w =>
  xIf t4
  (R (Value.int IntKind.i64 5) w)
  (xBin P .lss 3 a2 (Value.int IntKind.i64 0) w fun t5 w =>
  xWhen t5 false (fun K => K a2 w) w fun t6 w =>
  xWhen t5 false (fun K => K a0 w) w fun t7 w =>
  xWhen t5 false (fun K => xNil t7 w K) w fun t8 w =>
  xWhen t5 false (fun K => xOff (some 1) t8 w K) w fun t9 w =>
  xWhen t5 false (fun K => xLoad1 t9 w K) w fun t10 w =>
  xWhen t5 false (fun K => K t2 w) w fun t11 w =>
  xWhen t5 false (fun K => xIndexAddr P 41 t10 t11 w K) w fun t12 w =>
  xWhen t5 false (fun K => xOff (some 1) t12 w K) w fun t13 w =>
  xWhen t5 false (fun K => xLoad1 t13 w K) w fun t14 w =>
  xWhen t5 false (fun K => xLen P .pure #[9] t14 w K) w fun t15 w =>
  xWhen t5 false (fun K => xBin P .gtr 3 t6 t15 w K) w fun t16 w =>
  xPick t5 (Value.bool true) t16 w fun t17 w =>
  xIf t17
  (R (Value.int IntKind.i64 3) w)
  (Sx.dr w fun w =>
  xNil a0 w fun t18 _ =>
  xOff (some 1) t18 w fun t19 _ =>
  xLoad1 t19 w fun t20 w' =>
  w' = w ∧
  xNil a0 w fun t21 _ =>
  xOff (some 1) t21 w fun t22 _ =>
  xLoad1 t22 w fun t23 w' =>
  w' = w ∧
  xNil a0 w fun t24 _ =>
  xOff (some 1) t24 w fun t25 _ =>
  xLoad1 t25 w fun t26 w' =>
  w' = w ∧
  xIndexAddr P 41 t26 t2 w fun t27 _ =>
  xOff (some 1) t27 w fun t28 _ =>
  xLoad1 t28 w fun t29 w' =>
  w' = w ∧
  xSlice P 9 t29 none (some a2) none w fun t30 _ =>
  xIndexAddr P 41 t20 t2 w fun t31 _ =>
  xOff (some 1) t31 w fun t32 _ =>
  xStore P 9 t32 t30 w fun _ w =>
  xIndexAddr P 41 t23 t2 w fun t33 _ =>
  xOff (some 2) t33 w fun t34 _ =>
  xStore P 3 t34 a2 w fun _ w =>
  R (Value.int IntKind.i64 0) w))
def ref5_D_Cut_os (i : Nat) : OT := cond (Nat.beq i 6) (.fl 0 (.fl 1 (.fl 2 (.fl 3 (.fl 4 (.fl 5 (.fl 6 (.fl 7 (.fl 8 (.fl 9 (.fl 10 (.fl 11 (.fl 12 (.fl 13 (.fl 14 (.fl 15 (.fl 16 (.fl 17 (.fl 18 (.fl 19 (.fl 20 (.fl 21 (.fl 22 (.an 23 (.fl 24 (.fl 25 (.an 26 .done .no))) .no)))))))))))))))))))))))) (.no)
theorem ref5_D_Cut_ok {R : VCont} {a0 a1 a2 : Value} {w : World} (h : ref5_D_Cut_main R a0 a1 a2 w) : Calls P nr.ref5_D_Cut [a0, a1, a2].toArray w (Ret R) :=
  calls_of_sx (P := P) (fn := Try.f24) (Os := ref5_D_Cut_os) (Es := []) (args := [a0, a1, a2]) mixed (by kernel_rfl) (by kernel_rfl) (by kernel_rfl) (by kernel_rfl) (by kernel_rfl) (by kernel_rfl) (by kernel_rfl)
    (Eq.mp (show ref5_D_Cut_main R a0 a1 a2 w = sxh P ref5_D_Cut_os [] [] 0 (bodyOf Try.f24) (retQ P Try.f24.results.toList R) (envOf [a0, a1, a2]) w by kernel_rfl) h)
theorem ref5_D_Cut_call {R : VCont} {a0 a1 a2 : Value} {w : World} (h : ref5_D_Cut_main R a0 a1 a2 w) : xCall P nr.ref5_D_Cut [a0, a1, a2] w R :=
  xCall_of (P := P) (fn := Try.f24) (by kernel_rfl) (by kernel_rfl) (by kernel_rfl) (ref5_D_Cut_ok h)

/-! (*sojourn/sojournref5.D).Rename: function 25 -/
def ref5_D_Rename_j0 (R : VCont) (w : World) : Prop :=
  R (Value.int IntKind.i64 0) w
def ref5_D_Rename_main (R : VCont) (a0 a1 a2 : Value) (w : World) : Prop :=
  xCall P nr.ref5_D_at [a0, a1] w fun t1 w =>
  xExtract t1 0 w fun t2 w =>
  xExtract t1 1 w fun t3 w =>
  xUn P .not t3 w fun t4 w =>
  xIf t4
  (R (Value.int IntKind.i64 5) w)
  (xCall P nr.ref5_good [a2] w fun t5 w =>
  xUn P .not t5 w fun t6 w =>
  xIf t6
  (R (Value.int IntKind.i64 1) w)
  (xEq P .eql 9 false false a1 a2 w fun t7 w =>
  xIf t7
  (R (Value.int IntKind.i64 0) w)
  (xNil a0 w fun t8 w =>
  xOff (some 1) t8 w fun t9 w =>
  xLoad1 t9 w fun t10 w =>
  xIndexAddr P 41 t10 t2 w fun t11 w =>
  xLoadN 3 t11 w fun t12 w =>
  xAlloc P 76 w fun t13 w =>
  xStore P 76 t13 t12 w fun _ w =>
  xCall P nr.ref5_D_Remove [a0, a1] w fun t14 w =>
  xCall P nr.ref5_D_Remove [a0, a2] w fun t15 w =>
  xOff (some 0) t13 w fun t16 w =>
  xStore P 9 t16 a2 w fun _ w =>
  xCall P nr.ref5_D_at [a0, a2] w fun t17 w =>
  xExtract t17 0 w fun t18 w =>
  xExtract t17 1 w fun t19 w =>
  Sx.dr w fun w =>
  xNil a0 w fun t20 _ =>
  xOff (some 1) t20 w fun t21 _ =>
  xLoad1 t21 w fun t22 w' =>
  w' = w ∧
  xSlice P 41 t22 none (some t18) none w fun t23 _ =>
  xLoadN 3 t13 w fun t24 w' =>
  w' = w ∧
  xNil a0 w fun t25 _ =>
  xOff (some 1) t25 w fun t26 _ =>
  xLoad1 t26 w fun t27 w' =>
  w' = w ∧
  xSlice P 41 t27 (some t18) none none w fun t28 _ =>
  (xBuildSlice P 41 0 [] w fun t29 w =>
  (xLoad1 t26 w fun t30 w' =>
  w' = w ∧ t30 = t27) ∧
  (xLoadN 3 t13 w fun t31 w' =>
  w' = w ∧ t31 = t24) ∧
  (xLoad1 t21 w fun t32 w' =>
  w' = w ∧ t32 = t22) ∧
  (xBuiltin P .append #[41, 41] 41 [false, false] [t29, t23] w fun t33 w =>
  (xLoad1 t26 w fun t34 w' =>
  w' = w ∧ t34 = t27) ∧
  (xLoadN 3 t13 w fun t35 w' =>
  w' = w ∧ t35 = t24) ∧
  xBuildSlice P 41 1 [(0, t24)] w fun t36 w =>
  (xLoad1 t26 w fun t37 w' =>
  w' = w ∧ t37 = t27) ∧
  xBuiltin P .append #[41, 41] 41 [false, false] [t33, t36] w fun t38 w =>
  (xLoad1 t26 w fun t39 w' =>
  w' = w ∧ t39 = t27) ∧
  xBuiltin P .append #[41, 41] 41 [false, false] [t38, t28] w fun t40 w =>
  xNil a0 w fun t41 _ =>
  xOff (some 1) t41 w fun t42 _ =>
  xStore P 41 t42 t40 w fun _ w =>
  ref5_D_Rename_j0 R w) ∧
  (xBuildSlice P 41 1 [(0, t24)] w fun t43 w =>
  (xLoad1 t26 w fun t44 w' =>
  w' = w ∧ t44 = t27) ∧
  (xLoad1 t21 w fun t45 w' =>
  w' = w ∧ t45 = t22) ∧
  xBuiltin P .append #[41, 41] 41 [false, false] [t29, t23] w fun t46 w =>
  (xLoad1 t26 w fun t47 w' =>
  w' = w ∧ t47 = t27) ∧
  xBuiltin P .append #[41, 41] 41 [false, false] [t46, t43] w fun t48 w =>
  (xLoad1 t26 w fun t49 w' =>
  w' = w ∧ t49 = t27) ∧
  xBuiltin P .append #[41, 41] 41 [false, false] [t48, t28] w fun t50 w =>
  xNil a0 w fun t51 _ =>
  xOff (some 1) t51 w fun t52 _ =>
  xStore P 41 t52 t50 w fun _ w =>
  ref5_D_Rename_j0 R w)) ∧
  (xBuildSlice P 41 1 [(0, t24)] w fun t53 w =>
  (xLoad1 t26 w fun t54 w' =>
  w' = w ∧ t54 = t27) ∧
  (xLoad1 t21 w fun t55 w' =>
  w' = w ∧ t55 = t22) ∧
  xBuildSlice P 41 0 [] w fun t56 w =>
  (xLoad1 t26 w fun t57 w' =>
  w' = w ∧ t57 = t27) ∧
  (xLoad1 t21 w fun t58 w' =>
  w' = w ∧ t58 = t22) ∧
  xBuiltin P .append #[41, 41] 41 [false, false] [t56, t23] w fun t59 w =>
  (xLoad1 t26 w fun t60 w' =>
  w' = w ∧ t60 = t27) ∧
  xBuiltin P .append #[41, 41] 41 [false, false] [t59, t53] w fun t61 w =>
  (xLoad1 t26 w fun t62 w' =>
  w' = w ∧ t62 = t27) ∧
  xBuiltin P .append #[41, 41] 41 [false, false] [t61, t28] w fun t63 w =>
  xNil a0 w fun t64 _ =>
  xOff (some 1) t64 w fun t65 _ =>
  xStore P 41 t65 t63 w fun _ w =>
  ref5_D_Rename_j0 R w))))
def ref5_D_Rename_os (i : Nat) : OT := cond (Nat.beq i 13) (.fl 0 (.fl 2 (.fl 3 (.fl 4 (.fl 5 (.fl 6 (.fl 7 (.fl 9 (.fl 12 (.fl 13 (.fl 14 (.fl 15 (.fl 16 (.fl 17 (.an 1 (.an 8 (.an 10 (.an 11 (.an 18 (.fl 19 (.fl 20 (.an 21 .done .no))) .no) .no) .no) (.an 10 (.an 8 (.an 11 (.an 18 (.fl 19 (.fl 20 (.an 21 .done .no))) .no) .no) .no) .no)) (.an 10 (.an 1 (.an 8 (.an 11 (.an 18 (.fl 19 (.fl 20 (.an 21 .done .no))) .no) .no) .no) .no) .no)))))))))))))))) (.no)
def ref5_D_Rename_es (R : VCont) : List Ent := [
  .join fun Xs e w => ref5_D_Rename_j0 R  w]
theorem ref5_D_Rename_ok {R : VCont} {a0 a1 a2 : Value} {w : World} (h : ref5_D_Rename_main R a0 a1 a2 w) : Calls P nr.ref5_D_Rename [a0, a1, a2].toArray w (Ret R) :=
  calls_of_sx (P := P) (fn := Try.f25) (Os := ref5_D_Rename_os) (Es := (ref5_D_Rename_es R)) (args := [a0, a1, a2]) mixed (by kernel_rfl) (by kernel_rfl) (by kernel_rfl) (by kernel_rfl) (by kernel_rfl) (by kernel_rfl) (by kernel_rfl)
    (Eq.mp (show ref5_D_Rename_main R a0 a1 a2 w = sxh P ref5_D_Rename_os (ref5_D_Rename_es R) [] 0 (bodyOf Try.f25) (retQ P Try.f25.results.toList R) (envOf [a0, a1, a2]) w by kernel_rfl) h)
theorem ref5_D_Rename_call {R : VCont} {a0 a1 a2 : Value} {w : World} (h : ref5_D_Rename_main R a0 a1 a2 w) : xCall P nr.ref5_D_Rename [a0, a1, a2] w R :=
  xCall_of (P := P) (fn := Try.f25) (by kernel_rfl) (by kernel_rfl) (by kernel_rfl) (ref5_D_Rename_ok h)

/-! (*sojourn/sojournref5.D).Remove: function 27 -/
def ref5_D_Remove_j0 (R : VCont) (w : World) : Prop :=
  R (Value.int IntKind.i64 0) w
def ref5_D_Remove_main (R : VCont) (a0 a1 : Value) (w : World) : Prop :=
  xCall P nr.ref5_D_at [a0, a1] w fun t1 w =>
  xExtract t1 0 w fun t2 w =>
  xExtract t1 1 w fun t3 w =>
  xUn P .not t3 w fun t4 w =>
  xIf t4
  (R (Value.int IntKind.i64 5) w)
  (Sx.dr w fun w =>
  xNil a0 w fun t5 _ =>
  xOff (some 1) t5 w fun t6 _ =>
  xLoad1 t6 w fun t7 w' =>
  w' = w ∧
  xSlice P 41 t7 none (some t2) none w fun t8 _ =>
  xNil a0 w fun t9 _ =>
  xOff (some 1) t9 w fun t10 _ =>
  xLoad1 t10 w fun t11 w' =>
  w' = w ∧
  xBin P .add 3 t2 (Value.int IntKind.i64 1) w fun t12 _ =>
  xSlice P 41 t11 (some t12) none none w fun t13 _ =>
  xBuildSlice P 41 0 [] w fun t14 w =>
  (xLoad1 t10 w fun t15 w' =>
  w' = w ∧ t15 = t11) ∧
  (xLoad1 t6 w fun t16 w' =>
  w' = w ∧ t16 = t7) ∧
  xBuiltin P .append #[41, 41] 41 [false, false] [t14, t8] w fun t17 w =>
  (xLoad1 t10 w fun t18 w' =>
  w' = w ∧ t18 = t11) ∧
  xBuiltin P .append #[41, 41] 41 [false, false] [t17, t13] w fun t19 w =>
  xNil a0 w fun t20 _ =>
  xOff (some 1) t20 w fun t21 _ =>
  xStore P 41 t21 t19 w fun _ w =>
  ref5_D_Remove_j0 R w)
def ref5_D_Remove_os (i : Nat) : OT := cond (Nat.beq i 4) (.fl 0 (.fl 2 (.fl 3 (.fl 4 (.fl 5 (.fl 6 (.fl 7 (.fl 9 (.fl 10 (.fl 11 (.fl 12 (.fl 13 (.fl 14 (.fl 15 (.an 1 (.an 8 (.an 16 (.fl 17 (.fl 18 (.an 19 .done .no))) .no) .no) .no))))))))))))))) (.no)
def ref5_D_Remove_es (R : VCont) : List Ent := [
  .join fun Xs e w => ref5_D_Remove_j0 R  w]
theorem ref5_D_Remove_ok {R : VCont} {a0 a1 : Value} {w : World} (h : ref5_D_Remove_main R a0 a1 w) : Calls P nr.ref5_D_Remove [a0, a1].toArray w (Ret R) :=
  calls_of_sx (P := P) (fn := Try.f27) (Os := ref5_D_Remove_os) (Es := (ref5_D_Remove_es R)) (args := [a0, a1]) mixed (by kernel_rfl) (by kernel_rfl) (by kernel_rfl) (by kernel_rfl) (by kernel_rfl) (by kernel_rfl) (by kernel_rfl)
    (Eq.mp (show ref5_D_Remove_main R a0 a1 w = sxh P ref5_D_Remove_os (ref5_D_Remove_es R) [] 0 (bodyOf Try.f27) (retQ P Try.f27.results.toList R) (envOf [a0, a1]) w by kernel_rfl) h)
theorem ref5_D_Remove_call {R : VCont} {a0 a1 : Value} {w : World} (h : ref5_D_Remove_main R a0 a1 w) : xCall P nr.ref5_D_Remove [a0, a1] w R :=
  xCall_of (P := P) (fn := Try.f27) (by kernel_rfl) (by kernel_rfl) (by kernel_rfl) (ref5_D_Remove_ok h)

/-! (*sojourn/sojournref5.D).Crash: function 28 -/
def ref5_D_Crash_j0 (R : VCont) (v0 v4 : Value) (w : World) : Prop :=
  xNil v0 w fun t6 w =>
  xOff (some 1) t6 w fun t7 w =>
  xStore P 41 t7 v4 w fun _ w =>
  R (Value.tuple #[]) w
def ref5_D_Crash_j2 (R : VCont) (X0 : LX) (v4 v5 v6 : Value) (w : World) : Prop :=
  Sx.dr w fun w =>
  xIndexAddr P 41 v4 v5 w fun t47 _ =>
  xOff (some 1) t47 w fun t48 _ =>
  xLoad1 t48 w fun t49 w' =>
  w' = w ∧
  xIndexAddr P 41 v4 v5 w fun t50 _ =>
  xOff (some 2) t50 w fun t51 _ =>
  xLoad1 t51 w fun t52 w' =>
  w' = w ∧
  xBin P .add 3 t52 v6 w fun t53 _ =>
  xSlice P 9 t49 none (some t53) none w fun t54 _ =>
  xIndexAddr P 41 v4 v5 w fun t55 _ =>
  xOff (some 1) t55 w fun t56 _ =>
  xStore P 9 t56 t54 w fun _ w =>
  xIndexAddr P 41 v4 v5 w fun t57 w =>
  xOff (some 1) t57 w fun t58 w =>
  xLoad1 t58 w fun t59 w =>
  xLen P .pure #[9] t59 w fun t60 w =>
  xIndexAddr P 41 v4 v5 w fun t61 w =>
  xOff (some 2) t61 w fun t62 w =>
  xStore P 3 t62 t60 w fun _ w =>
  xBin P .add 3 v5 (Value.int IntKind.i64 1) w fun t63 w =>
  X0 [t63] w
def ref5_D_Crash_l1 (R : VCont) (X0 : LX) (v0 v1 v4 v5 : Value) (w : World) : Prop :=
  xLen P .pure #[41] v4 w fun t37 w =>
  xBin P .lss 3 v5 t37 w fun t38 w =>
  xIf t38
  (Sx.dr w fun w =>
  xIndexAddr P 41 v4 v5 w fun t39 _ =>
  xOff (some 1) t39 w fun t40 _ =>
  xLoad1 t40 w fun t41 w' =>
  w' = w ∧
  xLen P .pure #[9] t41 w fun t42 _ =>
  xIndexAddr P 41 v4 v5 w fun t43 _ =>
  xOff (some 2) t43 w fun t44 _ =>
  xLoad1 t44 w fun t45 w' =>
  w' = w ∧
  xBin P .sub 3 t42 t45 w fun t46 _ =>
  xBin P .lss 3 v1 t46 w fun t64 w =>
  xIf t64
  (xMinMax P true [v1, (Value.int IntKind.i64 0)] w fun t65 w =>
  ref5_D_Crash_j2 R X0 v4 v5 t65 w)
  (ref5_D_Crash_j2 R X0 v4 v5 t46 w))
  (ref5_D_Crash_j0 R v0 v4 w)
def ref5_D_Crash_main (R : VCont) (a0 a1 : Value) (w : World) : Prop :=
  xBuildSlice P 41 0 [] w fun t1 w =>
  xNil a0 w fun t2 w =>
  xOff (some 1) t2 w fun t3 w =>
  xLoad1 t3 w fun t4 w =>
  xBuiltin P .append #[41, 41] 41 [false, false] [t1, t4] w fun t5 w =>
  Lp (fun X s w => ref5_D_Crash_l1 R X a0 a1 t5 (s.getD 0 undef) w) [(Value.int IntKind.i64 0)] w
def ref5_D_Crash_os (i : Nat) : OT := cond (Nat.beq i 4) (.fl 0 (.fl 1 (.fl 2 (.fl 3 (.fl 4 (.fl 5 (.fl 6 (.fl 7 (.fl 8 (.fl 9 (.fl 10 (.fl 11 (.fl 12 .done))))))))))))) (cond (Nat.beq i 7) (.fl 0 (.fl 1 (.fl 2 (.fl 3 (.fl 4 (.fl 5 (.fl 6 (.fl 7 (.fl 8 (.fl 9 (.fl 10 (.fl 11 (.fl 12 (.fl 13 (.fl 14 (.fl 15 (.fl 16 (.an 17 .done .no)))))))))))))))))) (.no))
def ref5_D_Crash_es (R : VCont) : List Ent := [
  .join fun Xs e w => ref5_D_Crash_j0 R (e 0) (e 4) w,
  .loop [0, 1, 4] [5] fun Xs fx X s w => ref5_D_Crash_l1 R X (fx.getD 0 undef) (fx.getD 1 undef) (fx.getD 2 undef) (s.getD 0 undef) w,
  .join fun Xs e w => ref5_D_Crash_j2 R (hx Xs) (e 4) (e 5) (e 6) w]
theorem ref5_D_Crash_ok {R : VCont} {a0 a1 : Value} {w : World} (h : ref5_D_Crash_main R a0 a1 w) : Calls P nr.ref5_D_Crash [a0, a1].toArray w (Ret R) :=
  calls_of_sx (P := P) (fn := Try.f28) (Os := ref5_D_Crash_os) (Es := (ref5_D_Crash_es R)) (args := [a0, a1]) mixed (by kernel_rfl) (by kernel_rfl) (by kernel_rfl) (by kernel_rfl) (by kernel_rfl) (by kernel_rfl) (by kernel_rfl)
    (Eq.mp (show ref5_D_Crash_main R a0 a1 w = sxh P ref5_D_Crash_os (ref5_D_Crash_es R) [] 0 (bodyOf Try.f28) (retQ P Try.f28.results.toList R) (envOf [a0, a1]) w by kernel_rfl) h)
theorem ref5_D_Crash_call {R : VCont} {a0 a1 : Value} {w : World} (h : ref5_D_Crash_main R a0 a1 w) : xCall P nr.ref5_D_Crash [a0, a1] w R :=
  xCall_of (P := P) (fn := Try.f28) (by kernel_rfl) (by kernel_rfl) (by kernel_rfl) (ref5_D_Crash_ok h)

/-! (*sojourn/sojournref5.D).Read: function 31 -/
def ref5_D_Read_main (R : VCont) (a0 a1 : Value) (w : World) : Prop :=
  xCall P nr.ref5_D_at [a0, a1] w fun t1 w =>
  xExtract t1 0 w fun t2 w =>
  xExtract t1 1 w fun t3 w =>
  xUn P .not t3 w fun t4 w =>
  xIf t4
  (R (Value.tuple #[(Value.string { data := #[] }), (Value.int IntKind.i64 5)]) w)
  (xNil a0 w fun t5 w =>
  xOff (some 1) t5 w fun t6 w =>
  xLoad1 t6 w fun t7 w =>
  xIndexAddr P 41 t7 t2 w fun t8 w =>
  xOff (some 1) t8 w fun t9 w =>
  xLoad1 t9 w fun t10 w =>
  R (Value.tuple #[t10, (Value.int IntKind.i64 0)]) w)
theorem ref5_D_Read_ok {R : VCont} {a0 a1 : Value} {w : World} (h : ref5_D_Read_main R a0 a1 w) : Calls P nr.ref5_D_Read [a0, a1].toArray w (Ret R) :=
  calls_of_sx (P := P) (fn := Try.f31) (Os := (fun _ => .no)) (Es := []) (args := [a0, a1]) mixed (by kernel_rfl) (by kernel_rfl) (by kernel_rfl) (by kernel_rfl) (by kernel_rfl) (by kernel_rfl) (by kernel_rfl)
    (Eq.mp (show ref5_D_Read_main R a0 a1 w = sxh P (fun _ => .no) [] [] 0 (bodyOf Try.f31) (retQ P Try.f31.results.toList R) (envOf [a0, a1]) w by kernel_rfl) h)
theorem ref5_D_Read_call {R : VCont} {a0 a1 : Value} {w : World} (h : ref5_D_Read_main R a0 a1 w) : xCall P nr.ref5_D_Read [a0, a1] w R :=
  xCall_of (P := P) (fn := Try.f31) (by kernel_rfl) (by kernel_rfl) (by kernel_rfl) (ref5_D_Read_ok h)

/-! (*sojourn/sojournref5.D).Used: function 52 -/
def ref5_D_Used_j0 (R : VCont) (v3 : Value) (w : World) : Prop :=
  R v3 w
def ref5_D_Used_l1 (R : VCont) (X0 : LX) (v0 v3 v4 : Value) (w : World) : Prop :=
  xNil v0 w fun t15 w =>
  xOff (some 1) t15 w fun t16 w =>
  xLoad1 t16 w fun t17 w =>
  xLen P .pure #[41] t17 w fun t18 w =>
  xBin P .lss 3 v4 t18 w fun t19 w =>
  xIf t19
  (xNil v0 w fun t20 w =>
  xOff (some 1) t20 w fun t21 w =>
  xLoad1 t21 w fun t22 w =>
  xIndexAddr P 41 t22 v4 w fun t23 w =>
  xOff (some 1) t23 w fun t24 w =>
  xLoad1 t24 w fun t25 w =>
  xLen P .pure #[9] t25 w fun t26 w =>
  xBin P .add 3 v3 t26 w fun t27 w =>
  xBin P .add 3 v4 (Value.int IntKind.i64 1) w fun t28 w =>
  X0 [t27, t28] w)
  (ref5_D_Used_j0 R v3 w)
def ref5_D_Used_main (R : VCont) (a0 : Value) (w : World) : Prop :=
  Lp (fun X s w => ref5_D_Used_l1 R X a0 (s.getD 0 undef) (s.getD 1 undef) w) [(Value.int IntKind.i64 0), (Value.int IntKind.i64 0)] w
def ref5_D_Used_es (R : VCont) : List Ent := [
  .join fun Xs e w => ref5_D_Used_j0 R (e 3) w,
  .loop [0] [3, 4] fun Xs fx X s w => ref5_D_Used_l1 R X (fx.getD 0 undef) (s.getD 0 undef) (s.getD 1 undef) w]
theorem ref5_D_Used_ok {R : VCont} {a0 : Value} {w : World} (h : ref5_D_Used_main R a0 w) : Calls P nr.ref5_D_Used [a0].toArray w (Ret R) :=
  calls_of_sx (P := P) (fn := Try.f52) (Os := (fun _ => .no)) (Es := (ref5_D_Used_es R)) (args := [a0]) mixed (by kernel_rfl) (by kernel_rfl) (by kernel_rfl) (by kernel_rfl) (by kernel_rfl) (by kernel_rfl) (by kernel_rfl)
    (Eq.mp (show ref5_D_Used_main R a0 w = sxh P (fun _ => .no) (ref5_D_Used_es R) [] 0 (bodyOf Try.f52) (retQ P Try.f52.results.toList R) (envOf [a0]) w by kernel_rfl) h)
theorem ref5_D_Used_call {R : VCont} {a0 : Value} {w : World} (h : ref5_D_Used_main R a0 w) : xCall P nr.ref5_D_Used [a0] w R :=
  xCall_of (P := P) (fn := Try.f52) (by kernel_rfl) (by kernel_rfl) (by kernel_rfl) (ref5_D_Used_ok h)

/-! (*sojourn/sojournref5.D).at: function 53 -/
def ref5_D_at_j0 (R : VCont) (v0 v1 v6 : Value) (w : World) : Prop :=
  Sx.dr w fun w =>
  xNil v0 w fun t1 _ =>
  xOff (some 1) t1 w fun t2 _ =>
  xLoad1 t2 w fun t3 w' =>
  w' = w ∧
  xLen P .pure #[41] t3 w fun t4 _ =>
  xBin P .lss 3 v6 t4 w fun t5 _ =>
  xWhen t5 true (fun K => K v0 w) w fun t6 _ =>
  xWhen t5 true (fun K => xNil t6 w K) w fun t7 _ =>
  xWhen t5 true (fun K => xOff (some 1) t7 w K) w fun t8 _ =>
  xWhen t5 true (fun K => xLoad1 t8 w K) w fun t9 w' =>
  w' = w ∧
  xWhen t5 true (fun K => K v6 w) w fun t10 _ =>
  xWhen t5 true (fun K => xIndexAddr P 41 t9 t10 w K) w fun t11 _ =>
  xWhen t5 true (fun K => xOff (some 0) t11 w K) w fun t12 _ =>
  xWhen t5 true (fun K => xLoad1 t12 w K) w fun t13 w' =>
  w' = w ∧
  xWhen t5 true (fun K => K v1 w) w fun t14 _ =>
  xWhen t5 true (fun K => xEq P .eql 9 false false t13 t14 w K) w fun t15 _ =>
  xPick t5 t15 (Value.bool false) w fun t16 _ =>
  R (Value.tuple #[v6, t16]) w
def ref5_D_at_l1 (R : VCont) (X0 : LX) (v0 v1 v6 : Value) (w : World) : Prop :=
  xNil v0 w fun t34 w =>
  xOff (some 1) t34 w fun t35 w =>
  xLoad1 t35 w fun t36 w =>
  xLen P .pure #[41] t36 w fun t37 w =>
  xBin P .lss 3 v6 t37 w fun t38 w =>
  xWhen t38 true (fun K => K v0 w) w fun t39 w =>
  xWhen t38 true (fun K => xNil t39 w K) w fun t40 w =>
  xWhen t38 true (fun K => xOff (some 1) t40 w K) w fun t41 w =>
  xWhen t38 true (fun K => xLoad1 t41 w K) w fun t42 w =>
  xWhen t38 true (fun K => K v6 w) w fun t43 w =>
  xWhen t38 true (fun K => xIndexAddr P 41 t42 t43 w K) w fun t44 w =>
  xWhen t38 true (fun K => xOff (some 0) t44 w K) w fun t45 w =>
  xWhen t38 true (fun K => xLoad1 t45 w K) w fun t46 w =>
  xWhen t38 true (fun K => K v1 w) w fun t47 w =>
  xWhen t38 true (fun K => xBin P .lss 9 t46 t47 w K) w fun t48 w =>
  xPick t38 t48 (Value.bool false) w fun t49 w =>
  xIf t49
  (xBin P .add 3 v6 (Value.int IntKind.i64 1) w fun t50 w =>
  X0 [t50] w)
  (ref5_D_at_j0 R v0 v1 v6 w)
def ref5_D_at_main (R : VCont) (a0 a1 : Value) (w : World) : Prop :=
  Lp (fun X s w => ref5_D_at_l1 R X a0 a1 (s.getD 0 undef) w) [(Value.int IntKind.i64 0)] w
def ref5_D_at_os (i : Nat) : OT := cond (Nat.beq i 4) (.fl 0 (.fl 1 (.fl 2 (.fl 3 (.fl 4 (.fl 5 (.fl 6 (.fl 7 (.fl 8 (.fl 9 (.fl 10 (.fl 11 (.fl 12 (.fl 13 (.fl 14 (.fl 15 (.fl 16 (.fl 17 (.fl 18 (.fl 19 (.fl 20 (.fl 21 .done)))))))))))))))))))))) (.no)
def ref5_D_at_es (R : VCont) : List Ent := [
  .join fun Xs e w => ref5_D_at_j0 R (e 0) (e 1) (e 6) w,
  .loop [0, 1] [6] fun Xs fx X s w => ref5_D_at_l1 R X (fx.getD 0 undef) (fx.getD 1 undef) (s.getD 0 undef) w]
theorem ref5_D_at_ok {R : VCont} {a0 a1 : Value} {w : World} (h : ref5_D_at_main R a0 a1 w) : Calls P nr.ref5_D_at [a0, a1].toArray w (Ret R) :=
  calls_of_sx (P := P) (fn := Try.f53) (Os := ref5_D_at_os) (Es := (ref5_D_at_es R)) (args := [a0, a1]) mixed (by kernel_rfl) (by kernel_rfl) (by kernel_rfl) (by kernel_rfl) (by kernel_rfl) (by kernel_rfl) (by kernel_rfl)
    (Eq.mp (show ref5_D_at_main R a0 a1 w = sxh P ref5_D_at_os (ref5_D_at_es R) [] 0 (bodyOf Try.f53) (retQ P Try.f53.results.toList R) (envOf [a0, a1]) w by kernel_rfl) h)
theorem ref5_D_at_call {R : VCont} {a0 a1 : Value} {w : World} (h : ref5_D_at_main R a0 a1 w) : xCall P nr.ref5_D_at [a0, a1] w R :=
  xCall_of (P := P) (fn := Try.f53) (by kernel_rfl) (by kernel_rfl) (by kernel_rfl) (ref5_D_at_ok h)

/-! sojourn/sojournref5.good: function 51 -/
def ref5_good_main (R : VCont) (a0 : Value) (w : World) : Prop :=
  xLen P .pure #[9] a0 w fun t1 w =>
  xBin P .geq 3 t1 (Value.int IntKind.i64 1) w fun t2 w =>
  xWhen t2 true (fun K => K a0 w) w fun t3 w =>
  xWhen t2 true (fun K => xLen P .pure #[9] t3 w K) w fun t4 w =>
  xWhen t2 true (fun K => xBin P .leq 3 t4 (Value.int IntKind.i64 20) w K) w fun t5 w =>
  xPick t2 t5 (Value.bool false) w fun t6 w =>
  R t6 w
theorem ref5_good_ok {R : VCont} {a0 : Value} {w : World} (h : ref5_good_main R a0 w) : Calls P nr.ref5_good [a0].toArray w (Ret R) :=
  calls_of_sx (P := P) (fn := Try.f51) (Os := (fun _ => .no)) (Es := []) (args := [a0]) mixed (by kernel_rfl) (by kernel_rfl) (by kernel_rfl) (by kernel_rfl) (by kernel_rfl) (by kernel_rfl) (by kernel_rfl)
    (Eq.mp (show ref5_good_main R a0 w = sxh P (fun _ => .no) [] [] 0 (bodyOf Try.f51) (retQ P Try.f51.results.toList R) (envOf [a0]) w by kernel_rfl) h)
theorem ref5_good_call {R : VCont} {a0 : Value} {w : World} (h : ref5_good_main R a0 w) : xCall P nr.ref5_good [a0] w R :=
  xCall_of (P := P) (fn := Try.f51) (by kernel_rfl) (by kernel_rfl) (by kernel_rfl) (ref5_good_ok h)

end Go.Proofs.Ytamejkogghpbhaa
end
section
/- The document's disk: what it is in memory; looking up. -/
set_option linter.unusedVariables false
set_option linter.unusedSimpArgs false
namespace Go.Proofs.Ytamejkogghpbhaa
open Go.Sx
abbrev RF := ByteArray × ByteArray × Nat
def rcell (r : RF) : List Value := [.string r.1, .string r.2.1, i64 r.2.2]
def flat (R : List RF) : List Value := R.flatMap rcell
theorem flat_cons (r : RF) (R : List RF) : flat (r :: R) = rcell r ++ flat R := rfl
theorem flat_append (R S : List RF) : flat (R ++ S) = flat R ++ flat S := by simp [flat]
theorem flat_length (R : List RF) : (flat R).length = R.length * 3 := by
  induction R with
  | nil => rfl
  | cons r R ih => rw [flat_cons, List.length_append, ih]; simp [rcell]; omega
theorem flat_get {R : List RF} {i : Nat} {r : RF} (h : R[i]? = some r) : (flat R)[i * 3]? = some (.string r.1) ∧ (flat R)[i * 3 + 1]? = some (.string r.2.1) ∧ (flat R)[i * 3 + 2]? = some (i64 r.2.2) := by
  induction R generalizing i with
  | nil => simp at h
  | cons q R ih =>
    cases i with
    | zero => simp at h; subst h; exact ⟨rfl, rfl, rfl⟩
    | succ i =>
      have := ih (i := i) (by simpa using h)
      rw [flat_cons]
      have e : ∀ k, (rcell q ++ flat R)[(i + 1) * 3 + k]? = (flat R)[i * 3 + k]? := by
        intro k
        rw [show (i + 1) * 3 + k = (rcell q).length + (i * 3 + k) by simp [rcell]; omega, List.getElem?_append_right (by omega)]
        congr 1
        omega
      have e0 := e 0
      simp only [Nat.add_zero] at e0
      rw [e0, e 1, e 2]
      exact this
theorem flat_take (R : List RF) (i : Nat) : flat (R.take i) = (flat R).take (i * 3) := by
  induction R generalizing i with
  | nil => simp [flat]
  | cons r R ih =>
    cases i with
    | zero => simp [flat]
    | succ i =>
      rw [List.take_succ_cons, flat_cons, flat_cons, ih, show (i + 1) * 3 = (rcell r).length + i * 3 by simp [rcell]; omega, List.take_length_add_append]
theorem flat_drop (R : List RF) (i : Nat) : flat (R.drop i) = (flat R).drop (i * 3) := by
  induction R generalizing i with
  | nil => simp [flat]
  | cons r R ih =>
    cases i with
    | zero => simp
    | succ i =>
      rw [List.drop_succ_cons, flat_cons, ih, show (i + 1) * 3 = (rcell r).length + i * 3 by simp [rcell]; omega, List.drop_length_add_append]
/-- the document's disk at block x: its room, its files; F: its blocks -/
def RefAt (w : World) (x room : Nat) (R : List RF) (F : Nat → Prop) : Prop :=
  ∃ sv, w.heap[x]? = some (.cells #[i64 room, sv] ty.ref5_D (0, 0)) ∧ Own w ty.ref5_File 3 sv R.length (flat R) ∧ sv.ownBlock ≠ some x ∧ ∀ b, F b ↔ (b = x ∨ sv.ownBlock = some b)
theorem RefAt.keep {S F : Nat → Prop} {w w' : World} {x room : Nat} {R : List RF} (h : RefAt w x room R F) (hc : Chg S w w') (hn : ∀ b, F b → ¬ S b) : RefAt w' x room R F := by
  obtain ⟨sv, h1, h2, h3, h4⟩ := h
  exact ⟨sv, hc.keep h1 (hn x ((h4 x).2 (.inl rfl))), h2.keep hc fun g hg => hn g ((h4 g).2 (.inr hg)), h3, h4⟩
theorem RefAt.keep' {F : Nat → Prop} {w w' : World} {x room : Nat} {R : List RF} (h : RefAt w x room R F) (hc : Chg none' w w') : RefAt w' x room R F := h.keep hc fun _ _ h => h
theorem RefAt.lt {F : Nat → Prop} {w : World} {x room : Nat} {R : List RF} (h : RefAt w x room R F) {b : Nat} (hb : F b) : b < w.heap.size := by
  obtain ⟨sv, h1, h2, h3, h4⟩ := h
  rcases (h4 b).1 hb with rfl | hb
  · exact size_pos h1
  · exact h2.lt hb
end Go.Proofs.Ytamejkogghpbhaa
end
section
/- The document's disk: where a name stands; used; reading. -/
set_option linter.unusedVariables false
set_option linter.unusedSimpArgs false
namespace Go.Proofs.Ytamejkogghpbhaa
open Go.Sx
theorem len_own_eq {t e : TypeId} (ht : P.underlying t = some (.slice e)) {w w' : World} {K : VCont} {v : Value} {n size : Nat} {xs : List Value} (ho : Own w e size v n xs) : xLen P .pure #[t] v w' K = K (.int .i64 n) w' := by
  rcases ho.2 with ⟨rfl, h0⟩ | ⟨g, cap, cur, rfl, hb, _⟩
  · subst h0; rw [xLen_slice ht]
  · rw [xLen_slice ht]
def idx : List RF → ByteArray → Nat
  | [], _ => 0
  | r :: R, a => if slt r.1 a then idx R a + 1 else 0
theorem idx_le (R : List RF) (a : ByteArray) : idx R a ≤ R.length := by
  induction R with
  | nil => simp [idx]
  | cons r R ih => unfold idx; split <;> simp; omega
theorem idx_step {R : List RF} {a : ByteArray} {i : Nat} {r : RF} (hi : i ≤ idx R a) (hr : R[i]? = some r) : (slt r.1 a = true → i + 1 ≤ idx R a) ∧ (slt r.1 a = false → i = idx R a) := by
  induction R generalizing i with
  | nil => simp at hr
  | cons q R ih =>
    cases i with
    | zero =>
      simp at hr; subst hr
      unfold idx
      cases h : slt q.1 a <;> simp
    | succ i =>
      unfold idx at hi ⊢
      cases h : slt q.1 a with
      | false => rw [h] at hi; simp at hi
      | true =>
        rw [h] at hi
        simp only [if_true] at hi ⊢
        have := ih (i := i) (by omega) (by simpa using hr)
        exact ⟨fun h => by have := this.1 h; omega, fun h => by have := this.2 h; omega⟩
def isAt (R : List RF) (a : ByteArray) : Bool := match R[idx R a]? with
  | some r => decide (r.1 = a)
  | none => false
section
variable {w : World} {K : VCont} {x room : Nat} {R : List RF} {F : Nat → Prop}
theorem good_spec (s : ByteArray) (hK : K (.bool (mayB s)) w) : xCall P nr.ref5_good [.string s] w K := by
  refine ref5_good_call ?_
  unfold ref5_good_main
  unfold mayB at hK
  rw [xLen_string und.string]
  simp only [xs, xb]
  by_cases h : 1 ≤ (s.size : Int)
  · simp only [h, decide_true, xs, xb]
    rw [xLen_string und.string]
    simp only [xs, xb]
    simpa [h] using hK
  · simp only [h, decide_false, xs, xb]
    simpa [h] using hK
theorem at_spec (h : RefAt w x room R F) (hl : R.length ≤ 1000000) (a : ByteArray) (hK : ∀ w', Chg none' w w' → K (.tuple #[i64 (idx R a), .bool (isAt R a)]) w') : xCall P nr.ref5_D_at [ptr x, .string a] w K := by
  refine ref5_D_at_call ?_
  unfold ref5_D_at_main
  refine Lp.gen (fun n s w' => w' = w ∧ ∃ i : Nat, n + i = R.length ∧ s = [i64 i] ∧ i ≤ idx R a) R.length ⟨rfl, 0, by omega, by simp, by omega⟩ ?_
  rintro n s w' ⟨rfl, i, hni, rfl, hi⟩ X hX
  have hle := idx_le R a
  obtain ⟨sv, hb, ho, hne, hF⟩ := id h
  have done : i = idx R a → ref5_D_at_j0 K (ptr x) (.string a) (i64 i) w' := by
    intro hid
    subst hid
    have hK := hK w'.drew (Chg.drew _ _)
    unfold isAt at hK
    unfold ref5_D_at_j0
    have hb' : w'.drew.heap[x]? = some (.cells #[i64 room, sv] ty.ref5_D (0, 0)) := hb
    simp only [xs, xb, xd, Nat.zero_add, cell_of_block hb', List.getElem?_toArray, List.getElem?_cons_zero, List.getElem?_cons_succ, len_own_eq und.s_ref5_File ho, true_and]
    by_cases hlt : idx R a < R.length
    · have hlt' : ((idx R a : Nat) : Int) < (R.length : Int) := by omega
      obtain ⟨g, hg, ix, hc⟩ := own_at (size := 3) und.s_ref5_File inf.ref5_File rfl ho hlt
      have hr := flat_get (List.getElem?_eq_getElem hlt)
      simp only [hlt', xs, xb, xd, Nat.zero_add, cell_of_block hb', List.getElem?_toArray, List.getElem?_cons_zero, List.getElem?_cons_succ, true_and, ix, Nat.add_zero]
      have hc' : w'.drew.cell? ⟨g, idx R a * 3, none⟩ = some (.string R[idx R a].1) := hc _ _ hr.1
      simp only [hc', true_and]
      rw [xEq_str]
      rw [List.getElem?_eq_getElem hlt] at hK
      exact hK
    · have hlt' : ¬ ((idx R a : Nat) : Int) < (R.length : Int) := by omega
      simp only [hlt', xs, xb, xd, true_and]
      rw [List.getElem?_eq_none (by omega)] at hK
      exact hK
  unfold ref5_D_at_l1
  simp only [List.getD_cons_zero, xs, xb, xd, Nat.zero_add, cell_of_block hb, List.getElem?_toArray, List.getElem?_cons_zero, List.getElem?_cons_succ, len_own_eq und.s_ref5_File ho]
  by_cases hlt : i < R.length
  · have hlt' : (i : Int) < (R.length : Int) := by omega
    obtain ⟨g, hg, ix, hc⟩ := own_at (size := 3) und.s_ref5_File inf.ref5_File rfl ho hlt
    have hr := flat_get (List.getElem?_eq_getElem hlt)
    have hst := idx_step hi (List.getElem?_eq_getElem hlt)
    simp only [hlt', xs, xb, xd, Nat.zero_add, cell_of_block hb, List.getElem?_toArray, List.getElem?_cons_zero, List.getElem?_cons_succ, ix, Nat.add_zero, hc _ _ hr.1]
    rw [xLt_str]
    cases hs : slt R[i].1 a with
    | true =>
      simp only [xs, xb, xd]
      rw [wrap_i64 (by omega) (by omega)]
      exact hX (n - 1) _ _ ⟨rfl, i + 1, by omega, by simp, hst.1 hs⟩ (by omega)
    | false =>
      simp only [xs, xb, xd]
      exact done (hst.2 hs)
  · have hlt' : ¬ (i : Int) < (R.length : Int) := by omega
    simp only [hlt', xs, xb, xd]
    exact done (by omega)
end
end Go.Proofs.Ytamejkogghpbhaa
end
section
/- The document's disk: used; reading; syncing. -/
set_option linter.unusedVariables false
set_option linter.unusedSimpArgs false
namespace Go.Proofs.Ytamejkogghpbhaa
open Go.Sx
def rused (R : List RF) : Nat := (R.map fun r => r.2.1.size).sum
theorem isAt_some {R : List RF} {a : ByteArray} (h : isAt R a = true) : ∃ r, R[idx R a]? = some r ∧ r.1 = a := by
  unfold isAt at h
  cases hr : R[idx R a]? with
  | none => rw [hr] at h; cases h
  | some r => rw [hr] at h; exact ⟨r, rfl, by simpa using h⟩
section
variable {w : World} {K : VCont} {x room : Nat} {R : List RF} {F : Nat → Prop}
theorem rused_spec (h : RefAt w x room R F) (hl : R.length ≤ 1000000) (hu : rused R ≤ 1000000) (hK : K (i64 (rused R)) w) : xCall P nr.ref5_D_Used [ptr x] w K := by
  refine ref5_D_Used_call ?_
  unfold ref5_D_Used_main
  refine Lp.gen (fun n s w' => w' = w ∧ ∃ i : Nat, n + i = R.length ∧ s = [i64 ((((R.map fun r => r.2.1.size).take i).sum : Nat) : Int), i64 i]) R.length ⟨rfl, 0, by omega, by simp⟩ ?_
  rintro n s w' ⟨rfl, i, hni, rfl⟩ X hX
  obtain ⟨sv, hb, ho, hne, hF⟩ := id h
  unfold ref5_D_Used_l1
  simp only [List.getD_cons_zero, List.getD_cons_succ, xs, xb, xd, Nat.zero_add, cell_of_block hb, List.getElem?_toArray, List.getElem?_cons_zero, List.getElem?_cons_succ, len_own_eq und.s_ref5_File ho]
  by_cases hlt : i < R.length
  · have hlt' : (i : Int) < (R.length : Int) := by omega
    obtain ⟨g, hg, ix, hc⟩ := own_at (size := 3) und.s_ref5_File inf.ref5_File rfl ho hlt
    have hr := flat_get (List.getElem?_eq_getElem hlt)
    simp only [hlt', xs, xb, xd, Nat.zero_add, cell_of_block hb, List.getElem?_toArray, List.getElem?_cons_zero, List.getElem?_cons_succ, ix, hc _ _ hr.2.1]
    rw [xLen_string und.string]
    have hs1 := take_sum_succ (l := R.map fun r => r.2.1.size) (i := i) (x := R[i].2.1.size) (by simp [hlt])
    have hs2 := take_sum (l := R.map fun r => r.2.1.size) (i + 1)
    unfold rused at hu
    simp only [xs, xb, xd]
    rw [wrap_i64 (by omega) (by omega), wrap_i64 (by omega) (by omega)]
    refine hX (n - 1) _ _ ⟨rfl, i + 1, by omega, ?_⟩ (by omega)
    rw [hs1]; simp
  · have hlt' : ¬ (i : Int) < (R.length : Int) := by omega
    simp only [hlt', xs, xb, xd]
    unfold ref5_D_Used_j0
    rw [List.take_of_length_le (by simp; omega)]
    exact hK
theorem rread_spec (h : RefAt w x room R F) (hl : R.length ≤ 1000000) (a : ByteArray) (hN : isAt R a = false → ∀ w', Chg none' w w' → K (.tuple #[.string ⟨#[]⟩, i64 5]) w')
    (hK : ∀ r, R[idx R a]? = some r → r.1 = a → ∀ w', Chg none' w w' → K (.tuple #[.string r.2.1, i64 0]) w') : xCall P nr.ref5_D_Read [ptr x, .string a] w K := by
  refine ref5_D_Read_call ?_
  unfold ref5_D_Read_main
  refine at_spec h hl a ?_
  intro w1 hc1
  have h := h.keep' hc1
  obtain ⟨sv, hb, ho, hne, hF⟩ := id h
  cases hat : isAt R a with
  | false =>
    simp only [xs, xb, xd]
    exact hN hat w1 hc1
  | true =>
    obtain ⟨r, hr, hra⟩ := isAt_some hat
    have hlt := (List.getElem?_eq_some_iff.1 hr).1
    obtain ⟨g, hg, ix, hc⟩ := own_at (size := 3) und.s_ref5_File inf.ref5_File rfl ho hlt
    have hf := flat_get hr
    simp only [xs, xb, xd, Nat.zero_add, cell_of_block hb, List.getElem?_toArray, List.getElem?_cons_zero, List.getElem?_cons_succ, ix, hc _ _ hf.2.1]
    exact hK r hr hra w1 hc1
end
end Go.Proofs.Ytamejkogghpbhaa
end
section
/- The document's disk: syncing, cutting. -/
set_option linter.unusedVariables false
set_option linter.unusedSimpArgs false
namespace Go.Proofs.Ytamejkogghpbhaa
open Go.Sx
theorem flat_set {R : List RF} {i : Nat} {r : RF} (h : R[i]? = some r) : (∀ s : ByteArray, (flat R).set (i * 3 + 1) (.string s) = flat (R.set i (r.1, s, r.2.2))) ∧ (∀ k : Nat, (flat R).set (i * 3 + 2) (i64 k) = flat (R.set i (r.1, r.2.1, k))) ∧ (∀ s : ByteArray, (flat R).set (i * 3) (.string s) = flat (R.set i (s, r.2.1, r.2.2))) := by
  induction R generalizing i with
  | nil => simp at h
  | cons q R ih =>
    cases i with
    | zero =>
      simp at h; subst h
      refine ⟨fun s => ?_, fun k => ?_, fun s => ?_⟩ <;> simp [flat, rcell]
    | succ i =>
      have := ih (i := i) (by simpa using h)
      have e : ∀ k v, (flat (q :: R)).set ((i + 1) * 3 + k) v = rcell q ++ (flat R).set (i * 3 + k) v := by
        intro k v
        rw [flat_cons, List.set_append_right _ _ (by simp [rcell]; omega)]
        congr 2
        simp [rcell]; omega
      refine ⟨fun s => ?_, fun k => ?_, fun s => ?_⟩
      · rw [e, this.1]; rfl
      · rw [e, this.2.1]; rfl
      · have e0 := e 0 (.string s)
        simp only [Nat.add_zero] at e0
        rw [e0, this.2.2]; rfl
section
variable {w : World} {K : VCont} {x room : Nat} {R : List RF} {F : Nat → Prop}
/-- a cell of a file is set -/
theorem rset {sv : Value} {u : TypeId} {i : TypeInfo} (hb : w.heap[x]? = some (.cells #[i64 room, sv] ty.ref5_D (0, 0))) (ho : Own w ty.ref5_File 3 sv R.length (flat R)) (hne : sv.ownBlock ≠ some x) (hF : ∀ b, F b ↔ (b = x ∨ sv.ownBlock = some b))
    (hi : P.info? u = some i) (hs : i.size = 1) {v : Value} (hv : v.oneCell' = true) {j g : Nat} (hg : sv.ownBlock = some g) (hj : j < R.length * 3) {R' : List RF} (hR : (flat R).set j v = flat R') (hl : R'.length = R.length)
    (hK : ∀ w', w'.heap[x]? = some (.cells #[i64 room, sv] ty.ref5_D (0, 0)) → Own w' ty.ref5_File 3 sv R'.length (flat R') → Chg F w w' → K undef w') : xStore P u (.pointer (some ⟨g, j, none⟩)) v w K := by
  refine own_store hi hs hv ho hg (by rw [flat_length]; exact hj) ?_
  intro w' ho' hc hsz
  rw [hR] at ho'
  refine hK w' (hc.keep hb fun e => hne (by rw [hg, e])) (by rw [hl]; exact ho') (hc.mono fun b _ e => (hF b).2 (.inr (by rw [hg, e])))
theorem rsync_spec (h : RefAt w x room R F) (hl : R.length ≤ 1000000) (a : ByteArray) (hN : isAt R a = false → ∀ w', Chg none' w w' → K (i64 5) w')
    (hK : ∀ r, R[idx R a]? = some r → r.1 = a → ∀ w', RefAt w' x room (R.set (idx R a) (r.1, r.2.1, r.2.1.size)) F → Chg F w w' → K (i64 0) w') : xCall P nr.ref5_D_Sync [ptr x, .string a] w K := by
  refine ref5_D_Sync_call ?_
  unfold ref5_D_Sync_main
  refine at_spec h hl a ?_
  intro w1 hc1
  cases hat : isAt R a with
  | false =>
    simp only [xs, xb, xd]
    exact hN hat w1 hc1
  | true =>
    have h := (h.keep' hc1).keep' (Chg.drew _ none')
    obtain ⟨sv, hb, ho, hne, hF⟩ := id h
    obtain ⟨r, hr, hra⟩ := isAt_some hat
    have hlt := (List.getElem?_eq_some_iff.1 hr).1
    obtain ⟨g, hg, ix, hc⟩ := own_at (size := 3) und.s_ref5_File inf.ref5_File rfl ho hlt
    have hf := flat_get hr
    simp only [xs, xb, xd, Nat.zero_add, cell_of_block hb, List.getElem?_toArray, List.getElem?_cons_zero, List.getElem?_cons_succ, ix, hc _ _ hf.2.1, true_and]
    rw [xLen_string und.string]
    refine rset hb ho hne hF inf.int rfl rfl hg (by omega) ((flat_set hr).2.1 r.2.1.size) (by simp) ?_
    intro w2 hb2 ho2 hc2
    exact hK r hr hra w2 ⟨sv, hb2, ho2, hne, hF⟩ ((hc1.trans (Chg.drew _ _)).of_none.trans hc2)
end
end Go.Proofs.Ytamejkogghpbhaa
end
section
/- The document's disk: cutting. -/
set_option linter.unusedVariables false
set_option linter.unusedSimpArgs false
namespace Go.Proofs.Ytamejkogghpbhaa
open Go.Sx
section
variable {w : World} {K : VCont} {x room : Nat} {R : List RF} {F : Nat → Prop}
theorem rcut_spec (h : RefAt w x room R F) (hl : R.length ≤ 1000000) (a : ByteArray) (n : Int) (hN : isAt R a = false → ∀ w', Chg none' w w' → K (i64 5) w')
    (hR : ∀ r, R[idx R a]? = some r → r.1 = a → n < 0 ∨ (r.2.1.size : Int) < n → ∀ w', Chg none' w w' → K (i64 3) w')
    (hK : ∀ r (k : Nat), R[idx R a]? = some r → r.1 = a → n = k → k ≤ r.2.1.size → ∀ w', RefAt w' x room (R.set (idx R a) (r.1, r.2.1.extract 0 k, k)) F → Chg F w w' → K (i64 0) w') : xCall P nr.ref5_D_Cut [ptr x, .string a, i64 n] w K := by
  refine ref5_D_Cut_call ?_
  unfold ref5_D_Cut_main
  refine at_spec h hl a ?_
  intro w1 hc1
  cases hat : isAt R a with
  | false =>
    simp only [xs, xb, xd]
    exact hN hat w1 hc1
  | true =>
    have h0 := h.keep' hc1
    have h := h0.keep' (Chg.drew _ none')
    obtain ⟨sv, hb, ho, hne, hF⟩ := id h0
    obtain ⟨r, hr, hra⟩ := isAt_some hat
    have hlt := (List.getElem?_eq_some_iff.1 hr).1
    obtain ⟨g, hg, ix, hc⟩ := own_at (size := 3) und.s_ref5_File inf.ref5_File rfl ho hlt
    have hf := flat_get hr
    by_cases hn0 : n < 0
    · simp only [hn0, xs, xb, xd]
      exact hR r hr hra (.inl hn0) w1 hc1
    simp only [hn0, xs, xb, xd, Nat.zero_add, cell_of_block hb, List.getElem?_toArray, List.getElem?_cons_zero, List.getElem?_cons_succ, ix, hc _ _ hf.2.1]
    rw [xLen_string und.string]
    simp only [xs, xb, xd]
    by_cases hn1 : ((r.2.1.size : Nat) : Int) < n
    · simp only [hn1, xs, xb, xd]
      exact hR r hr hra (.inr hn1) w1 hc1
    obtain ⟨k, rfl⟩ : ∃ k : Nat, n = k := ⟨n.toNat, by omega⟩
    have hb' : w1.drew.heap[x]? = some (.cells #[i64 room, sv] ty.ref5_D (0, 0)) := hb
    have ho' : Own w1.drew ty.ref5_File 3 sv R.length (flat R) := ho.keep' (Chg.drew _ _)
    have hc' : w1.drew.cell? ⟨g, idx R a * 3 + 1, none⟩ = some (.string r.2.1) := hc _ _ hf.2.1
    simp only [hn1, xs, xb, xd, Nat.zero_add, cell_of_block hb', List.getElem?_toArray, List.getElem?_cons_zero, List.getElem?_cons_succ, ix, hc', true_and]
    rw [xSlice_str und.string _ (by omega)]
    refine rset hb' ho' hne hF inf.string rfl rfl hg (by omega) ((flat_set hr).1 _) (by simp) ?_
    intro w2 hb2 ho2 hc2
    have hr2 : (R.set (idx R a) (r.1, r.2.1.extract 0 k, r.2.2))[idx R a]? = some (r.1, r.2.1.extract 0 k, r.2.2) := by simp [hlt]
    have hlen : (R.set (idx R a) (r.1, r.2.1.extract 0 k, r.2.2)).length = R.length := by simp
    refine rset hb2 ho2 hne hF inf.int rfl rfl hg (by omega) ((flat_set hr2).2.1 k) (by simp) ?_
    intro w3 hb3 ho3 hc3
    rw [List.set_set] at ho3
    exact hK r k hr hra rfl (by omega) w3 ⟨sv, hb3, by simpa using ho3, hne, hF⟩ (((hc1.trans (Chg.drew _ _)).of_none.trans hc2).trans hc3)
end
end Go.Proofs.Ytamejkogghpbhaa
end
section
/- The document's disk: removing. -/
set_option linter.unusedVariables false
set_option linter.unusedSimpArgs false
namespace Go.Proofs.Ytamejkogghpbhaa
open Go.Sx
theorem flat_one (R : List RF) : ∀ u ∈ flat R, u.oneCell' = true := by
  intro u hu
  unfold flat at hu
  obtain ⟨r, _, hr⟩ := List.mem_flatMap.1 hu
  simp [rcell] at hr
  rcases hr with rfl | rfl | rfl <;> rfl
section
variable {w : World} {K : VCont} {x room : Nat} {R : List RF} {F : Nat → Prop}
theorem rremove_spec (h : RefAt w x room R F) (hl : R.length ≤ 1000000) (a : ByteArray) (hN : isAt R a = false → ∀ w', Chg none' w w' → K (i64 5) w')
    (hK : ∀ r, R[idx R a]? = some r → r.1 = a → ∀ w' F', RefAt w' x room (R.take (idx R a) ++ R.drop (idx R a + 1)) F' → Chg F w w' → Moves F F' w → K (i64 0) w') : xCall P nr.ref5_D_Remove [ptr x, .string a] w K := by
  refine ref5_D_Remove_call ?_
  unfold ref5_D_Remove_main
  refine at_spec h hl a ?_
  intro w1 hc1
  cases hat : isAt R a with
  | false =>
    simp only [xs, xb, xd]
    exact hN hat w1 hc1
  | true =>
    have h := (h.keep' hc1).keep' (Chg.drew _ none')
    have hcd : Chg none' w w1.drew := hc1.trans (Chg.drew _ _)
    obtain ⟨sv, hb, ho, hne, hF⟩ := id h
    obtain ⟨r, hr, hra⟩ := isAt_some hat
    have hlt := (List.getElem?_eq_some_iff.1 hr).1
    obtain ⟨v8, s8, r8, b8⟩ := head_own (P := P) und.s_ref5_File inf.ref5_File ho (k := idx R a) (by omega)
    obtain ⟨v13, s13, r13, b13⟩ := tail_own (P := P) (size := 3) und.s_ref5_File inf.ref5_File rfl ho (k := idx R a + 1) (by omega)
    rw [← flat_take] at r8
    rw [← flat_drop] at r13
    have e1 : IntKind.i64.wrap ((idx R a : Int) + 1) = ((idx R a + 1 : Nat) : Int) := by rw [wrap_i64 (by omega) (by omega)]; omega
    simp only [xs, xb, xd, Nat.zero_add, cell_of_block hb, List.getElem?_toArray, List.getElem?_cons_zero, List.getElem?_cons_succ, true_and, s8, e1, s13]
    refine buildSlice0 (size := 3) und.s_ref5_File inf.ref5_File rfl ?_
    intro v2 w2 ho2 hb2 hc2 hs2
    have hx2 := hc2.keep hb (fun h => h)
    simp only [cell_of_block hx2, List.getElem?_toArray, List.getElem?_cons_zero, List.getElem?_cons_succ, true_and, and_self]
    have hxl : x < w1.drew.heap.size := size_pos hb
    have hsvl : ∀ g, sv.ownBlock = some g → g < w1.drew.heap.size := fun g hg => ho.lt hg
    refine append_step (size := 3) (bytes := 40) und.s_ref5_File inf.ref5_File rfl rfl rfl rfl ho2 (r8.keep' hc2) (flat_one _) (by unfold maxLen; omega) ?_ ?_
    · omega
    intro v3 w3 ho3 hc3 hv3
    have hnew3 : ∀ g, v3.ownBlock = some g → w1.drew.heap.size ≤ g := by
      intro g hg
      rcases hv3 with e | e
      · rw [e, hb2] at hg; cases hg; omega
      · rw [e] at hg; cases hg; omega
    have hx3 := hc3.keep hx2 (by rw [hb2]; intro e; cases e; omega)
    simp only [cell_of_block hx3, List.getElem?_toArray, List.getElem?_cons_zero, List.getElem?_cons_succ, true_and, and_self]
    have r13' := (r13.keep' hc2).keep hc3 (fun g hg e => by rw [b13] at hg; have := hsvl g hg; rw [hb2] at e; cases e; omega)
    refine append_step (size := 3) (bytes := 40) und.s_ref5_File inf.ref5_File rfl rfl rfl rfl ho3 r13' (flat_one _) (by unfold maxLen; omega) ?_ ?_
    · omega
    intro v4 w4 ho4 hc4 hv4
    have hnew4 : ∀ g, v4.ownBlock = some g → w1.drew.heap.size ≤ g := by
      intro g hg
      rcases hv4 with e | e
      · rw [e] at hg; exact hnew3 g hg
      · rw [e] at hg; cases hg; have := hc3.size; omega
    have hx4 := hc4.keep hx3 (fun e => by have := hnew3 x e; omega)
    refine store_blk inf.s_ref5_File rfl ?_ hx4 (by simp) ?_
    · rcases ho4.2 with ⟨rfl, _⟩ | ⟨g, cap, cur, rfl, _⟩ <;> rfl
    intro w5 hb5 hc5 hs5
    unfold ref5_D_Remove_j0
    have hne4 : v4.ownBlock ≠ some x := fun e => by have := hnew4 x e; omega
    refine hK r hr hra w5 _ ⟨v4, by rw [hb5]; simp, ?_, hne4, fun _ => Iff.rfl⟩ ?_ ?_
    · have := ho4.keep hc5 (fun g hg e => hne4 (by rw [hg, e]))
      simpa [flat_append, Nat.min_eq_left (Nat.le_of_lt hlt)] using this
    · have h1 : Chg F w w1.drew := hcd.of_none
      have h2 := h1.then hc2 fun b _ h => h.elim
      have h3 := h2.then hc3 fun b hb e => by rw [hb2] at e; cases e; have := hcd.size; omega
      have h4 := h3.then hc4 fun b hb e => by have := hnew3 b e; have := hcd.size; omega
      exact h4.then hc5 fun b _ e => (hF b).2 (.inl e)
    · intro b hb
      rcases hb with rfl | hb
      · exact .inl ((hF _).2 (.inl rfl))
      · have := hnew4 b hb; have := hcd.size; exact .inr (by omega)
end
end Go.Proofs.Ytamejkogghpbhaa
end
section
/- The document's disk: putting one in, whatever the order of the new rows. -/
set_option linter.unusedVariables false
set_option linter.unusedSimpArgs false
namespace Go.Proofs.Ytamejkogghpbhaa
open Go.Sx
section
variable {w0 w : World} {K : World → Prop} {x room : Nat} {sv : Value} {A B : List RF} {f : RF}
/-- w0: the world ahead of the new rows; N: what is new since -/
structure RIn (w0 w : World) (x room : Nat) (sv : Value) : Prop where
  blk : w.heap[x]? = some (.cells #[i64 room, sv] ty.ref5_D (0, 0))
  chg : Chg none' w0 w
  lt : x < w0.heap.size
def fresh (w0 : World) (v : Value) : Prop := ∀ g, v.ownBlock = some g → w0.heap.size ≤ g
theorem RIn.step {S : Nat → Prop} {w' : World} (h : RIn w0 w x room sv) (hc : Chg S w w') (hS : ∀ b, S b → w0.heap.size ≤ b) : RIn w0 w' x room sv :=
  ⟨hc.keep h.blk fun e => by have := hS x e; have := h.lt; omega, h.chg.then hc fun b hb e => by have := hS b e; omega, h.lt⟩
/-- the last two appends, and the store -/
theorem ins_tail {v39 v41 v35 : Value} {chk : World → Prop → Prop} (h : RIn w0 w x room sv) (ho : Own w ty.ref5_File 3 v39 A.length (flat A)) (hf39 : fresh w0 v39) (r41 : RdN w 3 v41 1 (rcell f)) (n41 : v41.ownBlock ≠ v39.ownBlock) (hf41 : fresh w0 v41) (r35 : RdN w 3 v35 B.length (flat B)) (o35 : ∀ g, v35.ownBlock = some g → g < w0.heap.size)
    (hl : A.length + B.length ≤ 1000000)
    (hK : ∀ v w', w'.heap[x]? = some (.cells #[i64 room, v] ty.ref5_D (0, 0)) → Own w' ty.ref5_File 3 v (A ++ f :: B).length (flat (A ++ f :: B)) → fresh w0 v → Chg (· = x) w0 w' → K w') :
    xBuiltin P .append #[41, 41] 41 [false, false] [v39, v41] w fun t43 w =>
      (xLoad1 (.pointer (some ⟨x, 1, none⟩)) w fun t44 w' => w' = w ∧ t44 = sv) ∧
      xBuiltin P .append #[41, 41] 41 [false, false] [t43, v35] w fun t45 w =>
      xNil (ptr x) w fun t46 _ => xOff (some 1) t46 w fun t47 _ => xStore P 41 t47 t45 w fun _ w => K w := by
  refine append_step (size := 3) (bytes := 40) und.s_ref5_File inf.ref5_File rfl rfl rfl rfl ho r41 (by simp [rcell, Value.oneCell']) (by unfold maxLen; omega) (by omega) ?_
  intro v3 w3 ho3 hc3 hv3
  have h3 := h.step hc3 (fun b e => hf39 b e)
  have hf3 : fresh w0 v3 := by
    intro g hg
    rcases hv3 with e | e
    · rw [e] at hg; exact hf39 g hg
    · rw [e] at hg; cases hg; exact h.chg.size
  have r35' := r35.keep hc3 (fun g hg e => by have := o35 g hg; have := hf39 g e; omega)
  simp only [xs, cell_of_block h3.blk, List.getElem?_toArray, List.getElem?_cons_zero, List.getElem?_cons_succ, true_and, and_self, Nat.zero_add]
  refine append_step (size := 3) (bytes := 40) und.s_ref5_File inf.ref5_File rfl rfl rfl rfl ho3 r35' (flat_one _) (by unfold maxLen; omega) (by omega) ?_
  intro v4 w4 ho4 hc4 hv4
  have h4 := h3.step hc4 (fun b e => hf3 b e)
  have hf4 : fresh w0 v4 := by
    intro g hg
    rcases hv4 with e | e
    · rw [e] at hg; exact hf3 g hg
    · rw [e] at hg; cases hg; exact h3.chg.size
  refine store_blk inf.s_ref5_File rfl ?_ h4.blk (by simp) ?_
  · rcases ho4.2 with ⟨rfl, _⟩ | ⟨g, cap, cur, rfl, _⟩ <;> rfl
  intro w5 hb5 hc5 hs5
  have hne4 : v4.ownBlock ≠ some x := fun e => by have := hf4 x e; have := h.lt; omega
  refine hK v4 w5 (by rw [hb5]; simp) ?_ hf4 (h4.chg.of_none.then hc5 fun b _ e => e)
  have := ho4.keep hc5 (fun g hg e => hne4 (by rw [hg, e]))
  have e1 : flat A ++ rcell f ++ flat B = flat (A ++ f :: B) := by rw [flat_append, flat_cons, List.append_assoc]
  rw [e1] at this
  have e2 : A.length + 1 + B.length = (A ++ f :: B).length := by simp; omega
  rw [e2] at this
  exact this
end
end Go.Proofs.Ytamejkogghpbhaa
end
