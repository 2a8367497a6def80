/- Printed by wip/gen/gen.py: the shallow texts of some functions. -/
import Derived.Test.YtamejkogghpbhaaNames
set_option linter.unusedVariables false
namespace Go.Proofs.Ytamejkogghpbhaa
open Go.Sx

/-! sojourn/sojournlaw6.told: function 34 -/
def law6_told_main (R : VCont) (w : World) : Prop :=
  xCall P nr.disk_New [(Value.int IntKind.i64 1000)] w fun t1 w =>
  xExtract t1 0 w fun t2 w =>
  xExtract t1 1 w fun t3 w =>
  xEq P .neq 3 false true t3 (Value.int IntKind.i64 0) w fun t4 w =>
  xWhen t4 false (fun K => K t2 w) w fun t5 w =>
  xWhen t4 false (fun K => xEq P .eql 23 false true t5 (Value.pointer none) w K) w fun t6 w =>
  xPick t4 (Value.bool true) t6 w fun t7 w =>
  xIf t7
  (R (Value.bool false) w)
  (xCall P nr.seal_Open [t2] w fun t8 w =>
  xExtract t8 0 w fun t9 w =>
  xExtract t8 1 w fun t10 w =>
  xExtract t8 2 w fun t11 w =>
  xExtract t8 3 w fun t12 w =>
  xEq P .neq 3 false true t12 (Value.int IntKind.i64 0) w fun t13 w =>
  xWhen t13 false (fun K => K t9 w) w fun t14 w =>
  xWhen t13 false (fun K => xEq P .eql 53 false true t14 (Value.pointer none) w K) w fun t15 w =>
  xPick t13 (Value.bool true) t15 w fun t16 w =>
  xIf t16
  (R (Value.bool false) w)
  (xBuildSlice P 22 1 [(0, (Value.int IntKind.u8 97))] w fun t17 w =>
  xConvK P .more 22 22 t17 w fun t18 w =>
  xCall P nr.seal_Log_Put [t9, t18] w fun t19 w =>
  xCall P nr.seal_Log_Sync [t9] w fun t20 w =>
  xBuildSlice P 22 1 [(0, (Value.int IntKind.u8 98))] w fun t21 w =>
  xConvK P .more 22 22 t21 w fun t22 w =>
  xCall P nr.seal_Log_Put [t9, t22] w fun t23 w =>
  xCall P nr.disk_Disk_Crash [t2, (Value.int IntKind.i64 0)] w fun t24 w =>
  xCall P nr.seal_Open [t2] w fun t25 w =>
  xExtract t25 0 w fun t26 w =>
  xExtract t25 1 w fun t27 w =>
  xExtract t25 2 w fun t28 w =>
  xExtract t25 3 w fun t29 w =>
  xEq P .neq 3 false true t29 (Value.int IntKind.i64 0) w fun t30 w =>
  xWhen t30 false (fun K => K t26 w) w fun t31 w =>
  xWhen t30 false (fun K => xEq P .eql 53 false true t31 (Value.pointer none) w K) w fun t32 w =>
  xPick t30 (Value.bool true) t32 w fun t33 w =>
  xIf t33
  (R (Value.bool false) w)
  (xBuildSlice P 22 1 [(0, (Value.int IntKind.u8 83))] w fun t34 w =>
  xConvK P .more 22 22 t34 w fun t35 w =>
  xBuildSlice P 54 1 [(0, t35)] w fun t36 w =>
  xCall P nr.seal_Log_Save [t26, t36] w fun t37 w =>
  xCall P nr.seal_Open [t2] w fun t38 w =>
  xExtract t38 0 w fun t39 w =>
  xExtract t38 1 w fun t40 w =>
  xExtract t38 2 w fun t41 w =>
  xExtract t38 3 w fun t42 w =>
  xCall P nr.seal_Open [(Value.pointer none)] w fun t43 w =>
  xExtract t43 0 w fun t44 w =>
  xExtract t43 1 w fun t45 w =>
  xExtract t43 2 w fun t46 w =>
  xExtract t43 3 w fun t47 w =>
  xEq P .eql 3 false true t19 (Value.int IntKind.i64 0) w fun t48 w =>
  xWhen t48 true (fun K => K t20 w) w fun t49 w =>
  xWhen t48 true (fun K => xEq P .eql 3 false true t49 (Value.int IntKind.i64 0) w K) w fun t50 w =>
  xPick t48 t50 (Value.bool false) w fun t51 w =>
  xWhen t51 true (fun K => K t27 w) w fun t52 w =>
  xWhen t51 true (fun K => xLen P .pure #[54] t52 w K) w fun t53 w =>
  xWhen t51 true (fun K => xEq P .eql 3 false true t53 (Value.int IntKind.i64 0) w K) w fun t54 w =>
  xPick t51 t54 (Value.bool false) w fun t55 w =>
  xWhen t55 true (fun K => K t28 w) w fun t56 w =>
  xWhen t55 true (fun K => xLen P .pure #[54] t56 w K) w fun t57 w =>
  xWhen t55 true (fun K => xEq P .eql 3 false true t57 (Value.int IntKind.i64 1) w K) w fun t58 w =>
  xPick t55 t58 (Value.bool false) w fun t59 w =>
  xWhen t59 true (fun K => K t28 w) w fun t60 w =>
  xWhen t59 true (fun K => xIndexAddr P 54 t60 (Value.int IntKind.i64 0) w K) w fun t61 w =>
  xWhen t59 true (fun K => xLoad1 t61 w K) w fun t62 w =>
  xWhen t59 true (fun K => xConvK P .read 22 9 t62 w K) w fun t63 w =>
  xWhen t59 true (fun K => xEq P .eql 9 false true t63 (Value.string { data := #[97] }) w K) w fun t64 w =>
  xPick t59 t64 (Value.bool false) w fun t65 w =>
  xWhen t65 true (fun K => K t37 w) w fun t66 w =>
  xWhen t65 true (fun K => xEq P .eql 3 false true t66 (Value.int IntKind.i64 0) w K) w fun t67 w =>
  xPick t65 t67 (Value.bool false) w fun t68 w =>
  xWhen t68 true (fun K => K t42 w) w fun t69 w =>
  xWhen t68 true (fun K => xEq P .eql 3 false true t69 (Value.int IntKind.i64 0) w K) w fun t70 w =>
  xPick t68 t70 (Value.bool false) w fun t71 w =>
  xWhen t71 true (fun K => K t39 w) w fun t72 w =>
  xWhen t71 true (fun K => xEq P .neq 53 false true t72 (Value.pointer none) w K) w fun t73 w =>
  xPick t71 t73 (Value.bool false) w fun t74 w =>
  xWhen t74 true (fun K => K t40 w) w fun t75 w =>
  xWhen t74 true (fun K => xLen P .pure #[54] t75 w K) w fun t76 w =>
  xWhen t74 true (fun K => xEq P .eql 3 false true t76 (Value.int IntKind.i64 1) w K) w fun t77 w =>
  xPick t74 t77 (Value.bool false) w fun t78 w =>
  xWhen t78 true (fun K => K t40 w) w fun t79 w =>
  xWhen t78 true (fun K => xIndexAddr P 54 t79 (Value.int IntKind.i64 0) w K) w fun t80 w =>
  xWhen t78 true (fun K => xLoad1 t80 w K) w fun t81 w =>
  xWhen t78 true (fun K => xConvK P .read 22 9 t81 w K) w fun t82 w =>
  xWhen t78 true (fun K => xEq P .eql 9 false true t82 (Value.string { data := #[83] }) w K) w fun t83 w =>
  xPick t78 t83 (Value.bool false) w fun t84 w =>
  xWhen t84 true (fun K => K t41 w) w fun t85 w =>
  xWhen t84 true (fun K => xLen P .pure #[54] t85 w K) w fun t86 w =>
  xWhen t84 true (fun K => xEq P .eql 3 false true t86 (Value.int IntKind.i64 0) w K) w fun t87 w =>
  xPick t84 t87 (Value.bool false) w fun t88 w =>
  xWhen t88 true (fun K => K t47 w) w fun t89 w =>
  xWhen t88 true (fun K => xEq P .eql 3 false true t89 (Value.int IntKind.i64 1) w K) w fun t90 w =>
  xPick t88 t90 (Value.bool false) w fun t91 w =>
  xWhen t91 true (fun K => K t9 w) w fun t92 w =>
  xWhen t91 true (fun K => xCall P nr.seal_Log_Put [t92, (Value.slice none 0 0)] w K) w fun t93 w =>
  xWhen t91 true (fun K => xEq P .eql 3 false true t93 (Value.int IntKind.i64 1) w K) w fun t94 w =>
  xPick t91 t94 (Value.bool false) w fun t95 w =>
  R t95 w)))
theorem law6_told_ok {R : VCont} {w : World} (h : law6_told_main R w) : Calls P nr.law6_told [].toArray w (Ret R) :=
  calls_of_sx (P := P) (fn := Try.f34) (Os := (fun _ => .no)) (Es := []) (args := []) mixed (by kernel_rfl) (by kernel_rfl) (by kernel_rfl) (by kernel_rfl) (by kernel_rfl) (by kernel_rfl) (by kernel_rfl)
    (Eq.mp (show law6_told_main R w = sxh P (fun _ => .no) [] [] 0 (bodyOf Try.f34) (retQ P Try.f34.results.toList R) (envOf []) w by kernel_rfl) h)
theorem law6_told_call {R : VCont} {w : World} (h : law6_told_main R w) : xCall P nr.law6_told [] w R :=
  xCall_of (P := P) (fn := Try.f34) (by kernel_rfl) (by kernel_rfl) (by kernel_rfl) (law6_told_ok h)

/-! sojourn/sojournlaw6.few: function 33 -/
def law6_few_j0 (R : VCont) (w : World) : Prop :=
  R (Value.bool true) w
def law6_few_l1 (R : VCont) (X0 : LX) (v1 v3 : Value) (w : World) : Prop :=
  xOff (some 3) v1 w fun t22 w =>
  xLoad1 t22 w fun t23 w =>
  xLen P .pure #[54] t23 w fun t24 w =>
  xBin P .lss 3 v3 t24 w fun t25 w =>
  xIf t25
  (xOff (some 3) v1 w fun t26 w =>
  xLoad1 t26 w fun t27 w =>
  xIndexAddr P 54 t27 v3 w fun t28 w =>
  xLoad1 t28 w fun t29 w =>
  xLen P .pure #[22] t29 w fun t30 w =>
  xBin P .gtr 3 t30 (Value.int IntKind.i64 100) w fun t31 w =>
  xIf t31
  (R (Value.bool false) w)
  (xBin P .add 3 v3 (Value.int IntKind.i64 1) w fun t32 w =>
  X0 [t32] w))
  (law6_few_j0 R w)
def law6_few_main (R : VCont) (a0 : Value) (w : World) : Prop :=
  xBox P 58 a0 w fun t1 w =>
  xOff (some 2) t1 w fun t2 w =>
  xLoad1 t2 w fun t3 w =>
  xLen P .pure #[22] t3 w fun t4 w =>
  xBin P .gtr 3 t4 (Value.int IntKind.i64 100) w fun t5 w =>
  xWhen t5 false (fun K => xOff (some 3) t1 w K) w fun t6 w =>
  xWhen t5 false (fun K => xLoad1 t6 w K) w fun t7 w =>
  xWhen t5 false (fun K => xLen P .pure #[54] t7 w K) w fun t8 w =>
  xWhen t5 false (fun K => xBin P .gtr 3 t8 (Value.int IntKind.i64 6) w K) w fun t9 w =>
  xPick t5 (Value.bool true) t9 w fun t10 w =>
  xIf t10
  (R (Value.bool false) w)
  (Lp (fun X s w => law6_few_l1 R X t1 (s.getD 0 undef) w) [(Value.int IntKind.i64 0)] w)
def law6_few_es (R : VCont) : List Ent := [
  .join fun Xs e w => law6_few_j0 R  w,
  .loop [1] [3] fun Xs fx X s w => law6_few_l1 R X (fx.getD 0 undef) (s.getD 0 undef) w]
theorem law6_few_ok {R : VCont} {a0 : Value} {w : World} (h : law6_few_main R a0 w) : Calls P nr.law6_few [a0].toArray w (Ret R) :=
  calls_of_sx (P := P) (fn := Try.f33) (Os := (fun _ => .no)) (Es := (law6_few_es R)) (args := [a0]) mixed (by kernel_rfl) (by kernel_rfl) (by kernel_rfl) (by kernel_rfl) (by kernel_rfl) (by kernel_rfl) (by kernel_rfl)
    (Eq.mp (show law6_few_main R a0 w = sxh P (fun _ => .no) (law6_few_es R) [] 0 (bodyOf Try.f33) (retQ P Try.f33.results.toList R) (envOf [a0]) w by kernel_rfl) h)
theorem law6_few_call {R : VCont} {a0 : Value} {w : World} (h : law6_few_main R a0 w) : xCall P nr.law6_few [a0] w R :=
  xCall_of (P := P) (fn := Try.f33) (by kernel_rfl) (by kernel_rfl) (by kernel_rfl) (law6_few_ok h)

/-! sojourn/sojournlaw6.texts: function 38 -/
def law6_texts_j0 (R : VCont) (v3 : Value) (w : World) : Prop :=
  R v3 w
def law6_texts_l1 (R : VCont) (X0 : LX) (v0 v3 v4 : Value) (w : World) : Prop :=
  xLen P .pure #[54] v0 w fun t9 w =>
  xBin P .lss 3 v4 t9 w fun t10 w =>
  xIf t10
  (xIndexAddr P 54 v0 v4 w fun t11 w =>
  xLoad1 t11 w fun t12 w =>
  xConvK P .read 22 9 t12 w fun t13 w =>
  xBuildSlice P 34 1 [(0, t13)] w fun t14 w =>
  xBuiltin P .append #[34, 34] 34 [false, false] [v3, t14] w fun t15 w =>
  xBin P .add 3 v4 (Value.int IntKind.i64 1) w fun t16 w =>
  X0 [t15, t16] w)
  (law6_texts_j0 R v3 w)
def law6_texts_main (R : VCont) (a0 : Value) (w : World) : Prop :=
  Lp (fun X s w => law6_texts_l1 R X a0 (s.getD 0 undef) (s.getD 1 undef) w) [(Value.slice none 0 0), (Value.int IntKind.i64 0)] w
def law6_texts_es (R : VCont) : List Ent := [
  .join fun Xs e w => law6_texts_j0 R (e 3) w,
  .loop [0] [3, 4] fun Xs fx X s w => law6_texts_l1 R X (fx.getD 0 undef) (s.getD 0 undef) (s.getD 1 undef) w]
theorem law6_texts_ok {R : VCont} {a0 : Value} {w : World} (h : law6_texts_main R a0 w) : Calls P nr.law6_texts [a0].toArray w (Ret R) :=
  calls_of_sx (P := P) (fn := Try.f38) (Os := (fun _ => .no)) (Es := (law6_texts_es R)) (args := [a0]) mixed (by kernel_rfl) (by kernel_rfl) (by kernel_rfl) (by kernel_rfl) (by kernel_rfl) (by kernel_rfl) (by kernel_rfl)
    (Eq.mp (show law6_texts_main R a0 w = sxh P (fun _ => .no) (law6_texts_es R) [] 0 (bodyOf Try.f38) (retQ P Try.f38.results.toList R) (envOf [a0]) w by kernel_rfl) h)
theorem law6_texts_call {R : VCont} {a0 : Value} {w : World} (h : law6_texts_main R a0 w) : xCall P nr.law6_texts [a0] w R :=
  xCall_of (P := P) (fn := Try.f38) (by kernel_rfl) (by kernel_rfl) (by kernel_rfl) (law6_texts_ok h)

/-! sojourn/sojournlaw4.Texts: function 39 -/
def law4_Texts_j0 (R : VCont) (w : World) : Prop :=
  R (Value.bool true) w
def law4_Texts_l1 (R : VCont) (X0 : LX) (v0 v1 v5 : Value) (w : World) : Prop :=
  xLen P .pure #[54] v0 w fun t13 w =>
  xBin P .lss 3 v5 t13 w fun t14 w =>
  xIf t14
  (Sx.dr w fun w =>
  xIndexAddr P 54 v0 v5 w fun t15 _ =>
  xLoad1 t15 w fun t16 w' =>
  w' = w ∧
  xConvK P .read 22 9 t16 w fun t17 w' =>
  w' = w ∧
  xIndexAddr P 34 v1 v5 w fun t18 _ =>
  xLoad1 t18 w fun t19 w' =>
  w' = w ∧
  xEq P .neq 9 false false t17 t19 w fun t20 _ =>
  xIf t20
  (R (Value.bool false) w)
  (xBin P .add 3 v5 (Value.int IntKind.i64 1) w fun t21 w =>
  X0 [t21] w))
  (law4_Texts_j0 R w)
def law4_Texts_main (R : VCont) (a0 a1 : Value) (w : World) : Prop :=
  xLen P .pure #[54] a0 w fun t1 w =>
  xLen P .pure #[34] a1 w fun t2 w =>
  xEq P .neq 3 false false t1 t2 w fun t3 w =>
  xIf t3
  (R (Value.bool false) w)
  (Lp (fun X s w => law4_Texts_l1 R X a0 a1 (s.getD 0 undef) w) [(Value.int IntKind.i64 0)] w)
def law4_Texts_os (i : Nat) : OT := cond (Nat.beq i 6) (.fl 0 (.fl 1 (.fl 2 (.fl 3 (.fl 4 (.fl 5 (.fl 6 (.fl 7 (.fl 8 (.fl 9 .done)))))))))) (.no)
def law4_Texts_es (R : VCont) : List Ent := [
  .join fun Xs e w => law4_Texts_j0 R  w,
  .loop [0, 1] [5] fun Xs fx X s w => law4_Texts_l1 R X (fx.getD 0 undef) (fx.getD 1 undef) (s.getD 0 undef) w]
theorem law4_Texts_ok {R : VCont} {a0 a1 : Value} {w : World} (h : law4_Texts_main R a0 a1 w) : Calls P nr.law4_Texts [a0, a1].toArray w (Ret R) :=
  calls_of_sx (P := P) (fn := Try.f39) (Os := law4_Texts_os) (Es := (law4_Texts_es R)) (args := [a0, a1]) mixed (by kernel_rfl) (by kernel_rfl) (by kernel_rfl) (by kernel_rfl) (by kernel_rfl) (by kernel_rfl) (by kernel_rfl)
    (Eq.mp (show law4_Texts_main R a0 a1 w = sxh P law4_Texts_os (law4_Texts_es R) [] 0 (bodyOf Try.f39) (retQ P Try.f39.results.toList R) (envOf [a0, a1]) w by kernel_rfl) h)
theorem law4_Texts_call {R : VCont} {a0 a1 : Value} {w : World} (h : law4_Texts_main R a0 a1 w) : xCall P nr.law4_Texts [a0, a1] w R :=
  xCall_of (P := P) (fn := Try.f39) (by kernel_rfl) (by kernel_rfl) (by kernel_rfl) (law4_Texts_ok h)

/-! sojourn/sojournlaw6.at: function 45 -/
def law6_at_j0 (R : VCont) (w : World) : Prop :=
  R (Value.int IntKind.i64 0) w
def law6_at_l1 (R : VCont) (X0 : LX) (v0 v1 v5 : Value) (w : World) : Prop :=
  xNil v0 w fun t14 w =>
  xOff (some 1) t14 w fun t15 w =>
  xLoad1 t15 w fun t16 w =>
  xLen P .pure #[41] t16 w fun t17 w =>
  xBin P .lss 3 v5 t17 w fun t18 w =>
  xIf t18
  (xNil v0 w fun t19 w =>
  xOff (some 1) t19 w fun t20 w =>
  xLoad1 t20 w fun t21 w =>
  xIndexAddr P 41 t21 v5 w fun t22 w =>
  xOff (some 0) t22 w fun t23 w =>
  xLoad1 t23 w fun t24 w =>
  xEq P .eql 9 false false t24 v1 w fun t25 w =>
  xIf t25
  (R v5 w)
  (xBin P .add 3 v5 (Value.int IntKind.i64 1) w fun t26 w =>
  X0 [t26] w))
  (law6_at_j0 R w)
def law6_at_main (R : VCont) (a0 a1 : Value) (w : World) : Prop :=
  Lp (fun X s w => law6_at_l1 R X a0 a1 (s.getD 0 undef) w) [(Value.int IntKind.i64 0)] w
def law6_at_es (R : VCont) : List Ent := [
  .join fun Xs e w => law6_at_j0 R  w,
  .loop [0, 1] [5] fun Xs fx X s w => law6_at_l1 R X (fx.getD 0 undef) (fx.getD 1 undef) (s.getD 0 undef) w]
theorem law6_at_ok {R : VCont} {a0 a1 : Value} {w : World} (h : law6_at_main R a0 a1 w) : Calls P nr.law6_at [a0, a1].toArray w (Ret R) :=
  calls_of_sx (P := P) (fn := Try.f45) (Os := (fun _ => .no)) (Es := (law6_at_es R)) (args := [a0, a1]) mixed (by kernel_rfl) (by kernel_rfl) (by kernel_rfl) (by kernel_rfl) (by kernel_rfl) (by kernel_rfl) (by kernel_rfl)
    (Eq.mp (show law6_at_main R a0 a1 w = sxh P (fun _ => .no) (law6_at_es R) [] 0 (bodyOf Try.f45) (retQ P Try.f45.results.toList R) (envOf [a0, a1]) w by kernel_rfl) h)
theorem law6_at_call {R : VCont} {a0 a1 : Value} {w : World} (h : law6_at_main R a0 a1 w) : xCall P nr.law6_at [a0, a1] w R :=
  xCall_of (P := P) (fn := Try.f45) (by kernel_rfl) (by kernel_rfl) (by kernel_rfl) (law6_at_ok h)

end Go.Proofs.Ytamejkogghpbhaa
