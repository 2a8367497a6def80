/- Printed by wip/gen/gen.py: the shallow texts of some functions. -/
import Derived.Test.YtamejkogghpbhaaNames
set_option linter.unusedVariables false
namespace Go.Proofs.Ytamejkogghpbhaa
open Go.Sx

/-! sojourn/seal.Open: function 32 -/
def seal_Open_j0 (R : VCont) (v0 v6 v8 v9 v10 : Value) (w : World) : Prop :=
  xCall P nr.disk_Disk_Cut [v0, (Value.string { data := #[108, 111, 103] }), v10] w fun t16 w =>
  xOff (some 1) v9 w fun t17 w =>
  xLoad1 t17 w fun t18 w =>
  xLen P .pure #[54] t18 w fun t19 w =>
  xNil v8 w fun t20 w =>
  xOff (some 2) t20 w fun t21 w =>
  xStore P 3 t21 t19 w fun _ w =>
  Sx.dr w fun w =>
  xOff (some 1) v6 w fun t22 _ =>
  xLoad1 t22 w fun t23 w' =>
  w' = w ∧
  xOff (some 1) v9 w fun t24 _ =>
  xLoad1 t24 w fun t25 w' =>
  w' = w ∧
  R (Value.tuple #[v8, t23, t25, (Value.int IntKind.i64 0)]) w
def seal_Open_main (R : VCont) (a0 : Value) (w : World) : Prop :=
  xEq P .eql 23 false true a0 (Value.pointer none) w fun t1 w =>
  xIf t1
  (R (Value.tuple #[(Value.pointer none), (Value.slice none 0 0), (Value.slice none 0 0), (Value.int IntKind.i64 1)]) w)
  (xCall P nr.disk_Disk_Remove [a0, (Value.string { data := #[110, 101, 120, 116] })] w fun t2 w =>
  xCall P nr.seal_read [a0, (Value.string { data := #[115, 110, 97, 112] })] w fun t3 w =>
  xExtract t3 0 w fun t4 w =>
  xExtract t3 1 w fun t5 w =>
  xAlloc P 95 w fun t6 w =>
  xStore P 95 t6 t4 w fun _ w =>
  xOff (some 0) t6 w fun t7 w =>
  xLoad1 t7 w fun t8 w =>
  xMinMax P true [t8, (Value.int IntKind.i64 0)] w fun t9 w =>
  xBuild P 99 [(0, a0), (1, t9)] w fun t10 w =>
  xBox P 99 t10 w fun t11 w =>
  xCall P nr.seal_read [a0, (Value.string { data := #[108, 111, 103] })] w fun t12 w =>
  xExtract t12 0 w fun t13 w =>
  xExtract t12 1 w fun t14 w =>
  xAlloc P 95 w fun t15 w =>
  xStore P 95 t15 t13 w fun _ w =>
  Sx.dr w fun w =>
  xBin P .gtr 3 t14 (Value.int IntKind.i64 0) w fun t26 _ =>
  xWhen t26 true (fun K => xOff (some 0) t15 w K) w fun t27 _ =>
  xWhen t26 true (fun K => xLoad1 t27 w K) w fun t28 w' =>
  w' = w ∧
  xWhen t26 true (fun K => K t11 w) w fun t29 _ =>
  xWhen t26 true (fun K => xNil t29 w K) w fun t30 _ =>
  xWhen t26 true (fun K => xOff (some 1) t30 w K) w fun t31 _ =>
  xWhen t26 true (fun K => xLoad1 t31 w K) w fun t32 w' =>
  w' = w ∧
  xWhen t26 true (fun K => xEq P .neq 2 false false t28 t32 w K) w fun t33 _ =>
  xPick t26 t33 (Value.bool false) w fun t34 _ =>
  xIf t34
  (xOff (some 1) t15 w fun t35 w =>
  xStore P 54 t35 (Value.slice none 0 0) w fun _ w =>
  seal_Open_j0 R a0 t6 t11 t15 (Value.int IntKind.i64 0) w)
  (seal_Open_j0 R a0 t6 t11 t15 t14 w))
def seal_Open_os (i : Nat) : OT := cond (Nat.beq i 7) (.fl 0 (.fl 1 (.fl 2 (.fl 3 (.fl 4 (.fl 5 (.fl 6 (.fl 7 (.fl 8 (.fl 9 (.fl 10 .done))))))))))) (cond (Nat.beq i 11) (.fl 0 (.fl 1 (.fl 2 (.fl 3 (.fl 4 (.fl 5 (.fl 6 (.fl 7 (.fl 8 .done))))))))) (.no))
def seal_Open_es (R : VCont) : List Ent := [
  .join fun Xs e w => seal_Open_j0 R (e 0) (e 6) (e 8) (e 9) (e 10) w]
theorem seal_Open_ok {R : VCont} {a0 : Value} {w : World} (h : seal_Open_main R a0 w) : Calls P nr.seal_Open [a0].toArray w (Ret R) :=
  calls_of_sx (P := P) (fn := Try.f32) (Os := seal_Open_os) (Es := (seal_Open_es R)) (args := [a0]) mixed (by kernel_rfl) (by kernel_rfl) (by kernel_rfl) (by kernel_rfl) (by kernel_rfl) (by kernel_rfl) (by kernel_rfl)
    (Eq.mp (show seal_Open_main R a0 w = sxh P seal_Open_os (seal_Open_es R) [] 0 (bodyOf Try.f32) (retQ P Try.f32.results.toList R) (envOf [a0]) w by kernel_rfl) h)
theorem seal_Open_call {R : VCont} {a0 : Value} {w : World} (h : seal_Open_main R a0 w) : xCall P nr.seal_Open [a0] w R :=
  xCall_of (P := P) (fn := Try.f32) (by kernel_rfl) (by kernel_rfl) (by kernel_rfl) (seal_Open_ok h)

/-! (*sojourn/seal.Log).Put: function 35 -/
def seal_Log_Put_j1 (R : VCont) (v6 : Value) (w : World) : Prop :=
  R v6 w
def seal_Log_Put_j0 (R : VCont) (v0 v5 : Value) (w : World) : Prop :=
  xNil v0 w fun t6 w =>
  xOff (some 0) t6 w fun t7 w =>
  xLoad1 t7 w fun t8 w =>
  xCall P nr.disk_Disk_Append [t8, (Value.string { data := #[108, 111, 103] }), v5] w fun t9 w =>
  xEq P .eql 3 false true t9 (Value.int IntKind.i64 0) w fun t10 w =>
  xIf t10
  (xNil v0 w fun t11 w =>
  xOff (some 2) t11 w fun t12 w =>
  xLoad1 t12 w fun t13 w =>
  xBin P .add 3 t13 (Value.int IntKind.i64 1) w fun t14 w =>
  xNil v0 w fun t15 w =>
  xOff (some 2) t15 w fun t16 w =>
  xStore P 3 t16 t14 w fun _ w =>
  seal_Log_Put_j1 R t9 w)
  (seal_Log_Put_j1 R t9 w)
def seal_Log_Put_main (R : VCont) (a0 a1 : Value) (w : World) : Prop :=
  xEq P .eql 53 false true a0 (Value.pointer none) w fun t1 w =>
  xIf t1
  (R (Value.int IntKind.i64 1) w)
  (xCall P nr.frame_Put [a1] w fun t2 w =>
  xExtract t2 0 w fun t3 w =>
  xExtract t2 1 w fun t4 w =>
  xEq P .neq 3 false true t4 (Value.int IntKind.i64 0) w fun t5 w =>
  xIf t5
  (R t4 w)
  (xNil a0 w fun t17 w =>
  xOff (some 0) t17 w fun t18 w =>
  xLoad1 t18 w fun t19 w =>
  xCall P nr.disk_Disk_Read [t19, (Value.string { data := #[108, 111, 103] })] w fun t20 w =>
  xExtract t20 0 w fun t21 w =>
  xExtract t20 1 w fun t22 w =>
  xLen P .pure #[22] t21 w fun t23 w =>
  xEq P .eql 3 false true t23 (Value.int IntKind.i64 0) w fun t24 w =>
  xIf t24
  (xNil a0 w fun t25 w =>
  xOff (some 1) t25 w fun t26 w =>
  xLoad1 t26 w fun t27 w =>
  xCall P nr.seal_generation [t27] w fun t28 w =>
  xBuiltin P .append #[22, 22] 22 [false, false] [t28, t3] w fun t29 w =>
  seal_Log_Put_j0 R a0 t29 w)
  (seal_Log_Put_j0 R a0 t3 w)))
def seal_Log_Put_es (R : VCont) : List Ent := [
  .join fun Xs e w => seal_Log_Put_j0 R (e 0) (e 5) w,
  .join fun Xs e w => seal_Log_Put_j1 R (e 6) w]
theorem seal_Log_Put_ok {R : VCont} {a0 a1 : Value} {w : World} (h : seal_Log_Put_main R a0 a1 w) : Calls P nr.seal_Log_Put [a0, a1].toArray w (Ret R) :=
  calls_of_sx (P := P) (fn := Try.f35) (Os := (fun _ => .no)) (Es := (seal_Log_Put_es R)) (args := [a0, a1]) mixed (by kernel_rfl) (by kernel_rfl) (by kernel_rfl) (by kernel_rfl) (by kernel_rfl) (by kernel_rfl) (by kernel_rfl)
    (Eq.mp (show seal_Log_Put_main R a0 a1 w = sxh P (fun _ => .no) (seal_Log_Put_es R) [] 0 (bodyOf Try.f35) (retQ P Try.f35.results.toList R) (envOf [a0, a1]) w by kernel_rfl) h)
theorem seal_Log_Put_call {R : VCont} {a0 a1 : Value} {w : World} (h : seal_Log_Put_main R a0 a1 w) : xCall P nr.seal_Log_Put [a0, a1] w R :=
  xCall_of (P := P) (fn := Try.f35) (by kernel_rfl) (by kernel_rfl) (by kernel_rfl) (seal_Log_Put_ok h)

/-! (*sojourn/seal.Log).Sync: function 36 -/
def seal_Log_Sync_main (R : VCont) (a0 : Value) (w : World) : Prop :=
  xEq P .eql 53 false true a0 (Value.pointer none) w fun t1 w =>
  xIf t1
  (R (Value.int IntKind.i64 1) w)
  (xNil a0 w fun t2 w =>
  xOff (some 0) t2 w fun t3 w =>
  xLoad1 t3 w fun t4 w =>
  xCall P nr.disk_Disk_Sync [t4, (Value.string { data := #[108, 111, 103] })] w fun t5 w =>
  R (Value.int IntKind.i64 0) w)
theorem seal_Log_Sync_ok {R : VCont} {a0 : Value} {w : World} (h : seal_Log_Sync_main R a0 w) : Calls P nr.seal_Log_Sync [a0].toArray w (Ret R) :=
  calls_of_sx (P := P) (fn := Try.f36) (Os := (fun _ => .no)) (Es := []) (args := [a0]) mixed (by kernel_rfl) (by kernel_rfl) (by kernel_rfl) (by kernel_rfl) (by kernel_rfl) (by kernel_rfl) (by kernel_rfl)
    (Eq.mp (show seal_Log_Sync_main R a0 w = sxh P (fun _ => .no) [] [] 0 (bodyOf Try.f36) (retQ P Try.f36.results.toList R) (envOf [a0]) w by kernel_rfl) h)
theorem seal_Log_Sync_call {R : VCont} {a0 : Value} {w : World} (h : seal_Log_Sync_main R a0 w) : xCall P nr.seal_Log_Sync [a0] w R :=
  xCall_of (P := P) (fn := Try.f36) (by kernel_rfl) (by kernel_rfl) (by kernel_rfl) (seal_Log_Sync_ok h)

/-! (*sojourn/seal.Log).Save: function 37 -/
def seal_Log_Save_j0 (R : VCont) (v0 v5 : Value) (w : World) : Prop :=
  xNil v0 w fun t7 w =>
  xOff (some 0) t7 w fun t8 w =>
  xLoad1 t8 w fun t9 w =>
  xCall P nr.disk_Disk_Remove [t9, (Value.string { data := #[110, 101, 120, 116] })] w fun t10 w =>
  xNil v0 w fun t11 w =>
  xOff (some 0) t11 w fun t12 w =>
  xLoad1 t12 w fun t13 w =>
  xCall P nr.disk_Disk_Append [t13, (Value.string { data := #[110, 101, 120, 116] }), v5] w fun t14 w =>
  xEq P .neq 3 false true t14 (Value.int IntKind.i64 0) w fun t15 w =>
  xIf t15
  (xNil v0 w fun t16 w =>
  xOff (some 0) t16 w fun t17 w =>
  xLoad1 t17 w fun t18 w =>
  xCall P nr.disk_Disk_Remove [t18, (Value.string { data := #[110, 101, 120, 116] })] w fun t19 w =>
  R t14 w)
  (xNil v0 w fun t20 w =>
  xOff (some 0) t20 w fun t21 w =>
  xLoad1 t21 w fun t22 w =>
  xCall P nr.disk_Disk_Sync [t22, (Value.string { data := #[110, 101, 120, 116] })] w fun t23 w =>
  xNil v0 w fun t24 w =>
  xOff (some 0) t24 w fun t25 w =>
  xLoad1 t25 w fun t26 w =>
  xCall P nr.disk_Disk_Rename [t26, (Value.string { data := #[110, 101, 120, 116] }), (Value.string { data := #[115, 110, 97, 112] })] w fun t27 w =>
  xNil v0 w fun t28 w =>
  xOff (some 0) t28 w fun t29 w =>
  xLoad1 t29 w fun t30 w =>
  xCall P nr.disk_Disk_Cut [t30, (Value.string { data := #[108, 111, 103] }), (Value.int IntKind.i64 0)] w fun t31 w =>
  xNil v0 w fun t32 w =>
  xOff (some 1) t32 w fun t33 w =>
  xLoad1 t33 w fun t34 w =>
  xBin P .add 2 t34 (Value.int IntKind.i64 1) w fun t35 w =>
  xNil v0 w fun t36 w =>
  xOff (some 1) t36 w fun t37 w =>
  xStore P 2 t37 t35 w fun _ w =>
  xNil v0 w fun t38 w =>
  xOff (some 2) t38 w fun t39 w =>
  xStore P 3 t39 (Value.int IntKind.i64 0) w fun _ w =>
  R (Value.int IntKind.i64 0) w)
def seal_Log_Save_l1 (R : VCont) (X0 : LX) (v0 v19 v20 v5 v21 : Value) (w : World) : Prop :=
  xBin P .lss 3 v21 v20 w fun t50 w =>
  xIf t50
  (xIndexAddr P 54 v19 v21 w fun t51 w =>
  xLoad1 t51 w fun t52 w =>
  xCall P nr.frame_Put [t52] w fun t53 w =>
  xExtract t53 0 w fun t54 w =>
  xExtract t53 1 w fun t55 w =>
  xEq P .neq 3 false true t55 (Value.int IntKind.i64 0) w fun t56 w =>
  xIf t56
  (R t55 w)
  (xBuiltin P .append #[22, 22] 22 [false, false] [v5, t54] w fun t57 w =>
  xBin P .add 3 v21 (Value.int IntKind.i64 1) w fun t58 w =>
  X0 [t57, t58] w))
  (seal_Log_Save_j0 R v0 v5 w)
def seal_Log_Save_main (R : VCont) (a0 a1 : Value) (w : World) : Prop :=
  xEq P .eql 53 false true a0 (Value.pointer none) w fun t1 w =>
  xIf t1
  (R (Value.int IntKind.i64 1) w)
  (xNil a0 w fun t2 w =>
  xOff (some 1) t2 w fun t3 w =>
  xLoad1 t3 w fun t4 w =>
  xBin P .add 2 t4 (Value.int IntKind.i64 1) w fun t5 w =>
  xCall P nr.seal_generation [t5] w fun t6 w =>
  xLen P .pure #[54] a1 w fun t40 w =>
  Lp (fun X s w => seal_Log_Save_l1 R X a0 a1 t40 (s.getD 0 undef) (s.getD 1 undef) w) [t6, (Value.int IntKind.i64 0)] w)
def seal_Log_Save_es (R : VCont) : List Ent := [
  .join fun Xs e w => seal_Log_Save_j0 R (e 0) (e 5) w,
  .loop [0, 19, 20] [5, 21] fun Xs fx X s w => seal_Log_Save_l1 R X (fx.getD 0 undef) (fx.getD 1 undef) (fx.getD 2 undef) (s.getD 0 undef) (s.getD 1 undef) w]
theorem seal_Log_Save_ok {R : VCont} {a0 a1 : Value} {w : World} (h : seal_Log_Save_main R a0 a1 w) : Calls P nr.seal_Log_Save [a0, a1].toArray w (Ret R) :=
  calls_of_sx (P := P) (fn := Try.f37) (Os := (fun _ => .no)) (Es := (seal_Log_Save_es R)) (args := [a0, a1]) mixed (by kernel_rfl) (by kernel_rfl) (by kernel_rfl) (by kernel_rfl) (by kernel_rfl) (by kernel_rfl) (by kernel_rfl)
    (Eq.mp (show seal_Log_Save_main R a0 a1 w = sxh P (fun _ => .no) (seal_Log_Save_es R) [] 0 (bodyOf Try.f37) (retQ P Try.f37.results.toList R) (envOf [a0, a1]) w by kernel_rfl) h)
theorem seal_Log_Save_call {R : VCont} {a0 a1 : Value} {w : World} (h : seal_Log_Save_main R a0 a1 w) : xCall P nr.seal_Log_Save [a0, a1] w R :=
  xCall_of (P := P) (fn := Try.f37) (by kernel_rfl) (by kernel_rfl) (by kernel_rfl) (seal_Log_Save_ok h)

/-! (*sojourn/seal.Log).Len: function 40 -/
def seal_Log_Len_main (R : VCont) (a0 : Value) (w : World) : Prop :=
  xEq P .eql 53 false true a0 (Value.pointer none) w fun t1 w =>
  xIf t1
  (R (Value.int IntKind.i64 0) w)
  (xNil a0 w fun t2 w =>
  xOff (some 2) t2 w fun t3 w =>
  xLoad1 t3 w fun t4 w =>
  R t4 w)
theorem seal_Log_Len_ok {R : VCont} {a0 : Value} {w : World} (h : seal_Log_Len_main R a0 w) : Calls P nr.seal_Log_Len [a0].toArray w (Ret R) :=
  calls_of_sx (P := P) (fn := Try.f40) (Os := (fun _ => .no)) (Es := []) (args := [a0]) mixed (by kernel_rfl) (by kernel_rfl) (by kernel_rfl) (by kernel_rfl) (by kernel_rfl) (by kernel_rfl) (by kernel_rfl)
    (Eq.mp (show seal_Log_Len_main R a0 w = sxh P (fun _ => .no) [] [] 0 (bodyOf Try.f40) (retQ P Try.f40.results.toList R) (envOf [a0]) w by kernel_rfl) h)
theorem seal_Log_Len_call {R : VCont} {a0 : Value} {w : World} (h : seal_Log_Len_main R a0 w) : xCall P nr.seal_Log_Len [a0] w R :=
  xCall_of (P := P) (fn := Try.f40) (by kernel_rfl) (by kernel_rfl) (by kernel_rfl) (seal_Log_Len_ok h)

/-! sojourn/seal.read: function 54 -/
def seal_read_j0 (R : VCont) (v4 v9 v10 : Value) (w : World) : Prop :=
  xLoadN 2 v10 w fun t10 w =>
  xStore P 95 v4 t10 w fun _ w =>
  xLoadN 2 v4 w fun t11 w =>
  R (Value.tuple #[t11, v9]) w
def seal_read_main (R : VCont) (a0 a1 : Value) (w : World) : Prop :=
  xAlloc P 95 w fun t1 w =>
  xCall P nr.disk_Disk_Read [a0, a1] w fun t2 w =>
  xExtract t2 0 w fun t3 w =>
  xExtract t2 1 w fun t4 w =>
  xCall P nr.frame_Read [t3] w fun t5 w =>
  xExtract t5 0 w fun t6 w =>
  xExtract t5 1 w fun t7 w =>
  xBuild P 95 [(0, (Value.int IntKind.i64 (-1)))] w fun t8 w =>
  xAlloc P 95 w fun t9 w =>
  xStore P 95 t9 t8 w fun _ w =>
  xLen P .pure #[54] t6 w fun t12 w =>
  xBin P .gtr 3 t12 (Value.int IntKind.i64 0) w fun t13 w =>
  xIf t13
  (Sx.dr w fun w =>
  xIndexAddr P 54 t6 (Value.int IntKind.i64 0) w fun t14 _ =>
  xLoad1 t14 w fun t15 w' =>
  w' = w ∧
  xSlice P 54 t6 (some (Value.int IntKind.i64 1)) none none w fun t16 _ =>
  xCall P nr.seal_aged [t15] w fun t17 w =>
  xOff (some 0) t9 w fun t18 _ =>
  xStore P 2 t18 t17 w fun _ w =>
  xOff (some 1) t9 w fun t19 _ =>
  xStore P 54 t19 t16 w fun _ w =>
  seal_read_j0 R t1 t7 t9 w)
  (seal_read_j0 R t1 t7 t9 w)
def seal_read_os (i : Nat) : OT := cond (Nat.beq i 5) (.fl 0 (.fl 1 (.fl 2 (.fl 4 (.fl 5 (.an 3 (.fl 6 (.an 7 (.fl 8 (.an 9 .done .no)) .no)) .no)))))) (.no)
def seal_read_es (R : VCont) : List Ent := [
  .join fun Xs e w => seal_read_j0 R (e 4) (e 9) (e 10) w]
theorem seal_read_ok {R : VCont} {a0 a1 : Value} {w : World} (h : seal_read_main R a0 a1 w) : Calls P nr.seal_read [a0, a1].toArray w (Ret R) :=
  calls_of_sx (P := P) (fn := Try.f54) (Os := seal_read_os) (Es := (seal_read_es R)) (args := [a0, a1]) mixed (by kernel_rfl) (by kernel_rfl) (by kernel_rfl) (by kernel_rfl) (by kernel_rfl) (by kernel_rfl) (by kernel_rfl)
    (Eq.mp (show seal_read_main R a0 a1 w = sxh P seal_read_os (seal_read_es R) [] 0 (bodyOf Try.f54) (retQ P Try.f54.results.toList R) (envOf [a0, a1]) w by kernel_rfl) h)
theorem seal_read_call {R : VCont} {a0 a1 : Value} {w : World} (h : seal_read_main R a0 a1 w) : xCall P nr.seal_read [a0, a1] w R :=
  xCall_of (P := P) (fn := Try.f54) (by kernel_rfl) (by kernel_rfl) (by kernel_rfl) (seal_read_ok h)

/-! sojourn/seal.generation: function 56 -/
def seal_generation_main (R : VCont) (a0 : Value) (w : World) : Prop :=
  xAlloc P 114 w fun t1 w =>
  xCall P nr.pack_Writer_Int [t1, a0] w fun t2 w =>
  xCall P nr.pack_Writer_Bytes [t1] w fun t3 w =>
  xCall P nr.frame_Put [t3] w fun t4 w =>
  xExtract t4 0 w fun t5 w =>
  xExtract t4 1 w fun t6 w =>
  R t5 w
theorem seal_generation_ok {R : VCont} {a0 : Value} {w : World} (h : seal_generation_main R a0 w) : Calls P nr.seal_generation [a0].toArray w (Ret R) :=
  calls_of_sx (P := P) (fn := Try.f56) (Os := (fun _ => .no)) (Es := []) (args := [a0]) mixed (by kernel_rfl) (by kernel_rfl) (by kernel_rfl) (by kernel_rfl) (by kernel_rfl) (by kernel_rfl) (by kernel_rfl)
    (Eq.mp (show seal_generation_main R a0 w = sxh P (fun _ => .no) [] [] 0 (bodyOf Try.f56) (retQ P Try.f56.results.toList R) (envOf [a0]) w by kernel_rfl) h)
theorem seal_generation_call {R : VCont} {a0 : Value} {w : World} (h : seal_generation_main R a0 w) : xCall P nr.seal_generation [a0] w R :=
  xCall_of (P := P) (fn := Try.f56) (by kernel_rfl) (by kernel_rfl) (by kernel_rfl) (seal_generation_ok h)

/-! sojourn/seal.aged: function 65 -/
def seal_aged_main (R : VCont) (a0 : Value) (w : World) : Prop :=
  xCall P nr.pack_New [a0] w fun t1 w =>
  xCall P nr.pack_Reader_Int [t1, (Value.int IntKind.i64 0), (Value.int IntKind.i64 4611686018427387904)] w fun t2 w =>
  xCall P nr.pack_Reader_End [t1] w fun t3 w =>
  xEq P .neq 3 false true t3 (Value.int IntKind.i64 0) w fun t4 w =>
  xIf t4
  (R (Value.int IntKind.i64 (-1)) w)
  (R t2 w)
theorem seal_aged_ok {R : VCont} {a0 : Value} {w : World} (h : seal_aged_main R a0 w) : Calls P nr.seal_aged [a0].toArray w (Ret R) :=
  calls_of_sx (P := P) (fn := Try.f65) (Os := (fun _ => .no)) (Es := []) (args := [a0]) mixed (by kernel_rfl) (by kernel_rfl) (by kernel_rfl) (by kernel_rfl) (by kernel_rfl) (by kernel_rfl) (by kernel_rfl)
    (Eq.mp (show seal_aged_main R a0 w = sxh P (fun _ => .no) [] [] 0 (bodyOf Try.f65) (retQ P Try.f65.results.toList R) (envOf [a0]) w by kernel_rfl) h)
theorem seal_aged_call {R : VCont} {a0 : Value} {w : World} (h : seal_aged_main R a0 w) : xCall P nr.seal_aged [a0] w R :=
  xCall_of (P := P) (fn := Try.f65) (by kernel_rfl) (by kernel_rfl) (by kernel_rfl) (seal_aged_ok h)

end Go.Proofs.Ytamejkogghpbhaa
