import Derived.Test.YtamejkogghpbhaaMg10
import Derived.Test.YtamejkogghpbhaaMg14
import Derived.Test.YtamejkogghpbhaaMg17
section
/- Printed by wip/gen/gen.py: the shallow texts of some functions. -/
set_option linter.unusedVariables false
namespace Go.Proofs.Ytamejkogghpbhaa
open Go.Sx

/-! sojourn/seal.Open: function 32 -/
def seal_Open_j0 (R : VCont) (v0 v6 v8 v9 v10 : Value) (w : World) : Prop :=
  xCall P nr.disk_Disk_Cut [v0, (Value.string { data := #[108, 111, 103] }), v10] w fun t16 w =>
  xOff (some 1) v9 w fun t17 w =>
  xLoad1 t17 w fun t18 w =>
  xLen P .pure #[54] t18 w fun t19 w =>
  xNil v8 w fun t20 w =>
  xOff (some 2) t20 w fun t21 w =>
  xStore P 3 t21 t19 w fun _ w =>
  Sx.dr w fun w =>
  xOff (some 1) v6 w fun t22 _ =>
  xLoad1 t22 w fun t23 w' =>
  w' = w ∧
  xOff (some 1) v9 w fun t24 _ =>
  xLoad1 t24 w fun t25 w' =>
  w' = w ∧
  R (Value.tuple #[v8, t23, t25, (Value.int IntKind.i64 0)]) w
def seal_Open_main (R : VCont) (a0 : Value) (w : World) : Prop :=
  xEq P .eql 23 false true a0 (Value.pointer none) w fun t1 w =>
  xIf t1
  (R (Value.tuple #[(Value.pointer none), (Value.slice none 0 0), (Value.slice none 0 0), (Value.int IntKind.i64 1)]) w)
  (xCall P nr.disk_Disk_Remove [a0, (Value.string { data := #[110, 101, 120, 116] })] w fun t2 w =>
  xCall P nr.seal_read [a0, (Value.string { data := #[115, 110, 97, 112] })] w fun t3 w =>
  xExtract t3 0 w fun t4 w =>
  xExtract t3 1 w fun t5 w =>
  xAlloc P 95 w fun t6 w =>
  xStore P 95 t6 t4 w fun _ w =>
  xOff (some 0) t6 w fun t7 w =>
  xLoad1 t7 w fun t8 w =>
  xMinMax P true [t8, (Value.int IntKind.i64 0)] w fun t9 w =>
  xBuild P 99 [(0, a0), (1, t9)] w fun t10 w =>
  xBox P 99 t10 w fun t11 w =>
  xCall P nr.seal_read [a0, (Value.string { data := #[108, 111, 103] })] w fun t12 w =>
  xExtract t12 0 w fun t13 w =>
  xExtract t12 1 w fun t14 w =>
  xAlloc P 95 w fun t15 w =>
  xStore P 95 t15 t13 w fun _ w =>
  Sx.dr w fun w =>
  xBin P .gtr 3 t14 (Value.int IntKind.i64 0) w fun t26 _ =>
  xWhen t26 true (fun K => xOff (some 0) t15 w K) w fun t27 _ =>
  xWhen t26 true (fun K => xLoad1 t27 w K) w fun t28 w' =>
  w' = w ∧
  xWhen t26 true (fun K => K t11 w) w fun t29 _ =>
  xWhen t26 true (fun K => xNil t29 w K) w fun t30 _ =>
  xWhen t26 true (fun K => xOff (some 1) t30 w K) w fun t31 _ =>
  xWhen t26 true (fun K => xLoad1 t31 w K) w fun t32 w' =>
  w' = w ∧
  xWhen t26 true (fun K => xEq P .neq 2 false false t28 t32 w K) w fun t33 _ =>
  xPick t26 t33 (Value.bool false) w fun t34 _ =>
  xIf t34
  (xOff (some 1) t15 w fun t35 w =>
  xStore P 54 t35 (Value.slice none 0 0) w fun _ w =>
  seal_Open_j0 R a0 t6 t11 t15 (Value.int IntKind.i64 0) w)
  (seal_Open_j0 R a0 t6 t11 t15 t14 w))
def seal_Open_os (i : Nat) : OT := cond (Nat.beq i 7) (.fl 0 (.fl 1 (.fl 2 (.fl 3 (.fl 4 (.fl 5 (.fl 6 (.fl 7 (.fl 8 (.fl 9 (.fl 10 .done))))))))))) (cond (Nat.beq i 11) (.fl 0 (.fl 1 (.fl 2 (.fl 3 (.fl 4 (.fl 5 (.fl 6 (.fl 7 (.fl 8 .done))))))))) (.no))
def seal_Open_es (R : VCont) : List Ent := [
  .join fun Xs e w => seal_Open_j0 R (e 0) (e 6) (e 8) (e 9) (e 10) w]
theorem seal_Open_ok {R : VCont} {a0 : Value} {w : World} (h : seal_Open_main R a0 w) : Calls P nr.seal_Open [a0].toArray w (Ret R) :=
  calls_of_sx (P := P) (fn := Try.f32) (Os := seal_Open_os) (Es := (seal_Open_es R)) (args := [a0]) mixed (by kernel_rfl) (by kernel_rfl) (by kernel_rfl) (by kernel_rfl) (by kernel_rfl) (by kernel_rfl) (by kernel_rfl)
    (Eq.mp (show seal_Open_main R a0 w = sxh P seal_Open_os (seal_Open_es R) [] 0 (bodyOf Try.f32) (retQ P Try.f32.results.toList R) (envOf [a0]) w by kernel_rfl) h)
theorem seal_Open_call {R : VCont} {a0 : Value} {w : World} (h : seal_Open_main R a0 w) : xCall P nr.seal_Open [a0] w R :=
  xCall_of (P := P) (fn := Try.f32) (by kernel_rfl) (by kernel_rfl) (by kernel_rfl) (seal_Open_ok h)

/-! (*sojourn/seal.Log).Put: function 35 -/
def seal_Log_Put_j1 (R : VCont) (v6 : Value) (w : World) : Prop :=
  R v6 w
def seal_Log_Put_j0 (R : VCont) (v0 v5 : Value) (w : World) : Prop :=
  xNil v0 w fun t6 w =>
  xOff (some 0) t6 w fun t7 w =>
  xLoad1 t7 w fun t8 w =>
  xCall P nr.disk_Disk_Append [t8, (Value.string { data := #[108, 111, 103] }), v5] w fun t9 w =>
  xEq P .eql 3 false true t9 (Value.int IntKind.i64 0) w fun t10 w =>
  xIf t10
  (xNil v0 w fun t11 w =>
  xOff (some 2) t11 w fun t12 w =>
  xLoad1 t12 w fun t13 w =>
  xBin P .add 3 t13 (Value.int IntKind.i64 1) w fun t14 w =>
  xNil v0 w fun t15 w =>
  xOff (some 2) t15 w fun t16 w =>
  xStore P 3 t16 t14 w fun _ w =>
  seal_Log_Put_j1 R t9 w)
  (seal_Log_Put_j1 R t9 w)
def seal_Log_Put_main (R : VCont) (a0 a1 : Value) (w : World) : Prop :=
  xEq P .eql 53 false true a0 (Value.pointer none) w fun t1 w =>
  xIf t1
  (R (Value.int IntKind.i64 1) w)
  (xCall P nr.frame_Put [a1] w fun t2 w =>
  xExtract t2 0 w fun t3 w =>
  xExtract t2 1 w fun t4 w =>
  xEq P .neq 3 false true t4 (Value.int IntKind.i64 0) w fun t5 w =>
  xIf t5
  (R t4 w)
  (xNil a0 w fun t17 w =>
  xOff (some 0) t17 w fun t18 w =>
  xLoad1 t18 w fun t19 w =>
  xCall P nr.disk_Disk_Read [t19, (Value.string { data := #[108, 111, 103] })] w fun t20 w =>
  xExtract t20 0 w fun t21 w =>
  xExtract t20 1 w fun t22 w =>
  xLen P .pure #[22] t21 w fun t23 w =>
  xEq P .eql 3 false true t23 (Value.int IntKind.i64 0) w fun t24 w =>
  xIf t24
  (xNil a0 w fun t25 w =>
  xOff (some 1) t25 w fun t26 w =>
  xLoad1 t26 w fun t27 w =>
  xCall P nr.seal_generation [t27] w fun t28 w =>
  xBuiltin P .append #[22, 22] 22 [false, false] [t28, t3] w fun t29 w =>
  seal_Log_Put_j0 R a0 t29 w)
  (seal_Log_Put_j0 R a0 t3 w)))
def seal_Log_Put_es (R : VCont) : List Ent := [
  .join fun Xs e w => seal_Log_Put_j0 R (e 0) (e 5) w,
  .join fun Xs e w => seal_Log_Put_j1 R (e 6) w]
theorem seal_Log_Put_ok {R : VCont} {a0 a1 : Value} {w : World} (h : seal_Log_Put_main R a0 a1 w) : Calls P nr.seal_Log_Put [a0, a1].toArray w (Ret R) :=
  calls_of_sx (P := P) (fn := Try.f35) (Os := (fun _ => .no)) (Es := (seal_Log_Put_es R)) (args := [a0, a1]) mixed (by kernel_rfl) (by kernel_rfl) (by kernel_rfl) (by kernel_rfl) (by kernel_rfl) (by kernel_rfl) (by kernel_rfl)
    (Eq.mp (show seal_Log_Put_main R a0 a1 w = sxh P (fun _ => .no) (seal_Log_Put_es R) [] 0 (bodyOf Try.f35) (retQ P Try.f35.results.toList R) (envOf [a0, a1]) w by kernel_rfl) h)
theorem seal_Log_Put_call {R : VCont} {a0 a1 : Value} {w : World} (h : seal_Log_Put_main R a0 a1 w) : xCall P nr.seal_Log_Put [a0, a1] w R :=
  xCall_of (P := P) (fn := Try.f35) (by kernel_rfl) (by kernel_rfl) (by kernel_rfl) (seal_Log_Put_ok h)

/-! (*sojourn/seal.Log).Sync: function 36 -/
def seal_Log_Sync_main (R : VCont) (a0 : Value) (w : World) : Prop :=
  xEq P .eql 53 false true a0 (Value.pointer none) w fun t1 w =>
  xIf t1
  (R (Value.int IntKind.i64 1) w)
  (xNil a0 w fun t2 w =>
  xOff (some 0) t2 w fun t3 w =>
  xLoad1 t3 w fun t4 w =>
  xCall P nr.disk_Disk_Sync [t4, (Value.string { data := #[108, 111, 103] })] w fun t5 w =>
  R (Value.int IntKind.i64 0) w)
theorem seal_Log_Sync_ok {R : VCont} {a0 : Value} {w : World} (h : seal_Log_Sync_main R a0 w) : Calls P nr.seal_Log_Sync [a0].toArray w (Ret R) :=
  calls_of_sx (P := P) (fn := Try.f36) (Os := (fun _ => .no)) (Es := []) (args := [a0]) mixed (by kernel_rfl) (by kernel_rfl) (by kernel_rfl) (by kernel_rfl) (by kernel_rfl) (by kernel_rfl) (by kernel_rfl)
    (Eq.mp (show seal_Log_Sync_main R a0 w = sxh P (fun _ => .no) [] [] 0 (bodyOf Try.f36) (retQ P Try.f36.results.toList R) (envOf [a0]) w by kernel_rfl) h)
theorem seal_Log_Sync_call {R : VCont} {a0 : Value} {w : World} (h : seal_Log_Sync_main R a0 w) : xCall P nr.seal_Log_Sync [a0] w R :=
  xCall_of (P := P) (fn := Try.f36) (by kernel_rfl) (by kernel_rfl) (by kernel_rfl) (seal_Log_Sync_ok h)

/-! (*sojourn/seal.Log).Save: function 37 -/
def seal_Log_Save_j0 (R : VCont) (v0 v5 : Value) (w : World) : Prop :=
  xNil v0 w fun t7 w =>
  xOff (some 0) t7 w fun t8 w =>
  xLoad1 t8 w fun t9 w =>
  xCall P nr.disk_Disk_Remove [t9, (Value.string { data := #[110, 101, 120, 116] })] w fun t10 w =>
  xNil v0 w fun t11 w =>
  xOff (some 0) t11 w fun t12 w =>
  xLoad1 t12 w fun t13 w =>
  xCall P nr.disk_Disk_Append [t13, (Value.string { data := #[110, 101, 120, 116] }), v5] w fun t14 w =>
  xEq P .neq 3 false true t14 (Value.int IntKind.i64 0) w fun t15 w =>
  xIf t15
  (xNil v0 w fun t16 w =>
  xOff (some 0) t16 w fun t17 w =>
  xLoad1 t17 w fun t18 w =>
  xCall P nr.disk_Disk_Remove [t18, (Value.string { data := #[110, 101, 120, 116] })] w fun t19 w =>
  R t14 w)
  (xNil v0 w fun t20 w =>
  xOff (some 0) t20 w fun t21 w =>
  xLoad1 t21 w fun t22 w =>
  xCall P nr.disk_Disk_Sync [t22, (Value.string { data := #[110, 101, 120, 116] })] w fun t23 w =>
  xNil v0 w fun t24 w =>
  xOff (some 0) t24 w fun t25 w =>
  xLoad1 t25 w fun t26 w =>
  xCall P nr.disk_Disk_Rename [t26, (Value.string { data := #[110, 101, 120, 116] }), (Value.string { data := #[115, 110, 97, 112] })] w fun t27 w =>
  xNil v0 w fun t28 w =>
  xOff (some 0) t28 w fun t29 w =>
  xLoad1 t29 w fun t30 w =>
  xCall P nr.disk_Disk_Cut [t30, (Value.string { data := #[108, 111, 103] }), (Value.int IntKind.i64 0)] w fun t31 w =>
  xNil v0 w fun t32 w =>
  xOff (some 1) t32 w fun t33 w =>
  xLoad1 t33 w fun t34 w =>
  xBin P .add 2 t34 (Value.int IntKind.i64 1) w fun t35 w =>
  xNil v0 w fun t36 w =>
  xOff (some 1) t36 w fun t37 w =>
  xStore P 2 t37 t35 w fun _ w =>
  xNil v0 w fun t38 w =>
  xOff (some 2) t38 w fun t39 w =>
  xStore P 3 t39 (Value.int IntKind.i64 0) w fun _ w =>
  R (Value.int IntKind.i64 0) w)
def seal_Log_Save_l1 (R : VCont) (X0 : LX) (v0 v19 v20 v5 v21 : Value) (w : World) : Prop :=
  xBin P .lss 3 v21 v20 w fun t50 w =>
  xIf t50
  (xIndexAddr P 54 v19 v21 w fun t51 w =>
  xLoad1 t51 w fun t52 w =>
  xCall P nr.frame_Put [t52] w fun t53 w =>
  xExtract t53 0 w fun t54 w =>
  xExtract t53 1 w fun t55 w =>
  xEq P .neq 3 false true t55 (Value.int IntKind.i64 0) w fun t56 w =>
  xIf t56
  (R t55 w)
  (xBuiltin P .append #[22, 22] 22 [false, false] [v5, t54] w fun t57 w =>
  xBin P .add 3 v21 (Value.int IntKind.i64 1) w fun t58 w =>
  X0 [t57, t58] w))
  (seal_Log_Save_j0 R v0 v5 w)
def seal_Log_Save_main (R : VCont) (a0 a1 : Value) (w : World) : Prop :=
  xEq P .eql 53 false true a0 (Value.pointer none) w fun t1 w =>
  xIf t1
  (R (Value.int IntKind.i64 1) w)
  (xNil a0 w fun t2 w =>
  xOff (some 1) t2 w fun t3 w =>
  xLoad1 t3 w fun t4 w =>
  xBin P .add 2 t4 (Value.int IntKind.i64 1) w fun t5 w =>
  xCall P nr.seal_generation [t5] w fun t6 w =>
  xLen P .pure #[54] a1 w fun t40 w =>
  Lp (fun X s w => seal_Log_Save_l1 R X a0 a1 t40 (s.getD 0 undef) (s.getD 1 undef) w) [t6, (Value.int IntKind.i64 0)] w)
def seal_Log_Save_es (R : VCont) : List Ent := [
  .join fun Xs e w => seal_Log_Save_j0 R (e 0) (e 5) w,
  .loop [0, 19, 20] [5, 21] fun Xs fx X s w => seal_Log_Save_l1 R X (fx.getD 0 undef) (fx.getD 1 undef) (fx.getD 2 undef) (s.getD 0 undef) (s.getD 1 undef) w]
theorem seal_Log_Save_ok {R : VCont} {a0 a1 : Value} {w : World} (h : seal_Log_Save_main R a0 a1 w) : Calls P nr.seal_Log_Save [a0, a1].toArray w (Ret R) :=
  calls_of_sx (P := P) (fn := Try.f37) (Os := (fun _ => .no)) (Es := (seal_Log_Save_es R)) (args := [a0, a1]) mixed (by kernel_rfl) (by kernel_rfl) (by kernel_rfl) (by kernel_rfl) (by kernel_rfl) (by kernel_rfl) (by kernel_rfl)
    (Eq.mp (show seal_Log_Save_main R a0 a1 w = sxh P (fun _ => .no) (seal_Log_Save_es R) [] 0 (bodyOf Try.f37) (retQ P Try.f37.results.toList R) (envOf [a0, a1]) w by kernel_rfl) h)
theorem seal_Log_Save_call {R : VCont} {a0 a1 : Value} {w : World} (h : seal_Log_Save_main R a0 a1 w) : xCall P nr.seal_Log_Save [a0, a1] w R :=
  xCall_of (P := P) (fn := Try.f37) (by kernel_rfl) (by kernel_rfl) (by kernel_rfl) (seal_Log_Save_ok h)

/-! (*sojourn/seal.Log).Len: function 40 -/
def seal_Log_Len_main (R : VCont) (a0 : Value) (w : World) : Prop :=
  xEq P .eql 53 false true a0 (Value.pointer none) w fun t1 w =>
  xIf t1
  (R (Value.int IntKind.i64 0) w)
  (xNil a0 w fun t2 w =>
  xOff (some 2) t2 w fun t3 w =>
  xLoad1 t3 w fun t4 w =>
  R t4 w)
theorem seal_Log_Len_ok {R : VCont} {a0 : Value} {w : World} (h : seal_Log_Len_main R a0 w) : Calls P nr.seal_Log_Len [a0].toArray w (Ret R) :=
  calls_of_sx (P := P) (fn := Try.f40) (Os := (fun _ => .no)) (Es := []) (args := [a0]) mixed (by kernel_rfl) (by kernel_rfl) (by kernel_rfl) (by kernel_rfl) (by kernel_rfl) (by kernel_rfl) (by kernel_rfl)
    (Eq.mp (show seal_Log_Len_main R a0 w = sxh P (fun _ => .no) [] [] 0 (bodyOf Try.f40) (retQ P Try.f40.results.toList R) (envOf [a0]) w by kernel_rfl) h)
theorem seal_Log_Len_call {R : VCont} {a0 : Value} {w : World} (h : seal_Log_Len_main R a0 w) : xCall P nr.seal_Log_Len [a0] w R :=
  xCall_of (P := P) (fn := Try.f40) (by kernel_rfl) (by kernel_rfl) (by kernel_rfl) (seal_Log_Len_ok h)

/-! sojourn/seal.read: function 54 -/
def seal_read_j0 (R : VCont) (v4 v9 v10 : Value) (w : World) : Prop :=
  xLoadN 2 v10 w fun t10 w =>
  xStore P 95 v4 t10 w fun _ w =>
  xLoadN 2 v4 w fun t11 w =>
  R (Value.tuple #[t11, v9]) w
def seal_read_main (R : VCont) (a0 a1 : Value) (w : World) : Prop :=
  xAlloc P 95 w fun t1 w =>
  xCall P nr.disk_Disk_Read [a0, a1] w fun t2 w =>
  xExtract t2 0 w fun t3 w =>
  xExtract t2 1 w fun t4 w =>
  xCall P nr.frame_Read [t3] w fun t5 w =>
  xExtract t5 0 w fun t6 w =>
  xExtract t5 1 w fun t7 w =>
  xBuild P 95 [(0, (Value.int IntKind.i64 (-1)))] w fun t8 w =>
  xAlloc P 95 w fun t9 w =>
  xStore P 95 t9 t8 w fun _ w =>
  xLen P .pure #[54] t6 w fun t12 w =>
  xBin P .gtr 3 t12 (Value.int IntKind.i64 0) w fun t13 w =>
  xIf t13
  (Sx.dr w fun w =>
  xIndexAddr P 54 t6 (Value.int IntKind.i64 0) w fun t14 _ =>
  xLoad1 t14 w fun t15 w' =>
  w' = w ∧
  xSlice P 54 t6 (some (Value.int IntKind.i64 1)) none none w fun t16 _ =>
  xCall P nr.seal_aged [t15] w fun t17 w =>
  xOff (some 0) t9 w fun t18 _ =>
  xStore P 2 t18 t17 w fun _ w =>
  xOff (some 1) t9 w fun t19 _ =>
  xStore P 54 t19 t16 w fun _ w =>
  seal_read_j0 R t1 t7 t9 w)
  (seal_read_j0 R t1 t7 t9 w)
def seal_read_os (i : Nat) : OT := cond (Nat.beq i 5) (.fl 0 (.fl 1 (.fl 2 (.fl 4 (.fl 5 (.an 3 (.fl 6 (.an 7 (.fl 8 (.an 9 .done .no)) .no)) .no)))))) (.no)
def seal_read_es (R : VCont) : List Ent := [
  .join fun Xs e w => seal_read_j0 R (e 4) (e 9) (e 10) w]
theorem seal_read_ok {R : VCont} {a0 a1 : Value} {w : World} (h : seal_read_main R a0 a1 w) : Calls P nr.seal_read [a0, a1].toArray w (Ret R) :=
  calls_of_sx (P := P) (fn := Try.f54) (Os := seal_read_os) (Es := (seal_read_es R)) (args := [a0, a1]) mixed (by kernel_rfl) (by kernel_rfl) (by kernel_rfl) (by kernel_rfl) (by kernel_rfl) (by kernel_rfl) (by kernel_rfl)
    (Eq.mp (show seal_read_main R a0 a1 w = sxh P seal_read_os (seal_read_es R) [] 0 (bodyOf Try.f54) (retQ P Try.f54.results.toList R) (envOf [a0, a1]) w by kernel_rfl) h)
theorem seal_read_call {R : VCont} {a0 a1 : Value} {w : World} (h : seal_read_main R a0 a1 w) : xCall P nr.seal_read [a0, a1] w R :=
  xCall_of (P := P) (fn := Try.f54) (by kernel_rfl) (by kernel_rfl) (by kernel_rfl) (seal_read_ok h)

/-! sojourn/seal.generation: function 56 -/
def seal_generation_main (R : VCont) (a0 : Value) (w : World) : Prop :=
  xAlloc P 114 w fun t1 w =>
  xCall P nr.pack_Writer_Int [t1, a0] w fun t2 w =>
  xCall P nr.pack_Writer_Bytes [t1] w fun t3 w =>
  xCall P nr.frame_Put [t3] w fun t4 w =>
  xExtract t4 0 w fun t5 w =>
  xExtract t4 1 w fun t6 w =>
  R t5 w
theorem seal_generation_ok {R : VCont} {a0 : Value} {w : World} (h : seal_generation_main R a0 w) : Calls P nr.seal_generation [a0].toArray w (Ret R) :=
  calls_of_sx (P := P) (fn := Try.f56) (Os := (fun _ => .no)) (Es := []) (args := [a0]) mixed (by kernel_rfl) (by kernel_rfl) (by kernel_rfl) (by kernel_rfl) (by kernel_rfl) (by kernel_rfl) (by kernel_rfl)
    (Eq.mp (show seal_generation_main R a0 w = sxh P (fun _ => .no) [] [] 0 (bodyOf Try.f56) (retQ P Try.f56.results.toList R) (envOf [a0]) w by kernel_rfl) h)
theorem seal_generation_call {R : VCont} {a0 : Value} {w : World} (h : seal_generation_main R a0 w) : xCall P nr.seal_generation [a0] w R :=
  xCall_of (P := P) (fn := Try.f56) (by kernel_rfl) (by kernel_rfl) (by kernel_rfl) (seal_generation_ok h)

/-! sojourn/seal.aged: function 65 -/
def seal_aged_main (R : VCont) (a0 : Value) (w : World) : Prop :=
  xCall P nr.pack_New [a0] w fun t1 w =>
  xCall P nr.pack_Reader_Int [t1, (Value.int IntKind.i64 0), (Value.int IntKind.i64 4611686018427387904)] w fun t2 w =>
  xCall P nr.pack_Reader_End [t1] w fun t3 w =>
  xEq P .neq 3 false true t3 (Value.int IntKind.i64 0) w fun t4 w =>
  xIf t4
  (R (Value.int IntKind.i64 (-1)) w)
  (R t2 w)
theorem seal_aged_ok {R : VCont} {a0 : Value} {w : World} (h : seal_aged_main R a0 w) : Calls P nr.seal_aged [a0].toArray w (Ret R) :=
  calls_of_sx (P := P) (fn := Try.f65) (Os := (fun _ => .no)) (Es := []) (args := [a0]) mixed (by kernel_rfl) (by kernel_rfl) (by kernel_rfl) (by kernel_rfl) (by kernel_rfl) (by kernel_rfl) (by kernel_rfl)
    (Eq.mp (show seal_aged_main R a0 w = sxh P (fun _ => .no) [] [] 0 (bodyOf Try.f65) (retQ P Try.f65.results.toList R) (envOf [a0]) w by kernel_rfl) h)
theorem seal_aged_call {R : VCont} {a0 : Value} {w : World} (h : seal_aged_main R a0 w) : xCall P nr.seal_aged [a0] w R :=
  xCall_of (P := P) (fn := Try.f65) (by kernel_rfl) (by kernel_rfl) (by kernel_rfl) (seal_aged_ok h)

end Go.Proofs.Ytamejkogghpbhaa
end
section
/- A log on a disk: its functions. -/
set_option linter.unusedVariables false
set_option linter.unusedSimpArgs false
namespace Go.Proofs.Ytamejkogghpbhaa
open Go.Sx
abbrev nsnap : ByteArray := ⟨#[115, 110, 97, 112]⟩
abbrev nlog : ByteArray := ⟨#[108, 111, 103]⟩
abbrev nnext : ByteArray := ⟨#[110, 101, 120, 116]⟩
def genf (age : Int) : List UInt8 := frame (vint (zig age))
/-- what a file has; nothing, if there is none -/
def acont (D : Ab) (a : ByteArray) : List UInt8 := ((aget D a).map (·.1)).getD []
/-- what a file keeps -/
inductive Keeps (c : List UInt8) : Int → List (List UInt8) → Nat → Prop where
  | no : unf (c.length + 1) c = [] → Keeps c (-1) [] 0
  | is {a : Int} {rows : List (List UInt8)} : unf (c.length + 1) c = vint (zig a) :: rows → 0 ≤ a → a ≤ 4611686018427387904 → Keeps c a rows (frames (vint (zig a) :: rows)).length
def LogA (p d : Nat) (age : Int) (n : Nat) : Asn := BlkA p ty.seal_Log [ptr d, i64 age, i64 n]
section
variable {w : World} {K : VCont} {l : List Asn} {d room : Nat} {D : Ab}
theorem fits_vint (n : Nat) : fits (vint n) := by have := vint_len n; exact ⟨by omega, by omega⟩
theorem generation_hp (h : Hp w l) (age : Int) (h0 : 0 ≤ age) (h1 : age ≤ 9223372036854775807) (hK : ∀ v w', Hp w' (SlA ty.uint8 1 v (genf age).length ((genf age).map bv) :: l) → K v w') : xCall P nr.seal_generation [i64 age] w K := by
  refine seal_generation_call ?_
  unfold seal_generation_main
  refine Writer_new h ?_
  intro p w1 h
  refine Writer_Int_hp h age h0 h1 (by simp) ?_
  intro w2 h
  rw [List.nil_append] at h
  have hvl := vint_len (zig age)
  refine Writer_Bytes_hp h (by omega) ?_
  intro v w3 h
  refine frame_Put_hp h h.own.rd (by omega) (fun hn => absurd (fits_vint _) hn) ?_
  intro _ v2 w4 h hc
  simp only [xs]
  exact hK v2 w4 (h.pick1.tail.pick1.tail)
theorem aged_hp {v : Value} (h : Hp w l) (a : Int) (h0 : 0 ≤ a) (h1 : a ≤ 4611686018427387904) (hr : Rd w v ((vint (zig a)).map bv)) (hK : ∀ w', Hp w' l → K (i64 a) w') : xCall P nr.seal_aged [v] w K := by
  refine seal_aged_call ?_
  unfold seal_aged_main
  have hvl := vint_len (zig a)
  refine pack_New_hp h hr (by omega) ?_
  intro p w1 h
  refine Reader_Int_hp (rest := []) (by rw [List.append_nil]; exact h) (by rw [List.append_nil]; omega) h0 (by omega) h0 h1 ?_
  intro w2 h
  refine Reader_End_hp h ?_
  simp only [if_true, xs, xb, xd]
  exact hK w2 h.tail
theorem build_kept : xBuild P ty.seal_kept_s_byte [(0, .int .i64 (-1))] w K = K (.agg #[i64 (-1), .slice none 0 0]) w := by
  unfold xBuild
  exact xp_iff fun w' => by kernel_rfl
/-- the end of 'read' -/
theorem seal_read_j0_hp {b4 b10 e : Nat} {age : Int} {v z0 z1 : Value} (h : Hp w (BlkA b10 ty.seal_kept_s_byte [i64 age, v] :: BlkA b4 ty.seal_kept_s_byte [z0, z1] :: l)) (hv : v.oneCell' = true)
    (hK : ∀ w', Hp w' l → K (.tuple #[.agg #[i64 age, v], i64 e]) w') : seal_read_j0 K (ptr b4) (i64 e) (ptr b10) w := by
  unfold seal_read_j0
  rw [xLoadN_blk (n := 2) h rfl]
  refine Hp.stN (n := 2) (new := [i64 age, v]) h.pick1 inf.seal_kept_s_byte rfl rfl rfl (by intro u hu; simp only [List.mem_cons, List.not_mem_nil, or_false] at hu; rcases hu with rfl | rfl; rfl; exact hv) (by simp) ?_
  intro w1 h
  rw [xLoadN_blk (n := 2) (cs := [i64 age, v]) h rfl]
  exact hK w1 h.tail.tail
theorem seal_read_hp (h : Hp w (DiskA d room D :: l)) (a : ByteArray) {age : Int} {rows : List (List UInt8)} {e : Nat} (hk : Keeps (acont D a) age rows e)
    (hK : ∀ v w', Hp w' (RoA (fun w => RdBs w v rows) :: DiskA d room D :: l) → v.oneCell' = true → K (.tuple #[.agg #[i64 age, v], i64 e]) w') : xCall P nr.seal_read [ptr d, .string a] w K := by
  refine seal_read_call ?_
  unfold seal_read_main
  refine Hp.alloc (cs := [i64 0, .slice none 0 0]) h inf.seal_kept_s_byte rfl rfl ?_
  intro b4 w1 h
  have hfit : (acont D a).length ≤ 1000000 := by
    obtain ⟨F, hF⟩ : ∃ F, Disk w1 d room D F := h.pick1.head
    have h1 := hF.fits
    unfold acont
    cases hg : aget D a with
    | none => simp
    | some x =>
      have := aget_some_mem hg
      have h2 : x.1.length ≤ aused D := by
        obtain ⟨D1, D2, rfl⟩ := List.append_of_mem this
        simp only [aused, List.map_append, List.map_cons, List.sum_append, List.sum_cons]
        omega
      simp only [Option.map_some, Option.getD_some]
      omega
  -- what is read, and behind
  have go : ∀ (v : Value) (w2 : World) (q : World → Prop) (code : Int), Hp w2 (RoA q :: BlkA b4 ty.seal_kept_s_byte [i64 0, .slice none 0 0] :: DiskA d room D :: l) → (∀ w, q w → Rd w v ((acont D a).map bv)) →
      (xCall P nr.frame_Read [v] w2 fun t5 w => xExtract t5 0 w fun t6 w => xExtract t5 1 w fun t7 w => xBuild P ty.seal_kept_s_byte [(0, .int .i64 (-1))] w fun t8 w => xAlloc P ty.seal_kept_s_byte w fun t9 w =>
        xStore P ty.seal_kept_s_byte t9 t8 w fun _ w => xLen P .pure #[ty.s_s_uint8] t6 w fun t12 w => xBin P .gtr ty.int t12 (.int .i64 0) w fun t13 w => xIf t13
          (Sx.dr w fun w => xIndexAddr P ty.s_s_uint8 t6 (.int .i64 0) w fun t14 _ => xLoad1 t14 w fun t15 w' => w' = w ∧ xSlice P ty.s_s_uint8 t6 (some (.int .i64 1)) none none w fun t16 _ => xCall P nr.seal_aged [t15] w fun t17 w =>
            xOff (some 0) t9 w fun t18 _ => xStore P ty.int64 t18 t17 w fun _ w => xOff (some 1) t9 w fun t19 _ => xStore P ty.s_s_uint8 t19 t16 w fun _ w => seal_read_j0 K (ptr b4) t7 t9 w)
          (seal_read_j0 K (ptr b4) t7 t9 w)) := by
    intro v w2 q code h hq
    refine frame_Read_hp h hq (by omega) ?_
    intro vr w3 h
    simp only [xs, build_kept]
    refine Hp.alloc (cs := [i64 0, .slice none 0 0]) h inf.seal_kept_s_byte rfl rfl ?_
    intro b9 w4 h
    refine Hp.stN (n := 2) (new := [i64 (-1), .slice none 0 0]) h inf.seal_kept_s_byte rfl rfl rfl (by simp [Value.oneCell']) (by simp) ?_
    intro w5 h
    replace h : Hp w5 (BlkA b9 ty.seal_kept_s_byte [i64 (-1), .slice none 0 0] :: BsA vr (unf ((acont D a).length + 1) (acont D a)) :: RoA q :: BlkA b4 ty.seal_kept_s_byte [i64 0, .slice none 0 0] :: DiskA d room D :: l) := h
    obtain ⟨vs, h⟩ := BsA.op.1 h.pick1
    have h := h.ofSl.roAnd
    have hb := h.ro
    have hvl := hb.2.1
    simp only [rd_len hb.1.rd und.s_s_uint8, xb]
    cases hk with
    | no hu =>
      have hng : ¬ (0 : Int) < (vs.length : Int) := by rw [hvl, hu]; simp
      simp only [hng, xs, xb, xd]
      have hend : frames (unf ((acont D a).length + 1) (acont D a)) = [] := by rw [hu]; rfl
      rw [hend]
      refine seal_read_j0_hp (e := 0) (h.pick3.pick2) rfl ?_
      intro w6 h
      exact hK _ w6 (Hp.roTrue h.tail.tail fun w => ⟨[], ⟨none, 0, rfl, Nat.le_refl _, rfl⟩, RdL.nil w⟩) rfl
    | is hu h0 h1 =>
      have hpos : (0 : Int) < (vs.length : Int) := by rw [hvl, hu]; simp
      have hv0 : vs[0]? = some (vs[0]'(by omega)) := List.getElem?_eq_getElem (by omega)
      obtain ⟨p0, i0, q0⟩ := at_rd' und.s_s_uint8 inf.s_uint8 rfl hb.1.rd hv0
      obtain ⟨v', ex, hv'⟩ := tail_rd (P := P) und.s_s_uint8 inf.s_uint8 rfl hb.1.rd (lo := 1) (by omega)
      have i0' : ∀ (w2 : World) (C : VCont), xIndexAddr P ty.s_s_uint8 vr (.int .i64 0) w2 C = C (.pointer (some p0)) w2 := i0
      have ex' : ∀ (w2 : World) (C : VCont), xSlice P ty.s_s_uint8 vr (some (.int .i64 1)) none none w2 C = C v' w2 := ex
      have hd := h.drew
      simp only [hpos, xs, xb, xd, i0', ex', q0 _ hd.ro.1.rd, true_and]
      have hrd0 := hd.ro.2.2 0 _ (vint (zig age)) hv0 (by rw [hu]; rfl)
      refine aged_hp hd age h0 h1 hrd0 ?_
      intro w6 h
      simp only [xs, Nat.zero_add]
      have hv1 : v'.oneCell' = true := by obtain ⟨_, _, rfl, _⟩ := hv' _ h.ro.1.rd; rfl
      refine Hp.st h.pick1 inf.int64 rfl rfl (by simp) ?_
      intro w7 h
      refine Hp.st h inf.s_s_uint8 rfl hv1 (by simp) ?_
      intro w8 h
      have hend : frames (unf ((acont D a).length + 1) (acont D a)) = frames (vint (zig age) :: rows) := by rw [hu]
      rw [hend]
      refine seal_read_j0_hp (b10 := b9) (age := age) (v := v') (h.pick3.pick1) hv1 ?_
      intro w9 h
      refine hK _ w9 ((h.roMono (q := fun w => RdBs w v' rows) fun w hw => ⟨vs.drop 1, hv' w hw.1.rd, ?_⟩).pick1.tail) hv1
      have := hw.2.drop 1
      rw [hu] at this
      exact this
  cases hg : aget D a with
  | none =>
    refine Read_hp h.pick1 a (fun _ => ?_) (fun x hx => by rw [hg] at hx; cases hx)
    simp only [xs]
    refine go _ w1 (fun w => True) 5 (Hp.roTrue h fun _ => trivial) (fun w _ => ?_)
    have : acont D a = [] := by unfold acont; rw [hg]; rfl
    rw [this]
    exact ⟨none, 0, rfl, Nat.le_refl _, rfl⟩
  | some x =>
    refine Read_hp h.pick1 a (fun e => by rw [hg] at e; cases e) (fun y hy v w2 h => ?_)
    simp only [xs]
    rw [hg] at hy; cases hy
    have : acont D a = x.1 := by unfold acont; rw [hg]; rfl
    exact go v w2 _ 0 (SlA.ro h).pick2.pick1 (fun w hw => by rw [this]; exact hw)
end
end Go.Proofs.Ytamejkogghpbhaa
end
section
/- A log on a disk: Open, Put, Sync, Save, Len. -/
set_option linter.unusedVariables false
set_option linter.unusedSimpArgs false
namespace Go.Proofs.Ytamejkogghpbhaa
open Go.Sx
def lopen (D : Ab) (er : Nat) : Ab := (acut (adel D nnext).1 nlog er).1
def lapp (room : Nat) (D : Ab) (age : Int) (b : List UInt8) : Ab × Int := aapp room D nlog (if acont D nlog = [] then genf age ++ frame b else frame b)
def lsave (room : Nat) (D : Ab) (age : Int) (S : List (List UInt8)) : Ab × Int :=
  let D2 := aapp room (adel D nnext).1 nnext (genf (age + 1) ++ frames S)
  if D2.2 = 0 then ((acut (aren (async D2.1 nnext).1 nnext nsnap).1 nlog 0).1, 0) else ((adel D2.1 nnext).1, D2.2)
theorem adel_len (D : Ab) (a : ByteArray) : (adel D a).1.length ≤ D.length := by
  unfold adel; split
  · exact Nat.le_refl _
  · unfold arem; exact List.length_filter_le _ _
theorem async_len (D : Ab) (a : ByteArray) : (async D a).1.length = D.length := by
  unfold async; split <;> simp [aset_length]
theorem acut_len (D : Ab) (a : ByteArray) (n : Int) : (acut D a n).1.length = D.length := by
  unfold acut; split
  · rfl
  · split <;> simp [aset_length]
theorem aapp_len (room : Nat) (D : Ab) (a : ByteArray) (b : List UInt8) : (aapp room D a b).1.length ≤ D.length + 1 := by
  unfold aapp
  split
  · split
    · simp
    · simp only [aput_length]; split <;> omega
  · simp
theorem aren_len (D : Ab) (a c : ByteArray) : (aren D a c).1.length ≤ D.length + 1 := by
  unfold aren
  split
  · simp
  · split
    · simp only [aput_length]
      have : (arem D a).length ≤ D.length := by unfold arem; exact List.length_filter_le _ _
      split <;> omega
    · simp
theorem acont_adel (D : Ab) (a b : ByteArray) (h : a ≠ b) : acont (adel D a).1 b = acont D b := by
  unfold adel acont
  split
  · rfl
  · rw [aget_arem, if_neg h]
theorem keeps_fits {c : List UInt8} {a : Int} {r : List (List UInt8)} {e : Nat} (h : Keeps c a r e) : -1 ≤ a ∧ a ≤ 4611686018427387904 ∧ (e = 0 ↔ a = -1) ∧ (a = -1 → r = []) := by
  cases h with
  | no h => exact ⟨by omega, by omega, by simp, fun _ => rfl⟩
  | is h h0 h1 =>
    refine ⟨by omega, h1, ?_, fun e => by omega⟩
    rw [frames_cons, List.length_append, frame_len]
    constructor <;> intro _ <;> omega
section
variable {w : World} {K : VCont} {l : List Asn} {d room p n : Nat} {D : Ab} {age : Int}
theorem build_Log (a b : Value) (ha : ∃ x, a = .pointer x) (hb : ∃ x, b = .int .i64 x) : xBuild P ty.seal_Log [(0, a), (1, b)] w K = K (.agg #[a, b, i64 0]) w := by
  obtain ⟨x, rfl⟩ := ha
  obtain ⟨y, rfl⟩ := hb
  unfold xBuild
  exact xp_iff fun w' => by kernel_rfl
/-- the end of Open -/
theorem seal_Open_j0_hp {b6 b9 e : Nat} {a1 a2 : Int} {vs vr : Value} {R : List (List UInt8)} (h : Hp w (BlkA p ty.seal_Log [ptr d, i64 age, i64 0] :: BlkA b9 ty.seal_kept_s_byte [i64 a2, vr] :: BlkA b6 ty.seal_kept_s_byte [i64 a1, vs] :: DiskA d room D :: l))
    (hlen : ∀ (w : World) (K : VCont), xLen P .pure #[ty.s_s_uint8] vr w K = K (i64 R.length) w) (hR : R.length ≤ 1000000000)
    (hK : ∀ w', Hp w' (LogA p d age R.length :: DiskA d room (acut D nlog e).1 :: l) → K (.tuple #[ptr p, vs, vr, i64 0]) w') : seal_Open_j0 K (ptr d) (ptr b6) (ptr p) (ptr b9) (i64 e) w := by
  unfold seal_Open_j0
  refine Cut_hp h.pick3 _ _ ?_
  intro w1 h
  simp only [xs, Nat.zero_add, h.c2, List.getElem?_cons_zero, List.getElem?_cons_succ, hlen]
  refine Hp.st h.pick1 inf.int rfl rfl (by simp) ?_
  intro w2 h
  have h := h.drew
  simp only [xs, Nat.zero_add, h.c2, h.c3, List.getElem?_cons_zero, List.getElem?_cons_succ, true_and]
  exact hK _ (h.pick3.tail.pick2.tail)
theorem seal_Open_hp (h : Hp w (DiskA d room D :: l)) {a1 a2 : Int} {S R : List (List UInt8)} {es er : Nat} (hs : Keeps (acont D nsnap) a1 S es) (hr : Keeps (acont D nlog) a2 R er) (hR : R.length ≤ 1000000000)
    (hK : ∀ p vs vr w' R' e', (R', e') = (if a2 = -1 ∨ a2 = max a1 0 then (R, er) else ([], 0)) → Hp w' (LogA p d (max a1 0) R'.length :: RoA (fun w => RdBs w vs S) :: RoA (fun w => RdBs w vr R') :: DiskA d room (lopen D e') :: l) → K (.tuple #[ptr p, vs, vr, i64 0]) w') :
    xCall P nr.seal_Open [ptr d] w K := by
  refine seal_Open_call ?_
  unfold seal_Open_main
  rw [xEq_ptr und.p_disk_Disk]
  simp only [xs, xd, Option.isNone_some]
  obtain ⟨f1, f2, f3, f4⟩ := keeps_fits hs
  obtain ⟨g1, g2, g3, g4⟩ := keeps_fits hr
  refine Remove_hp h _ ?_
  intro w1 h
  refine seal_read_hp h nsnap (by rw [acont_adel _ _ _ (by decide)]; exact hs) ?_
  intro vs w2 h hvs
  simp only [xs]
  refine Hp.alloc (cs := [i64 0, .slice none 0 0]) h inf.seal_kept_s_byte rfl rfl ?_
  intro b6 w3 h
  refine Hp.stN (n := 2) (new := [i64 a1, vs]) h inf.seal_kept_s_byte rfl rfl rfl (by intro u hu; simp only [List.mem_cons, List.not_mem_nil, or_false] at hu; rcases hu with rfl | rfl; rfl; exact hvs) (by simp) ?_
  intro w4 h
  replace h : Hp w4 (BlkA b6 ty.seal_kept_s_byte [i64 a1, vs] :: RoA (fun w => RdBs w vs S) :: DiskA d room (adel D nnext).1 :: l) := h
  simp only [xs, xb, Nat.zero_add, h.c0, List.getElem?_cons_zero, List.getElem?_cons_succ]
  rw [build_Log _ _ ⟨_, rfl⟩ ⟨_, rfl⟩]
  refine Hp.box h (cs := [ptr d, i64 (max a1 0), i64 0]) rfl ?_
  intro p w5 h
  refine seal_read_hp h.pick3 nlog (by rw [acont_adel _ _ _ (by decide)]; exact hr) ?_
  intro vr w6 h hvr
  simp only [xs]
  refine Hp.alloc (cs := [i64 0, .slice none 0 0]) h inf.seal_kept_s_byte rfl rfl ?_
  intro b9 w7 h
  refine Hp.stN (n := 2) (new := [i64 a2, vr]) h inf.seal_kept_s_byte rfl rfl rfl (by intro u hu; simp only [List.mem_cons, List.not_mem_nil, or_false] at hu; rcases hu with rfl | rfl; rfl; exact hvr) (by simp) ?_
  intro w8 h
  replace h : Hp w8 (BlkA b9 ty.seal_kept_s_byte [i64 a2, vr] :: RoA (fun w => RdBs w vr R) :: DiskA d room (adel D nnext).1 :: BlkA p ty.seal_Log [ptr d, i64 (max a1 0), i64 0] :: BlkA b6 ty.seal_kept_s_byte [i64 a1, vs] :: RoA (fun w => RdBs w vs S) :: l) := h
  have h := h.drew
  simp only [xs, xb]
  -- in order: p, b9, b6, disk, ro vr, ro vs
  have ord : ∀ {w : World} {v : Value}, Hp w (BlkA b9 ty.seal_kept_s_byte [i64 a2, v] :: RoA (fun w => RdBs w vr R) :: DiskA d room (adel D nnext).1 :: BlkA p ty.seal_Log [ptr d, i64 (max a1 0), i64 0] :: BlkA b6 ty.seal_kept_s_byte [i64 a1, vs] :: RoA (fun w => RdBs w vs S) :: l) →
      Hp w (BlkA p ty.seal_Log [ptr d, i64 (max a1 0), i64 0] :: BlkA b9 ty.seal_kept_s_byte [i64 a2, v] :: BlkA b6 ty.seal_kept_s_byte [i64 a1, vs] :: DiskA d room (adel D nnext).1 :: RoA (fun w => RdBs w vr R) :: RoA (fun w => RdBs w vs S) :: l) :=
    fun h => h.pick1.pick2.pick4.pick3.pick4
  have fin : ∀ (v : Value) (R' : List (List UInt8)) (e' : Nat) (w : World), (R', e') = (if a2 = -1 ∨ a2 = max a1 0 then (R, er) else ([], 0)) → (v = vr ∧ R' = R ∨ v = .slice none 0 0 ∧ R' = []) →
      Hp w (BlkA b9 ty.seal_kept_s_byte [i64 a2, v] :: RoA (fun w => RdBs w vr R) :: DiskA d room (adel D nnext).1 :: BlkA p ty.seal_Log [ptr d, i64 (max a1 0), i64 0] :: BlkA b6 ty.seal_kept_s_byte [i64 a1, vs] :: RoA (fun w => RdBs w vs S) :: l) →
      seal_Open_j0 K (ptr d) (ptr b6) (ptr p) (ptr b9) (i64 e') w := by
    intro v R' e' w he hv h
    have h1 := ord h
    have hrd : RdBs w v R' := by
      rcases hv with ⟨rfl, rfl⟩ | ⟨rfl, rfl⟩
      · exact h1.pick4.ro
      · exact ⟨[], ⟨none, 0, rfl, Nat.le_refl _, rfl⟩, RdL.nil w⟩
    have hR' : R'.length ≤ 1000000000 := by rcases hv with ⟨_, rfl⟩ | ⟨_, rfl⟩ <;> simp [hR]
    refine seal_Open_j0_hp (R := R') h1 (fun w K => hrd.len und.s_s_uint8 w K) hR' ?_
    intro w2 h
    refine hK p vs v w2 R' e' he ?_
    -- log, disk, ro vr, ro vs, l
    have h2 : Hp w2 (RoA (fun w => RdBs w v R') :: LogA p d (max a1 0) R'.length :: DiskA d room (acut (adel D nnext).1 nlog e').1 :: RoA (fun w => RdBs w vs S) :: l) := by
      rcases hv with ⟨rfl, rfl⟩ | ⟨rfl, rfl⟩
      · exact h.pick2
      · exact Hp.roTrue h.pick2.tail fun w => ⟨[], ⟨none, 0, rfl, Nat.le_refl _, rfl⟩, RdL.nil w⟩
    exact h2.pick3.pick2
  by_cases he : (0 : Int) < (er : Int)
  · have hne : a2 ≠ -1 := fun e => by have := g3.2 e; omega
    simp only [he, xs, xb, xd, Nat.zero_add, h.c0, h.c3, List.getElem?_cons_zero, List.getElem?_cons_succ, true_and]
    by_cases ha : a2 = max a1 0
    · simp only [ha, xs, xb, xd]
      exact fin vr R er _ (by rw [if_pos (.inr ha)]) (.inl ⟨rfl, rfl⟩) (ha ▸ h)
    · simp only [ha, xs, xb, xd]
      refine Hp.st h inf.s_s_uint8 rfl rfl (by simp) ?_
      intro w9 h
      exact fin (.slice none 0 0) [] 0 _ (by rw [if_neg (by simp [hne, ha])]) (.inr ⟨rfl, rfl⟩) h
  · have hne : a2 = -1 := g3.1 (by omega)
    simp only [he, xs, xb, xd, true_and]
    exact fin vr R er _ (by rw [if_pos (.inl hne)]) (.inl ⟨rfl, rfl⟩) h
theorem seal_Sync_hp (h : Hp w (LogA p d age n :: DiskA d room D :: l)) (hK : ∀ w', Hp w' (LogA p d age n :: DiskA d room (async D nlog).1 :: l) → K (i64 0) w') : xCall P nr.seal_Log_Sync [ptr p] w K := by
  refine seal_Log_Sync_call ?_
  unfold seal_Log_Sync_main
  have hb : Hp w (BlkA p ty.seal_Log [ptr d, i64 age, i64 n] :: DiskA d room D :: l) := h
  rw [xEq_ptr und.p_seal_Log]
  simp only [xs, xd, Option.isNone_some, Nat.zero_add, hb.c0, List.getElem?_cons_zero]
  refine Sync_hp h.pick1 _ ?_
  intro w1 h
  exact hK w1 h.pick1
theorem seal_Len_hp (h : Hp w (LogA p d age n :: l)) (hK : K (i64 n) w) : xCall P nr.seal_Log_Len [ptr p] w K := by
  refine seal_Log_Len_call ?_
  unfold seal_Log_Len_main
  have hb : Hp w (BlkA p ty.seal_Log [ptr d, i64 age, i64 n] :: l) := h
  rw [xEq_ptr und.p_seal_Log]
  simp only [xs, xd, Option.isNone_some, Nat.zero_add, hb.c0, List.getElem?_cons_zero, List.getElem?_cons_succ]
  exact hK
end
end Go.Proofs.Ytamejkogghpbhaa
end
section
/- A log on a disk: Put, Save. -/
set_option linter.unusedVariables false
set_option linter.unusedSimpArgs false
namespace Go.Proofs.Ytamejkogghpbhaa
open Go.Sx
def lput (room : Nat) (D : Ab) (age : Int) (n : Nat) (b : List UInt8) : Ab × Nat × Int :=
  if fits b then ((lapp room D age b).1, (if (lapp room D age b).2 = 0 then n + 1 else n), (lapp room D age b).2) else (D, n, 1)
theorem genf_len (age : Int) : 7 ≤ (genf age).length ∧ (genf age).length ≤ 16 := by
  have := vint_len (zig age)
  unfold genf; rw [frame_len]; omega
section
variable {w : World} {K : VCont} {l : List Asn} {d room p n : Nat} {D : Ab} {age : Int}
theorem seal_Put_j0_hp {f : List UInt8} {v : Value} (h : Hp w (SlA ty.uint8 1 v f.length (f.map bv) :: LogA p d age n :: DiskA d room D :: l)) (hD : D.length ≤ 1000000) (hf : f.length ≤ 1000000) (hn : n ≤ 1000000000)
    (hK : ∀ w', Hp w' (LogA p d age (if (aapp room D nlog f).2 = 0 then n + 1 else n) :: DiskA d room (aapp room D nlog f).1 :: l) → K (i64 (aapp room D nlog f).2) w') : seal_Log_Put_j0 K (ptr p) v w := by
  unfold seal_Log_Put_j0
  have hb : Hp w (SlA ty.uint8 1 v f.length (f.map bv) :: BlkA p ty.seal_Log [ptr d, i64 age, i64 n] :: DiskA d room D :: l) := h
  simp only [xs, Nat.zero_add, hb.c1, List.getElem?_cons_zero]
  refine Append_hp h.pick2 hD _ h.own.rd hf ?_
  intro w1 h
  generalize aapp room D nlog f = r at h hK
  have hb : Hp w1 (DiskA d room r.1 :: SlA ty.uint8 1 v f.length (f.map bv) :: BlkA p ty.seal_Log [ptr d, i64 age, i64 n] :: l) := h
  by_cases hc : r.2 = 0
  · simp only [hc, xs, xb, xd, Nat.zero_add, hb.c2, List.getElem?_cons_zero, List.getElem?_cons_succ]
    refine Hp.st hb.pick2 inf.int rfl rfl (by simp) ?_
    intro w2 h
    unfold seal_Log_Put_j1
    have e : IntKind.i64.wrap ((n : Int) + 1) = ((n + 1 : Nat) : Int) := by rw [wrap_i64 (by omega) (by omega)]; omega
    rw [e] at h
    simp only [hc, if_true] at hK
    exact hK w2 (h.pick2.tail.pick1.pick1)
  · simp only [hc, xs, xb, xd]
    unfold seal_Log_Put_j1
    simp only [hc, if_false] at hK
    exact hK w1 (h.pick2.pick2.tail)
theorem seal_Put_hp (h : Hp w (LogA p d age n :: DiskA d room D :: l)) (hD : D.length ≤ 1000000) (hn : n ≤ 1000000000) (h0 : 0 ≤ age) (h1 : age ≤ 9223372036854775807) {v : Value} {b : List UInt8} (hr : Rd w v (b.map bv)) (hl : b.length ≤ 10000000)
    (hK : ∀ w', Hp w' (LogA p d age (lput room D age n b).2.1 :: DiskA d room (lput room D age n b).1 :: l) → K (i64 (lput room D age n b).2.2) w') : xCall P nr.seal_Log_Put [ptr p, v] w K := by
  refine seal_Log_Put_call ?_
  unfold seal_Log_Put_main
  rw [xEq_ptr und.p_seal_Log]
  simp only [xs, xd, Option.isNone_some]
  unfold lput at hK
  refine frame_Put_hp h hr hl ?_ ?_
  · intro hnf
    simp only [hnf, if_false] at hK
    simp only [xs, xb, xd, show ¬ (1 : Int) = 0 by omega]
    exact hK w h
  intro hf v1 w1 h hc1
  simp only [hf, if_true] at hK
  have hb : Hp w1 (SlA ty.uint8 1 v1 (frame b).length ((frame b).map bv) :: BlkA p ty.seal_Log [ptr d, i64 age, i64 n] :: DiskA d room D :: l) := h
  simp only [xs, xb, xd, Nat.zero_add, hb.c1, List.getElem?_cons_zero]
  have hfl : (frame b).length ≤ 1006 := by rw [frame_len]; have := hf.2; omega
  have hgl := genf_len age
  -- what is behind the read
  have go : ∀ (t21 : Value) (w2 : World), acont D nlog = [] → (∀ (w : World) (K : VCont), xLen P .pure #[ty.s_uint8] t21 w K = K (i64 0) w) → Hp w2 (SlA ty.uint8 1 v1 (frame b).length ((frame b).map bv) :: BlkA p ty.seal_Log [ptr d, i64 age, i64 n] :: DiskA d room D :: l) →
      (xLen P .pure #[ty.s_uint8] t21 w2 fun t23 w => xEq P .eql ty.int false true t23 (.int .i64 0) w fun t24 w => xIf t24
        (match w.cell? ⟨p, 1, none⟩ with | some x => (xCall P nr.seal_generation [x] w fun t28 w => xBuiltin P .append #[ty.s_uint8, ty.s_uint8] ty.s_uint8 [false, false] [t28, v1] w fun t29 w => seal_Log_Put_j0 K (ptr p) t29 w) | none => False)
        (seal_Log_Put_j0 K (ptr p) v1 w)) := by
    intro t21 w2 hcont hlen h
    simp only [hlen, xs, xb, xd, Nat.zero_add, h.c1, List.getElem?_cons_zero, List.getElem?_cons_succ]
    refine generation_hp h age h0 h1 ?_
    intro v3 w3 h
    refine Hp.app (size := 1) (bytes := 1) und.s_uint8 inf.uint8 rfl rfl rfl rfl h h.pick1.own.rdN (bv_one _) (by omega) (by omega) ?_
    intro v4 w4 h
    have e1 : (genf age).length + (frame b).length = (genf age ++ frame b).length := by simp
    rw [e1, ← List.map_append] at h
    refine seal_Put_j0_hp h.pick1.tail hD (by simp; omega) hn ?_
    intro w5 h
    have e : lapp room D age b = aapp room D nlog (genf age ++ frame b) := by unfold lapp; rw [if_pos hcont]
    rw [e] at hK
    exact hK w5 h
  cases hg : aget D nlog with
  | none =>
    refine Read_hp hb.pick2 _ (fun _ => ?_) (fun x hx => by rw [hg] at hx; cases hx)
    have hcont : acont D nlog = [] := by unfold acont; rw [hg]; rfl
    simp only [xs]
    exact go _ w1 hcont (fun w K => by rw [xLen_slice und.s_uint8]; rfl) hb
  | some x =>
    refine Read_hp hb.pick2 _ (fun e => by rw [hg] at e; cases e) (fun y hy v2 w2 h => ?_)
    rw [hg] at hy; cases hy
    have hcont : acont D nlog = x.1 := by unfold acont; rw [hg]; rfl
    have hb2 : Hp w2 (SlA ty.uint8 1 v1 (frame b).length ((frame b).map bv) :: BlkA p ty.seal_Log [ptr d, i64 age, i64 n] :: DiskA d room D :: l) := (h.tail.put2)
    have hl21 : ∀ (w : World) (K : VCont), xLen P .pure #[ty.s_uint8] v2 w K = K (i64 x.1.length) w := fun w K => by rw [rd_len h.own.rd und.s_uint8, List.length_map]
    simp only [xs]
    by_cases hx : x.1 = []
    · exact go v2 w2 (by rw [hcont, hx]) (fun w K => by rw [hl21, hx]; rfl) hb2
    · have hx0 : ¬ (x.1.length : Int) = 0 := by
        intro e
        exact hx (List.eq_nil_of_length_eq_zero (by omega))
      simp only [hl21, xb, hx0, xs, xd]
      refine seal_Put_j0_hp hb2 hD (by omega) hn ?_
      intro w5 h
      have e : lapp room D age b = aapp room D nlog (frame b) := by unfold lapp; rw [if_neg (by rw [hcont]; exact hx)]
      rw [e] at hK
      exact hK w5 h
/-- a state is written: every row fits -/
theorem seal_Save_j0_hp {f : List UInt8} {v : Value} (h : Hp w (SlA ty.uint8 1 v f.length (f.map bv) :: LogA p d age n :: DiskA d room D :: l)) (hD : D.length ≤ 100000) (hf : f.length ≤ 1000000) (h0 : 0 ≤ age) (h1 : age ≤ 1000000000) {S : List (List UInt8)} (hS : f = genf (age + 1) ++ frames S)
    (hK : ∀ w' age' n', (age', n') = (if (lsave room D age S).2 = 0 then (age + 1, 0) else (age, n)) → Hp w' (LogA p d age' n' :: DiskA d room (lsave room D age S).1 :: l) → K (i64 (lsave room D age S).2) w') : seal_Log_Save_j0 K (ptr p) v w := by
  unfold seal_Log_Save_j0
  have hb : Hp w (SlA ty.uint8 1 v f.length (f.map bv) :: BlkA p ty.seal_Log [ptr d, i64 age, i64 n] :: DiskA d room D :: l) := h
  simp only [xs, Nat.zero_add, hb.c1, List.getElem?_cons_zero]
  refine Remove_hp hb.pick2 _ ?_
  intro w1 h
  simp only [xs, Nat.zero_add, h.c2, List.getElem?_cons_zero]
  have hl1 := adel_len D nnext
  refine Append_hp h (Nat.le_trans hl1 (by omega)) _ h.pick1.own.rd hf ?_
  intro w2 h
  unfold lsave at hK
  rw [← hS] at hK
  have hl2 := aapp_len room (adel D nnext).1 nnext f
  generalize aapp room (adel D nnext).1 nnext f = r at h hK hl2
  simp only [xs, xb, Nat.zero_add, h.c2, List.getElem?_cons_zero]
  by_cases hc : r.2 = 0
  · simp only [hc, xs, xd, Nat.zero_add, h.c2, List.getElem?_cons_zero]
    simp only [hc, if_true] at hK
    refine Sync_hp h _ ?_
    intro w3 h
    simp only [xs, Nat.zero_add, h.c2, List.getElem?_cons_zero]
    refine Rename_hp h _ _ ?_
    intro w4 h
    simp only [xs, Nat.zero_add, h.c2, List.getElem?_cons_zero]
    refine Cut_hp h _ _ ?_
    intro w5 h
    simp only [xs, xb, Nat.zero_add, h.c2, List.getElem?_cons_zero, List.getElem?_cons_succ]
    refine Hp.st h.pick2 inf.int64 rfl rfl (by simp) ?_
    intro w6 h
    refine Hp.st h inf.int rfl rfl (by simp) ?_
    intro w7 h
    rw [wrap_i64 (by omega) (by omega)] at h
    exact hK w7 (age + 1) 0 rfl (h.pick2.tail.pick1.pick1)
  · simp only [hc, xs, xd, Nat.zero_add, h.c2, List.getElem?_cons_zero]
    simp only [hc, if_false] at hK
    refine Remove_hp h _ ?_
    intro w3 h
    exact hK w3 age n rfl (h.put2.tail)
theorem seal_Save_hp (h : Hp w (LogA p d age n :: DiskA d room D :: l)) (hD : D.length ≤ 100000) (h0 : 0 ≤ age) (h1 : age ≤ 1000000000) {v : Value} {S : List (List UInt8)} (hv : ∀ w, Hp w l → RdBs w v S) (hS : S.length ≤ 900) (hl : ∀ x ∈ S, x.length ≤ 10000000)
    (hN : (∃ x ∈ S, ¬ fits x) → ∀ w', Hp w' (LogA p d age n :: DiskA d room D :: l) → K (i64 1) w')
    (hK : (∀ x ∈ S, fits x) → ∀ w' age' n', (age', n') = (if (lsave room D age S).2 = 0 then (age + 1, 0) else (age, n)) → Hp w' (LogA p d age' n' :: DiskA d room (lsave room D age S).1 :: l) → K (i64 (lsave room D age S).2) w') : xCall P nr.seal_Log_Save [ptr p, v] w K := by
  refine seal_Log_Save_call ?_
  unfold seal_Log_Save_main
  have hb : Hp w (BlkA p ty.seal_Log [ptr d, i64 age, i64 n] :: DiskA d room D :: l) := h
  rw [xEq_ptr und.p_seal_Log]
  simp only [xs, xb, xd, Option.isNone_some, Nat.zero_add, hb.c0, List.getElem?_cons_zero, List.getElem?_cons_succ]
  rw [wrap_i64 (by omega) (by omega)]
  refine generation_hp h (age + 1) (by omega) (by omega) ?_
  intro v1 w1 h
  have hlen : ∀ (w : World) (K : VCont), xLen P .pure #[ty.s_s_uint8] v w K = K (i64 S.length) w := fun w K => (hv w1 h.tail.tail.tail).len und.s_s_uint8 w K
  rw [hlen]
  have hgl := genf_len (age + 1)
  refine Lp.gen (fun m s w' => ∃ (i : Nat) (va : Value), m + i = S.length ∧ s = [va, i64 i] ∧ (∀ x ∈ S.take i, fits x) ∧ (genf (age + 1) ++ frames (S.take i)).length ≤ 16 + 1006 * i ∧
      Hp w' (SlA ty.uint8 1 va (genf (age + 1) ++ frames (S.take i)).length ((genf (age + 1) ++ frames (S.take i)).map bv) :: LogA p d age n :: DiskA d room D :: l)) S.length
    ⟨0, v1, by omega, rfl, by simp, by simp [frames_nil]; omega, by simpa [frames_nil] using h⟩ ?_
  rintro m s w2 ⟨i, va, hm, rfl, hfit, hlen2, h⟩ X hX
  unfold seal_Log_Save_l1
  simp only [List.getD_cons_zero, List.getD_cons_succ, xs, xb]
  by_cases hlt : i < S.length
  · have hlt' : (i : Int) < (S.length : Int) := by omega
    have hx := List.getElem?_eq_getElem hlt
    have hxm := List.getElem_mem hlt
    generalize S[i] = x at hx hxm
    obtain ⟨p0, u, i0, q0, hru⟩ := (hv w2 h.tail.tail.tail).at und.s_s_uint8 inf.s_uint8 rfl hx
    simp only [hlt', xs, xd, i0, q0]
    refine frame_Put_hp h hru (hl x hxm) ?_ ?_
    · intro hnf
      simp only [xs, xb, xd, show ¬ (1 : Int) = 0 by omega]
      exact hN ⟨x, hxm, hnf⟩ w2 h.tail
    intro hf v3 w3 h hc
    simp only [xs, xb, xd]
    have hfl := frame_len x
    have hf2 := hf.2
    refine Hp.app (size := 1) (bytes := 1) und.s_uint8 inf.uint8 rfl rfl rfl rfl h.pick1 h.own.rdN (bv_one _) (by omega) (by omega) ?_
    intro v4 w4 h
    have hi1 : IntKind.i64.wrap ((i : Int) + 1) = ((i + 1 : Nat) : Int) := by rw [wrap_i64 (by omega) (by omega)]; omega
    rw [hi1]
    have e1 : frames (S.take (i + 1)) = frames (S.take i) ++ frame x := by
      rw [List.take_add_one, hx, frames_append]
      simp [frames]
    refine hX (m - 1) _ _ ⟨i + 1, v4, by omega, rfl, ?_, ?_, ?_⟩ (by omega)
    · intro y hy
      rw [List.take_add_one, hx] at hy
      rcases List.mem_append.1 hy with hy | hy
      · exact hfit y hy
      · simp at hy; subst hy; exact hf
    · rw [e1, ← List.append_assoc, List.length_append]; omega
    · rw [e1, ← List.append_assoc, List.length_append, List.map_append]
      exact h.pick1.tail
  · have hlt' : ¬ (i : Int) < (S.length : Int) := by omega
    simp only [hlt', xs, xd]
    have hi : i = S.length := by omega
    subst hi
    rw [List.take_length] at h hfit hlen2
    exact seal_Save_j0_hp h hD (by omega) h0 h1 rfl (hK hfit)
end
end Go.Proofs.Ytamejkogghpbhaa
end
