/- Printed by wip/gen/gen.py: the shallow texts of some functions. -/
import Derived.Test.YtamejkogghpbhaaNames
set_option linter.unusedVariables false
namespace Go.Proofs.Ytamejkogghpbhaa
open Go.Sx

/-! sojourn/disk.New: function 11 -/
def disk_New_main (R : VCont) (a0 : Value) (w : World) : Prop :=
  xBin P .lss 3 a0 (Value.int IntKind.i64 0) w fun t1 w =>
  xWhen t1 false (fun K => K a0 w) w fun t2 w =>
  xWhen t1 false (fun K => xBin P .gtr 3 t2 (Value.int IntKind.i64 1000000) w K) w fun t3 w =>
  xPick t1 (Value.bool true) t3 w fun t4 w =>
  xIf t4
  (R (Value.tuple #[(Value.pointer none), (Value.int IntKind.i64 1)]) w)
  (xMakeMap P 79 none w fun t5 w =>
  xBuild P 81 [(0, t5), (1, a0)] w fun t6 w =>
  xBox P 81 t6 w fun t7 w =>
  R (Value.tuple #[t7, (Value.int IntKind.i64 0)]) w)
theorem disk_New_ok {R : VCont} {a0 : Value} {w : World} (h : disk_New_main R a0 w) : Calls P nr.disk_New [a0].toArray w (Ret R) :=
  calls_of_sx (P := P) (fn := Try.f11) (Os := (fun _ => .no)) (Es := []) (args := [a0]) mixed (by kernel_rfl) (by kernel_rfl) (by kernel_rfl) (by kernel_rfl) (by kernel_rfl) (by kernel_rfl) (by kernel_rfl)
    (Eq.mp (show disk_New_main R a0 w = sxh P (fun _ => .no) [] [] 0 (bodyOf Try.f11) (retQ P Try.f11.results.toList R) (envOf [a0]) w by kernel_rfl) h)
theorem disk_New_call {R : VCont} {a0 : Value} {w : World} (h : disk_New_main R a0 w) : xCall P nr.disk_New [a0] w R :=
  xCall_of (P := P) (fn := Try.f11) (by kernel_rfl) (by kernel_rfl) (by kernel_rfl) (disk_New_ok h)

/-! (*sojourn/disk.Disk).Append: function 13 -/
def disk_Disk_Append_j0 (R : VCont) (v2 v7 : Value) (w : World) : Prop :=
  xNil v7 w fun t16 w =>
  xOff (some 0) t16 w fun t17 w =>
  xLoad1 t17 w fun t18 w =>
  xBuiltin P .append #[22, 22] 22 [false, false] [t18, v2] w fun t19 w =>
  xNil v7 w fun t20 w =>
  xOff (some 0) t20 w fun t21 w =>
  xStore P 22 t21 t19 w fun _ w =>
  R (Value.int IntKind.i64 0) w
def disk_Disk_Append_main (R : VCont) (a0 a1 a2 : Value) (w : World) : Prop :=
  xEq P .eql 23 false true a0 (Value.pointer none) w fun t1 w =>
  xIf t1
  (R (Value.int IntKind.i64 5) w)
  (xCall P nr.disk_may [a1] w fun t2 w =>
  xUn P .not t2 w fun t3 w =>
  xIf t3
  (R (Value.int IntKind.i64 1) w)
  (Sx.dr w fun w =>
  xLen P .pure #[22] a2 w fun t4 _ =>
  xNil a0 w fun t5 _ =>
  xOff (some 1) t5 w fun t6 _ =>
  xLoad1 t6 w fun t7 w' =>
  w' = w ∧
  xCall P nr.disk_Disk_Used [a0] w fun t8 w =>
  (xLoad1 t6 w fun t9 w' =>
  w' = w ∧ t9 = t7) ∧
  xBin P .sub 3 t7 t8 w fun t10 _ =>
  xBin P .gtr 3 t4 t10 w fun t11 _ =>
  xIf t11
  (R (Value.int IntKind.i64 4) w)
  (xNil a0 w fun t12 w =>
  xOff (some 0) t12 w fun t13 w =>
  xLoad1 t13 w fun t14 w =>
  xLookup P 79 t14 a1 false w fun t15 w =>
  xEq P .eql 83 false true t15 (Value.pointer none) w fun t22 w =>
  xIf t22
  (xBuild P 85 [] w fun t23 w =>
  xBox P 85 t23 w fun t24 w =>
  xNil a0 w fun t25 w =>
  xOff (some 0) t25 w fun t26 w =>
  xLoad1 t26 w fun t27 w =>
  xMapUpdate P 79 t27 a1 t24 w fun _ w =>
  disk_Disk_Append_j0 R a2 t24 w)
  (disk_Disk_Append_j0 R a2 t15 w))))
def disk_Disk_Append_os (i : Nat) : OT := cond (Nat.beq i 5) (.fl 0 (.fl 1 (.fl 2 (.fl 3 (.fl 4 (.fl 5 (.fl 6 (.an 7 (.fl 8 (.fl 9 (.fl 10 .done))) .no)))))))) (.no)
def disk_Disk_Append_es (R : VCont) : List Ent := [
  .join fun Xs e w => disk_Disk_Append_j0 R (e 2) (e 7) w]
theorem disk_Disk_Append_ok {R : VCont} {a0 a1 a2 : Value} {w : World} (h : disk_Disk_Append_main R a0 a1 a2 w) : Calls P nr.disk_Disk_Append [a0, a1, a2].toArray w (Ret R) :=
  calls_of_sx (P := P) (fn := Try.f13) (Os := disk_Disk_Append_os) (Es := (disk_Disk_Append_es R)) (args := [a0, a1, a2]) mixed (by kernel_rfl) (by kernel_rfl) (by kernel_rfl) (by kernel_rfl) (by kernel_rfl) (by kernel_rfl) (by kernel_rfl)
    (Eq.mp (show disk_Disk_Append_main R a0 a1 a2 w = sxh P disk_Disk_Append_os (disk_Disk_Append_es R) [] 0 (bodyOf Try.f13) (retQ P Try.f13.results.toList R) (envOf [a0, a1, a2]) w by kernel_rfl) h)
theorem disk_Disk_Append_call {R : VCont} {a0 a1 a2 : Value} {w : World} (h : disk_Disk_Append_main R a0 a1 a2 w) : xCall P nr.disk_Disk_Append [a0, a1, a2] w R :=
  xCall_of (P := P) (fn := Try.f13) (by kernel_rfl) (by kernel_rfl) (by kernel_rfl) (disk_Disk_Append_ok h)

/-! (*sojourn/disk.Disk).Sync: function 14 -/
def disk_Disk_Sync_main (R : VCont) (a0 a1 : Value) (w : World) : Prop :=
  xCall P nr.disk_Disk_of [a0, a1] w fun t1 w =>
  xEq P .eql 83 false true t1 (Value.pointer none) w fun t2 w =>
  xIf t2
  (R (Value.int IntKind.i64 5) w)
  (xNil t1 w fun t3 w =>
  xOff (some 0) t3 w fun t4 w =>
  xLoad1 t4 w fun t5 w =>
  xLen P .pure #[22] t5 w fun t6 w =>
  xNil t1 w fun t7 w =>
  xOff (some 1) t7 w fun t8 w =>
  xStore P 3 t8 t6 w fun _ w =>
  R (Value.int IntKind.i64 0) w)
theorem disk_Disk_Sync_ok {R : VCont} {a0 a1 : Value} {w : World} (h : disk_Disk_Sync_main R a0 a1 w) : Calls P nr.disk_Disk_Sync [a0, a1].toArray w (Ret R) :=
  calls_of_sx (P := P) (fn := Try.f14) (Os := (fun _ => .no)) (Es := []) (args := [a0, a1]) mixed (by kernel_rfl) (by kernel_rfl) (by kernel_rfl) (by kernel_rfl) (by kernel_rfl) (by kernel_rfl) (by kernel_rfl)
    (Eq.mp (show disk_Disk_Sync_main R a0 a1 w = sxh P (fun _ => .no) [] [] 0 (bodyOf Try.f14) (retQ P Try.f14.results.toList R) (envOf [a0, a1]) w by kernel_rfl) h)
theorem disk_Disk_Sync_call {R : VCont} {a0 a1 : Value} {w : World} (h : disk_Disk_Sync_main R a0 a1 w) : xCall P nr.disk_Disk_Sync [a0, a1] w R :=
  xCall_of (P := P) (fn := Try.f14) (by kernel_rfl) (by kernel_rfl) (by kernel_rfl) (disk_Disk_Sync_ok h)

/-! (*sojourn/disk.Disk).Crash: function 15 -/
def disk_Disk_Crash_l0 (R : VCont) (X0 : LX) (v0 v1 v9 v10 v11 : Value) (w : World) : Prop :=
  xBin P .lss 3 v11 v10 w fun t33 w =>
  xIf t33
  (xIndexAddr P 34 v9 v11 w fun t34 w =>
  xLoad1 t34 w fun t35 w =>
  xNil v0 w fun t36 w =>
  xOff (some 0) t36 w fun t37 w =>
  xLoad1 t37 w fun t38 w =>
  xLookup P 79 t38 t35 false w fun t39 w =>
  Sx.dr w fun w =>
  xNil t39 w fun t40 _ =>
  xOff (some 1) t40 w fun t41 _ =>
  xLoad1 t41 w fun t42 w' =>
  w' = w ∧
  xMinMax P true [v1, (Value.int IntKind.i64 0)] w fun t43 _ =>
  xNil t39 w fun t44 _ =>
  xOff (some 0) t44 w fun t45 _ =>
  xLoad1 t45 w fun t46 w' =>
  w' = w ∧
  xLen P .pure #[22] t46 w fun t47 _ =>
  xNil t39 w fun t48 _ =>
  xOff (some 1) t48 w fun t49 _ =>
  xLoad1 t49 w fun t50 w' =>
  w' = w ∧
  xBin P .sub 3 t47 t50 w fun t51 _ =>
  xMinMax P false [t43, t51] w fun t52 _ =>
  xBin P .add 3 t42 t52 w fun t53 _ =>
  xNil t39 w fun t54 w =>
  xOff (some 0) t54 w fun t55 w =>
  xLoad1 t55 w fun t56 w =>
  xSlice P 22 t56 none (some t53) (some t53) w fun t57 w =>
  xNil t39 w fun t58 w =>
  xOff (some 0) t58 w fun t59 w =>
  xStore P 22 t59 t57 w fun _ w =>
  xNil t39 w fun t60 w =>
  xOff (some 1) t60 w fun t61 w =>
  xStore P 3 t61 t53 w fun _ w =>
  xBin P .add 3 v11 (Value.int IntKind.i64 1) w fun t62 w =>
  X0 [t62] w)
  (R (Value.tuple #[]) w)
def disk_Disk_Crash_main (R : VCont) (a0 a1 : Value) (w : World) : Prop :=
  xCall P nr.disk_Disk_Names [a0] w fun t1 w =>
  xLen P .pure #[34] t1 w fun t2 w =>
  Lp (fun X s w => disk_Disk_Crash_l0 R X a0 a1 t1 t2 (s.getD 0 undef) w) [(Value.int IntKind.i64 0)] w
def disk_Disk_Crash_os (i : Nat) : OT := cond (Nat.beq i 4) (.fl 0 (.fl 1 (.fl 2 (.fl 3 (.fl 4 (.fl 5 (.fl 6 (.fl 7 (.fl 8 (.fl 9 (.fl 10 (.fl 11 (.fl 12 (.fl 13 (.fl 14 (.fl 15 (.fl 16 (.fl 17 (.fl 18 .done))))))))))))))))))) (.no)
def disk_Disk_Crash_es (R : VCont) : List Ent := [
  .loop [0, 1, 9, 10] [11] fun Xs fx X s w => disk_Disk_Crash_l0 R X (fx.getD 0 undef) (fx.getD 1 undef) (fx.getD 2 undef) (fx.getD 3 undef) (s.getD 0 undef) w]
theorem disk_Disk_Crash_ok {R : VCont} {a0 a1 : Value} {w : World} (h : disk_Disk_Crash_main R a0 a1 w) : Calls P nr.disk_Disk_Crash [a0, a1].toArray w (Ret R) :=
  calls_of_sx (P := P) (fn := Try.f15) (Os := disk_Disk_Crash_os) (Es := (disk_Disk_Crash_es R)) (args := [a0, a1]) mixed (by kernel_rfl) (by kernel_rfl) (by kernel_rfl) (by kernel_rfl) (by kernel_rfl) (by kernel_rfl) (by kernel_rfl)
    (Eq.mp (show disk_Disk_Crash_main R a0 a1 w = sxh P disk_Disk_Crash_os (disk_Disk_Crash_es R) [] 0 (bodyOf Try.f15) (retQ P Try.f15.results.toList R) (envOf [a0, a1]) w by kernel_rfl) h)
theorem disk_Disk_Crash_call {R : VCont} {a0 a1 : Value} {w : World} (h : disk_Disk_Crash_main R a0 a1 w) : xCall P nr.disk_Disk_Crash [a0, a1] w R :=
  xCall_of (P := P) (fn := Try.f15) (by kernel_rfl) (by kernel_rfl) (by kernel_rfl) (disk_Disk_Crash_ok h)

/-! (*sojourn/disk.Disk).Read: function 16 -/
def disk_Disk_Read_main (R : VCont) (a0 a1 : Value) (w : World) : Prop :=
  xCall P nr.disk_Disk_of [a0, a1] w fun t1 w =>
  xEq P .eql 83 false true t1 (Value.pointer none) w fun t2 w =>
  xIf t2
  (R (Value.tuple #[(Value.slice none 0 0), (Value.int IntKind.i64 5)]) w)
  (xNil t1 w fun t3 w =>
  xOff (some 0) t3 w fun t4 w =>
  xLoad1 t4 w fun t5 w =>
  xCall P nr.slices_Clone_s_byte_byte [t5] w fun t6 w =>
  R (Value.tuple #[t6, (Value.int IntKind.i64 0)]) w)
theorem disk_Disk_Read_ok {R : VCont} {a0 a1 : Value} {w : World} (h : disk_Disk_Read_main R a0 a1 w) : Calls P nr.disk_Disk_Read [a0, a1].toArray w (Ret R) :=
  calls_of_sx (P := P) (fn := Try.f16) (Os := (fun _ => .no)) (Es := []) (args := [a0, a1]) mixed (by kernel_rfl) (by kernel_rfl) (by kernel_rfl) (by kernel_rfl) (by kernel_rfl) (by kernel_rfl) (by kernel_rfl)
    (Eq.mp (show disk_Disk_Read_main R a0 a1 w = sxh P (fun _ => .no) [] [] 0 (bodyOf Try.f16) (retQ P Try.f16.results.toList R) (envOf [a0, a1]) w by kernel_rfl) h)
theorem disk_Disk_Read_call {R : VCont} {a0 a1 : Value} {w : World} (h : disk_Disk_Read_main R a0 a1 w) : xCall P nr.disk_Disk_Read [a0, a1] w R :=
  xCall_of (P := P) (fn := Try.f16) (by kernel_rfl) (by kernel_rfl) (by kernel_rfl) (disk_Disk_Read_ok h)

/-! (*sojourn/disk.Disk).Synced: function 17 -/
def disk_Disk_Synced_main (R : VCont) (a0 a1 : Value) (w : World) : Prop :=
  xCall P nr.disk_Disk_of [a0, a1] w fun t1 w =>
  xEq P .eql 83 false true t1 (Value.pointer none) w fun t2 w =>
  xIf t2
  (R (Value.int IntKind.i64 0) w)
  (xNil t1 w fun t3 w =>
  xOff (some 1) t3 w fun t4 w =>
  xLoad1 t4 w fun t5 w =>
  R t5 w)
theorem disk_Disk_Synced_ok {R : VCont} {a0 a1 : Value} {w : World} (h : disk_Disk_Synced_main R a0 a1 w) : Calls P nr.disk_Disk_Synced [a0, a1].toArray w (Ret R) :=
  calls_of_sx (P := P) (fn := Try.f17) (Os := (fun _ => .no)) (Es := []) (args := [a0, a1]) mixed (by kernel_rfl) (by kernel_rfl) (by kernel_rfl) (by kernel_rfl) (by kernel_rfl) (by kernel_rfl) (by kernel_rfl)
    (Eq.mp (show disk_Disk_Synced_main R a0 a1 w = sxh P (fun _ => .no) [] [] 0 (bodyOf Try.f17) (retQ P Try.f17.results.toList R) (envOf [a0, a1]) w by kernel_rfl) h)
theorem disk_Disk_Synced_call {R : VCont} {a0 a1 : Value} {w : World} (h : disk_Disk_Synced_main R a0 a1 w) : xCall P nr.disk_Disk_Synced [a0, a1] w R :=
  xCall_of (P := P) (fn := Try.f17) (by kernel_rfl) (by kernel_rfl) (by kernel_rfl) (disk_Disk_Synced_ok h)

/-! (*sojourn/disk.Disk).Used: function 18 -/
def disk_Disk_Used_j0 (R : VCont) (v3 : Value) (w : World) : Prop :=
  R v3 w
def disk_Disk_Used_l1 (R : VCont) (X0 : LX) (v0 v7 v8 v3 v9 : Value) (w : World) : Prop :=
  xBin P .lss 3 v9 v8 w fun t16 w =>
  xIf t16
  (xIndexAddr P 34 v7 v9 w fun t17 w =>
  xLoad1 t17 w fun t18 w =>
  xNil v0 w fun t19 w =>
  xOff (some 0) t19 w fun t20 w =>
  xLoad1 t20 w fun t21 w =>
  xLookup P 79 t21 t18 false w fun t22 w =>
  xNil t22 w fun t23 w =>
  xOff (some 0) t23 w fun t24 w =>
  xLoad1 t24 w fun t25 w =>
  xLen P .pure #[22] t25 w fun t26 w =>
  xBin P .add 3 v3 t26 w fun t27 w =>
  xBin P .add 3 v9 (Value.int IntKind.i64 1) w fun t28 w =>
  X0 [t27, t28] w)
  (disk_Disk_Used_j0 R v3 w)
def disk_Disk_Used_main (R : VCont) (a0 : Value) (w : World) : Prop :=
  xCall P nr.disk_Disk_Names [a0] w fun t1 w =>
  xLen P .pure #[34] t1 w fun t2 w =>
  Lp (fun X s w => disk_Disk_Used_l1 R X a0 t1 t2 (s.getD 0 undef) (s.getD 1 undef) w) [(Value.int IntKind.i64 0), (Value.int IntKind.i64 0)] w
def disk_Disk_Used_es (R : VCont) : List Ent := [
  .join fun Xs e w => disk_Disk_Used_j0 R (e 3) w,
  .loop [0, 7, 8] [3, 9] fun Xs fx X s w => disk_Disk_Used_l1 R X (fx.getD 0 undef) (fx.getD 1 undef) (fx.getD 2 undef) (s.getD 0 undef) (s.getD 1 undef) w]
theorem disk_Disk_Used_ok {R : VCont} {a0 : Value} {w : World} (h : disk_Disk_Used_main R a0 w) : Calls P nr.disk_Disk_Used [a0].toArray w (Ret R) :=
  calls_of_sx (P := P) (fn := Try.f18) (Os := (fun _ => .no)) (Es := (disk_Disk_Used_es R)) (args := [a0]) mixed (by kernel_rfl) (by kernel_rfl) (by kernel_rfl) (by kernel_rfl) (by kernel_rfl) (by kernel_rfl) (by kernel_rfl)
    (Eq.mp (show disk_Disk_Used_main R a0 w = sxh P (fun _ => .no) (disk_Disk_Used_es R) [] 0 (bodyOf Try.f18) (retQ P Try.f18.results.toList R) (envOf [a0]) w by kernel_rfl) h)
theorem disk_Disk_Used_call {R : VCont} {a0 : Value} {w : World} (h : disk_Disk_Used_main R a0 w) : xCall P nr.disk_Disk_Used [a0] w R :=
  xCall_of (P := P) (fn := Try.f18) (by kernel_rfl) (by kernel_rfl) (by kernel_rfl) (disk_Disk_Used_ok h)

/-! (*sojourn/disk.Disk).Names: function 19 -/
def disk_Disk_Names_main (R : VCont) (a0 : Value) (w : World) : Prop :=
  xEq P .eql 23 false true a0 (Value.pointer none) w fun t1 w =>
  xIf t1
  (R (Value.slice none 0 0) w)
  (xNil a0 w fun t2 w =>
  xOff (some 0) t2 w fun t3 w =>
  xLoad1 t3 w fun t4 w =>
  xCall P nr.maps_Keys_m_string_p_disk_file_string_p_disk_file [t4] w fun t5 w =>
  xCall P nr.slices_Sorted_string [t5] w fun t6 w =>
  R t6 w)
theorem disk_Disk_Names_ok {R : VCont} {a0 : Value} {w : World} (h : disk_Disk_Names_main R a0 w) : Calls P nr.disk_Disk_Names [a0].toArray w (Ret R) :=
  calls_of_sx (P := P) (fn := Try.f19) (Os := (fun _ => .no)) (Es := []) (args := [a0]) mixed (by kernel_rfl) (by kernel_rfl) (by kernel_rfl) (by kernel_rfl) (by kernel_rfl) (by kernel_rfl) (by kernel_rfl)
    (Eq.mp (show disk_Disk_Names_main R a0 w = sxh P (fun _ => .no) [] [] 0 (bodyOf Try.f19) (retQ P Try.f19.results.toList R) (envOf [a0]) w by kernel_rfl) h)
theorem disk_Disk_Names_call {R : VCont} {a0 : Value} {w : World} (h : disk_Disk_Names_main R a0 w) : xCall P nr.disk_Disk_Names [a0] w R :=
  xCall_of (P := P) (fn := Try.f19) (by kernel_rfl) (by kernel_rfl) (by kernel_rfl) (disk_Disk_Names_ok h)

/-! (*sojourn/disk.Disk).Rename: function 20 -/
def disk_Disk_Rename_main (R : VCont) (a0 a1 a2 : Value) (w : World) : Prop :=
  xCall P nr.disk_Disk_of [a0, a1] w fun t1 w =>
  xEq P .eql 83 false true t1 (Value.pointer none) w fun t2 w =>
  xIf t2
  (R (Value.int IntKind.i64 5) w)
  (xCall P nr.disk_may [a2] w fun t3 w =>
  xUn P .not t3 w fun t4 w =>
  xIf t4
  (R (Value.int IntKind.i64 1) w)
  (xNil a0 w fun t5 w =>
  xOff (some 0) t5 w fun t6 w =>
  xLoad1 t6 w fun t7 w =>
  xBuiltin P .delete #[79, 9] 0 [false, false] [t7, a1] w fun _ w =>
  xNil a0 w fun t8 w =>
  xOff (some 0) t8 w fun t9 w =>
  xLoad1 t9 w fun t10 w =>
  xMapUpdate P 79 t10 a2 t1 w fun _ w =>
  R (Value.int IntKind.i64 0) w))
theorem disk_Disk_Rename_ok {R : VCont} {a0 a1 a2 : Value} {w : World} (h : disk_Disk_Rename_main R a0 a1 a2 w) : Calls P nr.disk_Disk_Rename [a0, a1, a2].toArray w (Ret R) :=
  calls_of_sx (P := P) (fn := Try.f20) (Os := (fun _ => .no)) (Es := []) (args := [a0, a1, a2]) mixed (by kernel_rfl) (by kernel_rfl) (by kernel_rfl) (by kernel_rfl) (by kernel_rfl) (by kernel_rfl) (by kernel_rfl)
    (Eq.mp (show disk_Disk_Rename_main R a0 a1 a2 w = sxh P (fun _ => .no) [] [] 0 (bodyOf Try.f20) (retQ P Try.f20.results.toList R) (envOf [a0, a1, a2]) w by kernel_rfl) h)
theorem disk_Disk_Rename_call {R : VCont} {a0 a1 a2 : Value} {w : World} (h : disk_Disk_Rename_main R a0 a1 a2 w) : xCall P nr.disk_Disk_Rename [a0, a1, a2] w R :=
  xCall_of (P := P) (fn := Try.f20) (by kernel_rfl) (by kernel_rfl) (by kernel_rfl) (disk_Disk_Rename_ok h)

/-! (*sojourn/disk.Disk).Cut: function 23 -/
def disk_Disk_Cut_main (R : VCont) (a0 a1 a2 : Value) (w : World) : Prop :=
  xCall P nr.disk_Disk_of [a0, a1] w fun t1 w =>
  xEq P .eql 83 false true t1 (Value.pointer none) w fun t2 w =>
  xIf t2
  (R (Value.int IntKind.i64 5) w)
  (xBin P .lss 3 a2 (Value.int IntKind.i64 0) w fun t3 w =>
  xWhen t3 false (fun K => K a2 w) w fun t4 w =>
  xWhen t3 false (fun K => K t1 w) w fun t5 w =>
  xWhen t3 false (fun K => xNil t5 w K) w fun t6 w =>
  xWhen t3 false (fun K => xOff (some 0) t6 w K) w fun t7 w =>
  xWhen t3 false (fun K => xLoad1 t7 w K) w fun t8 w =>
  xWhen t3 false (fun K => xLen P .pure #[22] t8 w K) w fun t9 w =>
  xWhen t3 false (fun K => xBin P .gtr 3 t4 t9 w K) w fun t10 w =>
  xPick t3 (Value.bool true) t10 w fun t11 w =>
  xIf t11
  (R (Value.int IntKind.i64 3) w)
  (xNil t1 w fun t12 w =>
  xOff (some 0) t12 w fun t13 w =>
  xLoad1 t13 w fun t14 w =>
  xSlice P 22 t14 none (some a2) (some a2) w fun t15 w =>
  xNil t1 w fun t16 w =>
  xOff (some 0) t16 w fun t17 w =>
  xStore P 22 t17 t15 w fun _ w =>
  xNil t1 w fun t18 w =>
  xOff (some 1) t18 w fun t19 w =>
  xStore P 3 t19 a2 w fun _ w =>
  R (Value.int IntKind.i64 0) w))
theorem disk_Disk_Cut_ok {R : VCont} {a0 a1 a2 : Value} {w : World} (h : disk_Disk_Cut_main R a0 a1 a2 w) : Calls P nr.disk_Disk_Cut [a0, a1, a2].toArray w (Ret R) :=
  calls_of_sx (P := P) (fn := Try.f23) (Os := (fun _ => .no)) (Es := []) (args := [a0, a1, a2]) mixed (by kernel_rfl) (by kernel_rfl) (by kernel_rfl) (by kernel_rfl) (by kernel_rfl) (by kernel_rfl) (by kernel_rfl)
    (Eq.mp (show disk_Disk_Cut_main R a0 a1 a2 w = sxh P (fun _ => .no) [] [] 0 (bodyOf Try.f23) (retQ P Try.f23.results.toList R) (envOf [a0, a1, a2]) w by kernel_rfl) h)
theorem disk_Disk_Cut_call {R : VCont} {a0 a1 a2 : Value} {w : World} (h : disk_Disk_Cut_main R a0 a1 a2 w) : xCall P nr.disk_Disk_Cut [a0, a1, a2] w R :=
  xCall_of (P := P) (fn := Try.f23) (by kernel_rfl) (by kernel_rfl) (by kernel_rfl) (disk_Disk_Cut_ok h)

/-! (*sojourn/disk.Disk).Remove: function 26 -/
def disk_Disk_Remove_main (R : VCont) (a0 a1 : Value) (w : World) : Prop :=
  xCall P nr.disk_Disk_of [a0, a1] w fun t1 w =>
  xEq P .eql 83 false true t1 (Value.pointer none) w fun t2 w =>
  xIf t2
  (R (Value.int IntKind.i64 5) w)
  (xNil a0 w fun t3 w =>
  xOff (some 0) t3 w fun t4 w =>
  xLoad1 t4 w fun t5 w =>
  xBuiltin P .delete #[79, 9] 0 [false, false] [t5, a1] w fun _ w =>
  R (Value.int IntKind.i64 0) w)
theorem disk_Disk_Remove_ok {R : VCont} {a0 a1 : Value} {w : World} (h : disk_Disk_Remove_main R a0 a1 w) : Calls P nr.disk_Disk_Remove [a0, a1].toArray w (Ret R) :=
  calls_of_sx (P := P) (fn := Try.f26) (Os := (fun _ => .no)) (Es := []) (args := [a0, a1]) mixed (by kernel_rfl) (by kernel_rfl) (by kernel_rfl) (by kernel_rfl) (by kernel_rfl) (by kernel_rfl) (by kernel_rfl)
    (Eq.mp (show disk_Disk_Remove_main R a0 a1 w = sxh P (fun _ => .no) [] [] 0 (bodyOf Try.f26) (retQ P Try.f26.results.toList R) (envOf [a0, a1]) w by kernel_rfl) h)
theorem disk_Disk_Remove_call {R : VCont} {a0 a1 : Value} {w : World} (h : disk_Disk_Remove_main R a0 a1 w) : xCall P nr.disk_Disk_Remove [a0, a1] w R :=
  xCall_of (P := P) (fn := Try.f26) (by kernel_rfl) (by kernel_rfl) (by kernel_rfl) (disk_Disk_Remove_ok h)

/-! (*sojourn/disk.Disk).Copy: function 29 -/
def disk_Disk_Copy_j0 (R : VCont) (v3 : Value) (w : World) : Prop :=
  R v3 w
def disk_Disk_Copy_l1 (R : VCont) (X0 : LX) (v3 v19 : Value) (w : World) : Prop :=
  xIter P v19 false 0 w fun t32 w =>
  xExtract t32 0 w fun t33 w =>
  xIf t33
  (xEntry P v19 w fun t34 w =>
  xExtract t34 0 w fun t35 w =>
  xExtract t34 1 w fun t36 w =>
  Sx.dr w fun w =>
  xNil v3 w fun t37 _ =>
  xOff (some 0) t37 w fun t38 _ =>
  xLoad1 t38 w fun t39 w' =>
  w' = w ∧
  xNil t36 w fun t40 _ =>
  xOff (some 0) t40 w fun t41 _ =>
  xLoad1 t41 w fun t42 w' =>
  w' = w ∧
  xNil t36 w fun t43 _ =>
  xOff (some 1) t43 w fun t44 _ =>
  xLoad1 t44 w fun t45 w' =>
  w' = w ∧
  xCall P nr.slices_Clone_s_byte_byte [t42] w fun t46 w =>
  (xLoad1 t44 w fun t47 w' =>
  w' = w ∧ t47 = t45) ∧
  (xLoad1 t38 w fun t48 w' =>
  w' = w ∧ t48 = t39) ∧
  xBuild P 85 [(0, t46), (1, t45)] w fun t49 _ =>
  xBox P 85 t49 w fun t50 w =>
  (xLoad1 t38 w fun t51 w' =>
  w' = w ∧ t51 = t39) ∧
  xMapUpdate P 79 t39 t35 t50 w fun _ w =>
  X0 [] w)
  (disk_Disk_Copy_j0 R v3 w)
def disk_Disk_Copy_main (R : VCont) (a0 : Value) (w : World) : Prop :=
  xEq P .eql 23 false true a0 (Value.pointer none) w fun t1 w =>
  xIf t1
  (R (Value.pointer none) w)
  (xMakeMap P 79 none w fun t2 w =>
  xNil a0 w fun t3 w =>
  xOff (some 1) t3 w fun t4 w =>
  xLoad1 t4 w fun t5 w =>
  xBuild P 81 [(0, t2), (1, t5)] w fun t6 w =>
  xBox P 81 t6 w fun t7 w =>
  xNil a0 w fun t8 w =>
  xOff (some 0) t8 w fun t9 w =>
  xLoad1 t9 w fun t10 w =>
  xRange P 79 t10 w fun t11 w =>
  Lp (fun X s w => disk_Disk_Copy_l1 R X t7 t11 w) [] w)
def disk_Disk_Copy_os (i : Nat) : OT := cond (Nat.beq i 7) (.fl 0 (.fl 1 (.fl 2 (.fl 3 (.fl 4 (.fl 5 (.fl 6 (.fl 7 (.fl 8 (.fl 10 (.fl 11 (.fl 12 (.fl 13 (.an 9 (.fl 14 (.an 15 (.an 16 .done .no) .no)) .no)))))))))))))) (.no)
def disk_Disk_Copy_es (R : VCont) : List Ent := [
  .join fun Xs e w => disk_Disk_Copy_j0 R (e 3) w,
  .loop [3, 19] [] fun Xs fx X s w => disk_Disk_Copy_l1 R X (fx.getD 0 undef) (fx.getD 1 undef) w]
theorem disk_Disk_Copy_ok {R : VCont} {a0 : Value} {w : World} (h : disk_Disk_Copy_main R a0 w) : Calls P nr.disk_Disk_Copy [a0].toArray w (Ret R) :=
  calls_of_sx (P := P) (fn := Try.f29) (Os := disk_Disk_Copy_os) (Es := (disk_Disk_Copy_es R)) (args := [a0]) mixed (by kernel_rfl) (by kernel_rfl) (by kernel_rfl) (by kernel_rfl) (by kernel_rfl) (by kernel_rfl) (by kernel_rfl)
    (Eq.mp (show disk_Disk_Copy_main R a0 w = sxh P disk_Disk_Copy_os (disk_Disk_Copy_es R) [] 0 (bodyOf Try.f29) (retQ P Try.f29.results.toList R) (envOf [a0]) w by kernel_rfl) h)
theorem disk_Disk_Copy_call {R : VCont} {a0 : Value} {w : World} (h : disk_Disk_Copy_main R a0 w) : xCall P nr.disk_Disk_Copy [a0] w R :=
  xCall_of (P := P) (fn := Try.f29) (by kernel_rfl) (by kernel_rfl) (by kernel_rfl) (disk_Disk_Copy_ok h)

/-! sojourn/disk.may: function 46 -/
def disk_may_main (R : VCont) (a0 : Value) (w : World) : Prop :=
  xLen P .pure #[9] a0 w fun t1 w =>
  xBin P .geq 3 t1 (Value.int IntKind.i64 1) w fun t2 w =>
  xWhen t2 true (fun K => K a0 w) w fun t3 w =>
  xWhen t2 true (fun K => xLen P .pure #[9] t3 w K) w fun t4 w =>
  xWhen t2 true (fun K => xBin P .leq 3 t4 (Value.int IntKind.i64 20) w K) w fun t5 w =>
  xPick t2 t5 (Value.bool false) w fun t6 w =>
  R t6 w
theorem disk_may_ok {R : VCont} {a0 : Value} {w : World} (h : disk_may_main R a0 w) : Calls P nr.disk_may [a0].toArray w (Ret R) :=
  calls_of_sx (P := P) (fn := Try.f46) (Os := (fun _ => .no)) (Es := []) (args := [a0]) mixed (by kernel_rfl) (by kernel_rfl) (by kernel_rfl) (by kernel_rfl) (by kernel_rfl) (by kernel_rfl) (by kernel_rfl)
    (Eq.mp (show disk_may_main R a0 w = sxh P (fun _ => .no) [] [] 0 (bodyOf Try.f46) (retQ P Try.f46.results.toList R) (envOf [a0]) w by kernel_rfl) h)
theorem disk_may_call {R : VCont} {a0 : Value} {w : World} (h : disk_may_main R a0 w) : xCall P nr.disk_may [a0] w R :=
  xCall_of (P := P) (fn := Try.f46) (by kernel_rfl) (by kernel_rfl) (by kernel_rfl) (disk_may_ok h)

/-! (*sojourn/disk.Disk).of: function 47 -/
def disk_Disk_of_main (R : VCont) (a0 a1 : Value) (w : World) : Prop :=
  xEq P .eql 23 false true a0 (Value.pointer none) w fun t1 w =>
  xIf t1
  (R (Value.pointer none) w)
  (xNil a0 w fun t2 w =>
  xOff (some 0) t2 w fun t3 w =>
  xLoad1 t3 w fun t4 w =>
  xLookup P 79 t4 a1 false w fun t5 w =>
  R t5 w)
theorem disk_Disk_of_ok {R : VCont} {a0 a1 : Value} {w : World} (h : disk_Disk_of_main R a0 a1 w) : Calls P nr.disk_Disk_of [a0, a1].toArray w (Ret R) :=
  calls_of_sx (P := P) (fn := Try.f47) (Os := (fun _ => .no)) (Es := []) (args := [a0, a1]) mixed (by kernel_rfl) (by kernel_rfl) (by kernel_rfl) (by kernel_rfl) (by kernel_rfl) (by kernel_rfl) (by kernel_rfl)
    (Eq.mp (show disk_Disk_of_main R a0 a1 w = sxh P (fun _ => .no) [] [] 0 (bodyOf Try.f47) (retQ P Try.f47.results.toList R) (envOf [a0, a1]) w by kernel_rfl) h)
theorem disk_Disk_of_call {R : VCont} {a0 a1 : Value} {w : World} (h : disk_Disk_of_main R a0 a1 w) : xCall P nr.disk_Disk_of [a0, a1] w R :=
  xCall_of (P := P) (fn := Try.f47) (by kernel_rfl) (by kernel_rfl) (by kernel_rfl) (disk_Disk_of_ok h)

/-! slices.Clone[[]byte,byte]: function 48 -/
def slices_Clone_s_byte_byte_main (R : VCont) (a0 : Value) (w : World) : Prop :=
  xEq P .eql 22 false true a0 (Value.slice none 0 0) w fun t1 w =>
  xIf t1
  (R (Value.slice none 0 0) w)
  (xBuildSlice P 22 0 [] w fun t2 w =>
  xBuiltin P .append #[22, 22] 22 [false, false] [t2, a0] w fun t3 w =>
  R t3 w)
theorem slices_Clone_s_byte_byte_ok {R : VCont} {a0 : Value} {w : World} (h : slices_Clone_s_byte_byte_main R a0 w) : Calls P nr.slices_Clone_s_byte_byte [a0].toArray w (Ret R) :=
  calls_of_sx (P := P) (fn := Try.f48) (Os := (fun _ => .no)) (Es := []) (args := [a0]) mixed (by kernel_rfl) (by kernel_rfl) (by kernel_rfl) (by kernel_rfl) (by kernel_rfl) (by kernel_rfl) (by kernel_rfl)
    (Eq.mp (show slices_Clone_s_byte_byte_main R a0 w = sxh P (fun _ => .no) [] [] 0 (bodyOf Try.f48) (retQ P Try.f48.results.toList R) (envOf [a0]) w by kernel_rfl) h)
theorem slices_Clone_s_byte_byte_call {R : VCont} {a0 : Value} {w : World} (h : slices_Clone_s_byte_byte_main R a0 w) : xCall P nr.slices_Clone_s_byte_byte [a0] w R :=
  xCall_of (P := P) (fn := Try.f48) (by kernel_rfl) (by kernel_rfl) (by kernel_rfl) (slices_Clone_s_byte_byte_ok h)

end Go.Proofs.Ytamejkogghpbhaa
