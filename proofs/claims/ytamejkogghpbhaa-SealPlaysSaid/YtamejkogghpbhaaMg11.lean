import Derived.Test.YtamejkogghpbhaaMg10
import Derived.Test.YtamejkogghpbhaaMg4
import Derived.Test.YtamejkogghpbhaaMg9
section
/- Printed by wip/gen/gen.py: the shallow texts of some functions. -/
set_option linter.unusedVariables false
namespace Go.Proofs.Ytamejkogghpbhaa
open Go.Sx

/-! sojourn/disk.New: function 11 -/
def disk_New_main (R : VCont) (a0 : Value) (w : World) : Prop :=
  xBin P .lss 3 a0 (Value.int IntKind.i64 0) w fun t1 w =>
  xWhen t1 false (fun K => K a0 w) w fun t2 w =>
  xWhen t1 false (fun K => xBin P .gtr 3 t2 (Value.int IntKind.i64 1000000) w K) w fun t3 w =>
  xPick t1 (Value.bool true) t3 w fun t4 w =>
  xIf t4
  (R (Value.tuple #[(Value.pointer none), (Value.int IntKind.i64 1)]) w)
  (xMakeMap P 79 none w fun t5 w =>
  xBuild P 81 [(0, t5), (1, a0)] w fun t6 w =>
  xBox P 81 t6 w fun t7 w =>
  R (Value.tuple #[t7, (Value.int IntKind.i64 0)]) w)
theorem disk_New_ok {R : VCont} {a0 : Value} {w : World} (h : disk_New_main R a0 w) : Calls P nr.disk_New [a0].toArray w (Ret R) :=
  calls_of_sx (P := P) (fn := Try.f11) (Os := (fun _ => .no)) (Es := []) (args := [a0]) mixed (by kernel_rfl) (by kernel_rfl) (by kernel_rfl) (by kernel_rfl) (by kernel_rfl) (by kernel_rfl) (by kernel_rfl)
    (Eq.mp (show disk_New_main R a0 w = sxh P (fun _ => .no) [] [] 0 (bodyOf Try.f11) (retQ P Try.f11.results.toList R) (envOf [a0]) w by kernel_rfl) h)
theorem disk_New_call {R : VCont} {a0 : Value} {w : World} (h : disk_New_main R a0 w) : xCall P nr.disk_New [a0] w R :=
  xCall_of (P := P) (fn := Try.f11) (by kernel_rfl) (by kernel_rfl) (by kernel_rfl) (disk_New_ok h)

/-! (*sojourn/disk.Disk).Append: function 13 -/
def disk_Disk_Append_j0 (R : VCont) (v2 v7 : Value) (w : World) : Prop :=
  xNil v7 w fun t16 w =>
  xOff (some 0) t16 w fun t17 w =>
  xLoad1 t17 w fun t18 w =>
  xBuiltin P .append #[22, 22] 22 [false, false] [t18, v2] w fun t19 w =>
  xNil v7 w fun t20 w =>
  xOff (some 0) t20 w fun t21 w =>
  xStore P 22 t21 t19 w fun _ w =>
  R (Value.int IntKind.i64 0) w
def disk_Disk_Append_main (R : VCont) (a0 a1 a2 : Value) (w : World) : Prop :=
  xEq P .eql 23 false true a0 (Value.pointer none) w fun t1 w =>
  xIf t1
  (R (Value.int IntKind.i64 5) w)
  (xCall P nr.disk_may [a1] w fun t2 w =>
  xUn P .not t2 w fun t3 w =>
  xIf t3
  (R (Value.int IntKind.i64 1) w)
  (Sx.dr w fun w =>
  xLen P .pure #[22] a2 w fun t4 _ =>
  xNil a0 w fun t5 _ =>
  xOff (some 1) t5 w fun t6 _ =>
  xLoad1 t6 w fun t7 w' =>
  w' = w ∧
  xCall P nr.disk_Disk_Used [a0] w fun t8 w =>
  (xLoad1 t6 w fun t9 w' =>
  w' = w ∧ t9 = t7) ∧
  xBin P .sub 3 t7 t8 w fun t10 _ =>
  xBin P .gtr 3 t4 t10 w fun t11 _ =>
  xIf t11
  (R (Value.int IntKind.i64 4) w)
  (xNil a0 w fun t12 w =>
  xOff (some 0) t12 w fun t13 w =>
  xLoad1 t13 w fun t14 w =>
  xLookup P 79 t14 a1 false w fun t15 w =>
  xEq P .eql 83 false true t15 (Value.pointer none) w fun t22 w =>
  xIf t22
  (xBuild P 85 [] w fun t23 w =>
  xBox P 85 t23 w fun t24 w =>
  xNil a0 w fun t25 w =>
  xOff (some 0) t25 w fun t26 w =>
  xLoad1 t26 w fun t27 w =>
  xMapUpdate P 79 t27 a1 t24 w fun _ w =>
  disk_Disk_Append_j0 R a2 t24 w)
  (disk_Disk_Append_j0 R a2 t15 w))))
def disk_Disk_Append_os (i : Nat) : OT := cond (Nat.beq i 5) (.fl 0 (.fl 1 (.fl 2 (.fl 3 (.fl 4 (.fl 5 (.fl 6 (.an 7 (.fl 8 (.fl 9 (.fl 10 .done))) .no)))))))) (.no)
def disk_Disk_Append_es (R : VCont) : List Ent := [
  .join fun Xs e w => disk_Disk_Append_j0 R (e 2) (e 7) w]
theorem disk_Disk_Append_ok {R : VCont} {a0 a1 a2 : Value} {w : World} (h : disk_Disk_Append_main R a0 a1 a2 w) : Calls P nr.disk_Disk_Append [a0, a1, a2].toArray w (Ret R) :=
  calls_of_sx (P := P) (fn := Try.f13) (Os := disk_Disk_Append_os) (Es := (disk_Disk_Append_es R)) (args := [a0, a1, a2]) mixed (by kernel_rfl) (by kernel_rfl) (by kernel_rfl) (by kernel_rfl) (by kernel_rfl) (by kernel_rfl) (by kernel_rfl)
    (Eq.mp (show disk_Disk_Append_main R a0 a1 a2 w = sxh P disk_Disk_Append_os (disk_Disk_Append_es R) [] 0 (bodyOf Try.f13) (retQ P Try.f13.results.toList R) (envOf [a0, a1, a2]) w by kernel_rfl) h)
theorem disk_Disk_Append_call {R : VCont} {a0 a1 a2 : Value} {w : World} (h : disk_Disk_Append_main R a0 a1 a2 w) : xCall P nr.disk_Disk_Append [a0, a1, a2] w R :=
  xCall_of (P := P) (fn := Try.f13) (by kernel_rfl) (by kernel_rfl) (by kernel_rfl) (disk_Disk_Append_ok h)

/-! (*sojourn/disk.Disk).Sync: function 14 -/
def disk_Disk_Sync_main (R : VCont) (a0 a1 : Value) (w : World) : Prop :=
  xCall P nr.disk_Disk_of [a0, a1] w fun t1 w =>
  xEq P .eql 83 false true t1 (Value.pointer none) w fun t2 w =>
  xIf t2
  (R (Value.int IntKind.i64 5) w)
  (xNil t1 w fun t3 w =>
  xOff (some 0) t3 w fun t4 w =>
  xLoad1 t4 w fun t5 w =>
  xLen P .pure #[22] t5 w fun t6 w =>
  xNil t1 w fun t7 w =>
  xOff (some 1) t7 w fun t8 w =>
  xStore P 3 t8 t6 w fun _ w =>
  R (Value.int IntKind.i64 0) w)
theorem disk_Disk_Sync_ok {R : VCont} {a0 a1 : Value} {w : World} (h : disk_Disk_Sync_main R a0 a1 w) : Calls P nr.disk_Disk_Sync [a0, a1].toArray w (Ret R) :=
  calls_of_sx (P := P) (fn := Try.f14) (Os := (fun _ => .no)) (Es := []) (args := [a0, a1]) mixed (by kernel_rfl) (by kernel_rfl) (by kernel_rfl) (by kernel_rfl) (by kernel_rfl) (by kernel_rfl) (by kernel_rfl)
    (Eq.mp (show disk_Disk_Sync_main R a0 a1 w = sxh P (fun _ => .no) [] [] 0 (bodyOf Try.f14) (retQ P Try.f14.results.toList R) (envOf [a0, a1]) w by kernel_rfl) h)
theorem disk_Disk_Sync_call {R : VCont} {a0 a1 : Value} {w : World} (h : disk_Disk_Sync_main R a0 a1 w) : xCall P nr.disk_Disk_Sync [a0, a1] w R :=
  xCall_of (P := P) (fn := Try.f14) (by kernel_rfl) (by kernel_rfl) (by kernel_rfl) (disk_Disk_Sync_ok h)

/-! (*sojourn/disk.Disk).Crash: function 15 -/
def disk_Disk_Crash_l0 (R : VCont) (X0 : LX) (v0 v1 v9 v10 v11 : Value) (w : World) : Prop :=
  xBin P .lss 3 v11 v10 w fun t33 w =>
  xIf t33
  (xIndexAddr P 34 v9 v11 w fun t34 w =>
  xLoad1 t34 w fun t35 w =>
  xNil v0 w fun t36 w =>
  xOff (some 0) t36 w fun t37 w =>
  xLoad1 t37 w fun t38 w =>
  xLookup P 79 t38 t35 false w fun t39 w =>
  Sx.dr w fun w =>
  xNil t39 w fun t40 _ =>
  xOff (some 1) t40 w fun t41 _ =>
  xLoad1 t41 w fun t42 w' =>
  w' = w ∧
  xMinMax P true [v1, (Value.int IntKind.i64 0)] w fun t43 _ =>
  xNil t39 w fun t44 _ =>
  xOff (some 0) t44 w fun t45 _ =>
  xLoad1 t45 w fun t46 w' =>
  w' = w ∧
  xLen P .pure #[22] t46 w fun t47 _ =>
  xNil t39 w fun t48 _ =>
  xOff (some 1) t48 w fun t49 _ =>
  xLoad1 t49 w fun t50 w' =>
  w' = w ∧
  xBin P .sub 3 t47 t50 w fun t51 _ =>
  xMinMax P false [t43, t51] w fun t52 _ =>
  xBin P .add 3 t42 t52 w fun t53 _ =>
  xNil t39 w fun t54 w =>
  xOff (some 0) t54 w fun t55 w =>
  xLoad1 t55 w fun t56 w =>
  xSlice P 22 t56 none (some t53) (some t53) w fun t57 w =>
  xNil t39 w fun t58 w =>
  xOff (some 0) t58 w fun t59 w =>
  xStore P 22 t59 t57 w fun _ w =>
  xNil t39 w fun t60 w =>
  xOff (some 1) t60 w fun t61 w =>
  xStore P 3 t61 t53 w fun _ w =>
  xBin P .add 3 v11 (Value.int IntKind.i64 1) w fun t62 w =>
  X0 [t62] w)
  (R (Value.tuple #[]) w)
def disk_Disk_Crash_main (R : VCont) (a0 a1 : Value) (w : World) : Prop :=
  xCall P nr.disk_Disk_Names [a0] w fun t1 w =>
  xLen P .pure #[34] t1 w fun t2 w =>
  Lp (fun X s w => disk_Disk_Crash_l0 R X a0 a1 t1 t2 (s.getD 0 undef) w) [(Value.int IntKind.i64 0)] w
def disk_Disk_Crash_os (i : Nat) : OT := cond (Nat.beq i 4) (.fl 0 (.fl 1 (.fl 2 (.fl 3 (.fl 4 (.fl 5 (.fl 6 (.fl 7 (.fl 8 (.fl 9 (.fl 10 (.fl 11 (.fl 12 (.fl 13 (.fl 14 (.fl 15 (.fl 16 (.fl 17 (.fl 18 .done))))))))))))))))))) (.no)
def disk_Disk_Crash_es (R : VCont) : List Ent := [
  .loop [0, 1, 9, 10] [11] fun Xs fx X s w => disk_Disk_Crash_l0 R X (fx.getD 0 undef) (fx.getD 1 undef) (fx.getD 2 undef) (fx.getD 3 undef) (s.getD 0 undef) w]
theorem disk_Disk_Crash_ok {R : VCont} {a0 a1 : Value} {w : World} (h : disk_Disk_Crash_main R a0 a1 w) : Calls P nr.disk_Disk_Crash [a0, a1].toArray w (Ret R) :=
  calls_of_sx (P := P) (fn := Try.f15) (Os := disk_Disk_Crash_os) (Es := (disk_Disk_Crash_es R)) (args := [a0, a1]) mixed (by kernel_rfl) (by kernel_rfl) (by kernel_rfl) (by kernel_rfl) (by kernel_rfl) (by kernel_rfl) (by kernel_rfl)
    (Eq.mp (show disk_Disk_Crash_main R a0 a1 w = sxh P disk_Disk_Crash_os (disk_Disk_Crash_es R) [] 0 (bodyOf Try.f15) (retQ P Try.f15.results.toList R) (envOf [a0, a1]) w by kernel_rfl) h)
theorem disk_Disk_Crash_call {R : VCont} {a0 a1 : Value} {w : World} (h : disk_Disk_Crash_main R a0 a1 w) : xCall P nr.disk_Disk_Crash [a0, a1] w R :=
  xCall_of (P := P) (fn := Try.f15) (by kernel_rfl) (by kernel_rfl) (by kernel_rfl) (disk_Disk_Crash_ok h)

/-! (*sojourn/disk.Disk).Read: function 16 -/
def disk_Disk_Read_main (R : VCont) (a0 a1 : Value) (w : World) : Prop :=
  xCall P nr.disk_Disk_of [a0, a1] w fun t1 w =>
  xEq P .eql 83 false true t1 (Value.pointer none) w fun t2 w =>
  xIf t2
  (R (Value.tuple #[(Value.slice none 0 0), (Value.int IntKind.i64 5)]) w)
  (xNil t1 w fun t3 w =>
  xOff (some 0) t3 w fun t4 w =>
  xLoad1 t4 w fun t5 w =>
  xCall P nr.slices_Clone_s_byte_byte [t5] w fun t6 w =>
  R (Value.tuple #[t6, (Value.int IntKind.i64 0)]) w)
theorem disk_Disk_Read_ok {R : VCont} {a0 a1 : Value} {w : World} (h : disk_Disk_Read_main R a0 a1 w) : Calls P nr.disk_Disk_Read [a0, a1].toArray w (Ret R) :=
  calls_of_sx (P := P) (fn := Try.f16) (Os := (fun _ => .no)) (Es := []) (args := [a0, a1]) mixed (by kernel_rfl) (by kernel_rfl) (by kernel_rfl) (by kernel_rfl) (by kernel_rfl) (by kernel_rfl) (by kernel_rfl)
    (Eq.mp (show disk_Disk_Read_main R a0 a1 w = sxh P (fun _ => .no) [] [] 0 (bodyOf Try.f16) (retQ P Try.f16.results.toList R) (envOf [a0, a1]) w by kernel_rfl) h)
theorem disk_Disk_Read_call {R : VCont} {a0 a1 : Value} {w : World} (h : disk_Disk_Read_main R a0 a1 w) : xCall P nr.disk_Disk_Read [a0, a1] w R :=
  xCall_of (P := P) (fn := Try.f16) (by kernel_rfl) (by kernel_rfl) (by kernel_rfl) (disk_Disk_Read_ok h)

/-! (*sojourn/disk.Disk).Synced: function 17 -/
def disk_Disk_Synced_main (R : VCont) (a0 a1 : Value) (w : World) : Prop :=
  xCall P nr.disk_Disk_of [a0, a1] w fun t1 w =>
  xEq P .eql 83 false true t1 (Value.pointer none) w fun t2 w =>
  xIf t2
  (R (Value.int IntKind.i64 0) w)
  (xNil t1 w fun t3 w =>
  xOff (some 1) t3 w fun t4 w =>
  xLoad1 t4 w fun t5 w =>
  R t5 w)
theorem disk_Disk_Synced_ok {R : VCont} {a0 a1 : Value} {w : World} (h : disk_Disk_Synced_main R a0 a1 w) : Calls P nr.disk_Disk_Synced [a0, a1].toArray w (Ret R) :=
  calls_of_sx (P := P) (fn := Try.f17) (Os := (fun _ => .no)) (Es := []) (args := [a0, a1]) mixed (by kernel_rfl) (by kernel_rfl) (by kernel_rfl) (by kernel_rfl) (by kernel_rfl) (by kernel_rfl) (by kernel_rfl)
    (Eq.mp (show disk_Disk_Synced_main R a0 a1 w = sxh P (fun _ => .no) [] [] 0 (bodyOf Try.f17) (retQ P Try.f17.results.toList R) (envOf [a0, a1]) w by kernel_rfl) h)
theorem disk_Disk_Synced_call {R : VCont} {a0 a1 : Value} {w : World} (h : disk_Disk_Synced_main R a0 a1 w) : xCall P nr.disk_Disk_Synced [a0, a1] w R :=
  xCall_of (P := P) (fn := Try.f17) (by kernel_rfl) (by kernel_rfl) (by kernel_rfl) (disk_Disk_Synced_ok h)

/-! (*sojourn/disk.Disk).Used: function 18 -/
def disk_Disk_Used_j0 (R : VCont) (v3 : Value) (w : World) : Prop :=
  R v3 w
def disk_Disk_Used_l1 (R : VCont) (X0 : LX) (v0 v7 v8 v3 v9 : Value) (w : World) : Prop :=
  xBin P .lss 3 v9 v8 w fun t16 w =>
  xIf t16
  (xIndexAddr P 34 v7 v9 w fun t17 w =>
  xLoad1 t17 w fun t18 w =>
  xNil v0 w fun t19 w =>
  xOff (some 0) t19 w fun t20 w =>
  xLoad1 t20 w fun t21 w =>
  xLookup P 79 t21 t18 false w fun t22 w =>
  xNil t22 w fun t23 w =>
  xOff (some 0) t23 w fun t24 w =>
  xLoad1 t24 w fun t25 w =>
  xLen P .pure #[22] t25 w fun t26 w =>
  xBin P .add 3 v3 t26 w fun t27 w =>
  xBin P .add 3 v9 (Value.int IntKind.i64 1) w fun t28 w =>
  X0 [t27, t28] w)
  (disk_Disk_Used_j0 R v3 w)
def disk_Disk_Used_main (R : VCont) (a0 : Value) (w : World) : Prop :=
  xCall P nr.disk_Disk_Names [a0] w fun t1 w =>
  xLen P .pure #[34] t1 w fun t2 w =>
  Lp (fun X s w => disk_Disk_Used_l1 R X a0 t1 t2 (s.getD 0 undef) (s.getD 1 undef) w) [(Value.int IntKind.i64 0), (Value.int IntKind.i64 0)] w
def disk_Disk_Used_es (R : VCont) : List Ent := [
  .join fun Xs e w => disk_Disk_Used_j0 R (e 3) w,
  .loop [0, 7, 8] [3, 9] fun Xs fx X s w => disk_Disk_Used_l1 R X (fx.getD 0 undef) (fx.getD 1 undef) (fx.getD 2 undef) (s.getD 0 undef) (s.getD 1 undef) w]
theorem disk_Disk_Used_ok {R : VCont} {a0 : Value} {w : World} (h : disk_Disk_Used_main R a0 w) : Calls P nr.disk_Disk_Used [a0].toArray w (Ret R) :=
  calls_of_sx (P := P) (fn := Try.f18) (Os := (fun _ => .no)) (Es := (disk_Disk_Used_es R)) (args := [a0]) mixed (by kernel_rfl) (by kernel_rfl) (by kernel_rfl) (by kernel_rfl) (by kernel_rfl) (by kernel_rfl) (by kernel_rfl)
    (Eq.mp (show disk_Disk_Used_main R a0 w = sxh P (fun _ => .no) (disk_Disk_Used_es R) [] 0 (bodyOf Try.f18) (retQ P Try.f18.results.toList R) (envOf [a0]) w by kernel_rfl) h)
theorem disk_Disk_Used_call {R : VCont} {a0 : Value} {w : World} (h : disk_Disk_Used_main R a0 w) : xCall P nr.disk_Disk_Used [a0] w R :=
  xCall_of (P := P) (fn := Try.f18) (by kernel_rfl) (by kernel_rfl) (by kernel_rfl) (disk_Disk_Used_ok h)

/-! (*sojourn/disk.Disk).Names: function 19 -/
def disk_Disk_Names_main (R : VCont) (a0 : Value) (w : World) : Prop :=
  xEq P .eql 23 false true a0 (Value.pointer none) w fun t1 w =>
  xIf t1
  (R (Value.slice none 0 0) w)
  (xNil a0 w fun t2 w =>
  xOff (some 0) t2 w fun t3 w =>
  xLoad1 t3 w fun t4 w =>
  xCall P nr.maps_Keys_m_string_p_disk_file_string_p_disk_file [t4] w fun t5 w =>
  xCall P nr.slices_Sorted_string [t5] w fun t6 w =>
  R t6 w)
theorem disk_Disk_Names_ok {R : VCont} {a0 : Value} {w : World} (h : disk_Disk_Names_main R a0 w) : Calls P nr.disk_Disk_Names [a0].toArray w (Ret R) :=
  calls_of_sx (P := P) (fn := Try.f19) (Os := (fun _ => .no)) (Es := []) (args := [a0]) mixed (by kernel_rfl) (by kernel_rfl) (by kernel_rfl) (by kernel_rfl) (by kernel_rfl) (by kernel_rfl) (by kernel_rfl)
    (Eq.mp (show disk_Disk_Names_main R a0 w = sxh P (fun _ => .no) [] [] 0 (bodyOf Try.f19) (retQ P Try.f19.results.toList R) (envOf [a0]) w by kernel_rfl) h)
theorem disk_Disk_Names_call {R : VCont} {a0 : Value} {w : World} (h : disk_Disk_Names_main R a0 w) : xCall P nr.disk_Disk_Names [a0] w R :=
  xCall_of (P := P) (fn := Try.f19) (by kernel_rfl) (by kernel_rfl) (by kernel_rfl) (disk_Disk_Names_ok h)

/-! (*sojourn/disk.Disk).Rename: function 20 -/
def disk_Disk_Rename_main (R : VCont) (a0 a1 a2 : Value) (w : World) : Prop :=
  xCall P nr.disk_Disk_of [a0, a1] w fun t1 w =>
  xEq P .eql 83 false true t1 (Value.pointer none) w fun t2 w =>
  xIf t2
  (R (Value.int IntKind.i64 5) w)
  (xCall P nr.disk_may [a2] w fun t3 w =>
  xUn P .not t3 w fun t4 w =>
  xIf t4
  (R (Value.int IntKind.i64 1) w)
  (xNil a0 w fun t5 w =>
  xOff (some 0) t5 w fun t6 w =>
  xLoad1 t6 w fun t7 w =>
  xBuiltin P .delete #[79, 9] 0 [false, false] [t7, a1] w fun _ w =>
  xNil a0 w fun t8 w =>
  xOff (some 0) t8 w fun t9 w =>
  xLoad1 t9 w fun t10 w =>
  xMapUpdate P 79 t10 a2 t1 w fun _ w =>
  R (Value.int IntKind.i64 0) w))
theorem disk_Disk_Rename_ok {R : VCont} {a0 a1 a2 : Value} {w : World} (h : disk_Disk_Rename_main R a0 a1 a2 w) : Calls P nr.disk_Disk_Rename [a0, a1, a2].toArray w (Ret R) :=
  calls_of_sx (P := P) (fn := Try.f20) (Os := (fun _ => .no)) (Es := []) (args := [a0, a1, a2]) mixed (by kernel_rfl) (by kernel_rfl) (by kernel_rfl) (by kernel_rfl) (by kernel_rfl) (by kernel_rfl) (by kernel_rfl)
    (Eq.mp (show disk_Disk_Rename_main R a0 a1 a2 w = sxh P (fun _ => .no) [] [] 0 (bodyOf Try.f20) (retQ P Try.f20.results.toList R) (envOf [a0, a1, a2]) w by kernel_rfl) h)
theorem disk_Disk_Rename_call {R : VCont} {a0 a1 a2 : Value} {w : World} (h : disk_Disk_Rename_main R a0 a1 a2 w) : xCall P nr.disk_Disk_Rename [a0, a1, a2] w R :=
  xCall_of (P := P) (fn := Try.f20) (by kernel_rfl) (by kernel_rfl) (by kernel_rfl) (disk_Disk_Rename_ok h)

/-! (*sojourn/disk.Disk).Cut: function 23 -/
def disk_Disk_Cut_main (R : VCont) (a0 a1 a2 : Value) (w : World) : Prop :=
  xCall P nr.disk_Disk_of [a0, a1] w fun t1 w =>
  xEq P .eql 83 false true t1 (Value.pointer none) w fun t2 w =>
  xIf t2
  (R (Value.int IntKind.i64 5) w)
  (xBin P .lss 3 a2 (Value.int IntKind.i64 0) w fun t3 w =>
  xWhen t3 false (fun K => K a2 w) w fun t4 w =>
  xWhen t3 false (fun K => K t1 w) w fun t5 w =>
  xWhen t3 false (fun K => xNil t5 w K) w fun t6 w =>
  xWhen t3 false (fun K => xOff (some 0) t6 w K) w fun t7 w =>
  xWhen t3 false (fun K => xLoad1 t7 w K) w fun t8 w =>
  xWhen t3 false (fun K => xLen P .pure #[22] t8 w K) w fun t9 w =>
  xWhen t3 false (fun K => xBin P .gtr 3 t4 t9 w K) w fun t10 w =>
  xPick t3 (Value.bool true) t10 w fun t11 w =>
  xIf t11
  (R (Value.int IntKind.i64 3) w)
  (xNil t1 w fun t12 w =>
  xOff (some 0) t12 w fun t13 w =>
  xLoad1 t13 w fun t14 w =>
  xSlice P 22 t14 none (some a2) (some a2) w fun t15 w =>
  xNil t1 w fun t16 w =>
  xOff (some 0) t16 w fun t17 w =>
  xStore P 22 t17 t15 w fun _ w =>
  xNil t1 w fun t18 w =>
  xOff (some 1) t18 w fun t19 w =>
  xStore P 3 t19 a2 w fun _ w =>
  R (Value.int IntKind.i64 0) w))
theorem disk_Disk_Cut_ok {R : VCont} {a0 a1 a2 : Value} {w : World} (h : disk_Disk_Cut_main R a0 a1 a2 w) : Calls P nr.disk_Disk_Cut [a0, a1, a2].toArray w (Ret R) :=
  calls_of_sx (P := P) (fn := Try.f23) (Os := (fun _ => .no)) (Es := []) (args := [a0, a1, a2]) mixed (by kernel_rfl) (by kernel_rfl) (by kernel_rfl) (by kernel_rfl) (by kernel_rfl) (by kernel_rfl) (by kernel_rfl)
    (Eq.mp (show disk_Disk_Cut_main R a0 a1 a2 w = sxh P (fun _ => .no) [] [] 0 (bodyOf Try.f23) (retQ P Try.f23.results.toList R) (envOf [a0, a1, a2]) w by kernel_rfl) h)
theorem disk_Disk_Cut_call {R : VCont} {a0 a1 a2 : Value} {w : World} (h : disk_Disk_Cut_main R a0 a1 a2 w) : xCall P nr.disk_Disk_Cut [a0, a1, a2] w R :=
  xCall_of (P := P) (fn := Try.f23) (by kernel_rfl) (by kernel_rfl) (by kernel_rfl) (disk_Disk_Cut_ok h)

/-! (*sojourn/disk.Disk).Remove: function 26 -/
def disk_Disk_Remove_main (R : VCont) (a0 a1 : Value) (w : World) : Prop :=
  xCall P nr.disk_Disk_of [a0, a1] w fun t1 w =>
  xEq P .eql 83 false true t1 (Value.pointer none) w fun t2 w =>
  xIf t2
  (R (Value.int IntKind.i64 5) w)
  (xNil a0 w fun t3 w =>
  xOff (some 0) t3 w fun t4 w =>
  xLoad1 t4 w fun t5 w =>
  xBuiltin P .delete #[79, 9] 0 [false, false] [t5, a1] w fun _ w =>
  R (Value.int IntKind.i64 0) w)
theorem disk_Disk_Remove_ok {R : VCont} {a0 a1 : Value} {w : World} (h : disk_Disk_Remove_main R a0 a1 w) : Calls P nr.disk_Disk_Remove [a0, a1].toArray w (Ret R) :=
  calls_of_sx (P := P) (fn := Try.f26) (Os := (fun _ => .no)) (Es := []) (args := [a0, a1]) mixed (by kernel_rfl) (by kernel_rfl) (by kernel_rfl) (by kernel_rfl) (by kernel_rfl) (by kernel_rfl) (by kernel_rfl)
    (Eq.mp (show disk_Disk_Remove_main R a0 a1 w = sxh P (fun _ => .no) [] [] 0 (bodyOf Try.f26) (retQ P Try.f26.results.toList R) (envOf [a0, a1]) w by kernel_rfl) h)
theorem disk_Disk_Remove_call {R : VCont} {a0 a1 : Value} {w : World} (h : disk_Disk_Remove_main R a0 a1 w) : xCall P nr.disk_Disk_Remove [a0, a1] w R :=
  xCall_of (P := P) (fn := Try.f26) (by kernel_rfl) (by kernel_rfl) (by kernel_rfl) (disk_Disk_Remove_ok h)

/-! (*sojourn/disk.Disk).Copy: function 29 -/
def disk_Disk_Copy_j0 (R : VCont) (v3 : Value) (w : World) : Prop :=
  R v3 w
def disk_Disk_Copy_l1 (R : VCont) (X0 : LX) (v3 v19 : Value) (w : World) : Prop :=
  xIter P v19 false 0 w fun t32 w =>
  xExtract t32 0 w fun t33 w =>
  xIf t33
  (xEntry P v19 w fun t34 w =>
  xExtract t34 0 w fun t35 w =>
  xExtract t34 1 w fun t36 w =>
  Sx.dr w fun w =>
  xNil v3 w fun t37 _ =>
  xOff (some 0) t37 w fun t38 _ =>
  xLoad1 t38 w fun t39 w' =>
  w' = w ∧
  xNil t36 w fun t40 _ =>
  xOff (some 0) t40 w fun t41 _ =>
  xLoad1 t41 w fun t42 w' =>
  w' = w ∧
  xNil t36 w fun t43 _ =>
  xOff (some 1) t43 w fun t44 _ =>
  xLoad1 t44 w fun t45 w' =>
  w' = w ∧
  xCall P nr.slices_Clone_s_byte_byte [t42] w fun t46 w =>
  (xLoad1 t44 w fun t47 w' =>
  w' = w ∧ t47 = t45) ∧
  (xLoad1 t38 w fun t48 w' =>
  w' = w ∧ t48 = t39) ∧
  xBuild P 85 [(0, t46), (1, t45)] w fun t49 _ =>
  xBox P 85 t49 w fun t50 w =>
  (xLoad1 t38 w fun t51 w' =>
  w' = w ∧ t51 = t39) ∧
  xMapUpdate P 79 t39 t35 t50 w fun _ w =>
  X0 [] w)
  (disk_Disk_Copy_j0 R v3 w)
def disk_Disk_Copy_main (R : VCont) (a0 : Value) (w : World) : Prop :=
  xEq P .eql 23 false true a0 (Value.pointer none) w fun t1 w =>
  xIf t1
  (R (Value.pointer none) w)
  (xMakeMap P 79 none w fun t2 w =>
  xNil a0 w fun t3 w =>
  xOff (some 1) t3 w fun t4 w =>
  xLoad1 t4 w fun t5 w =>
  xBuild P 81 [(0, t2), (1, t5)] w fun t6 w =>
  xBox P 81 t6 w fun t7 w =>
  xNil a0 w fun t8 w =>
  xOff (some 0) t8 w fun t9 w =>
  xLoad1 t9 w fun t10 w =>
  xRange P 79 t10 w fun t11 w =>
  Lp (fun X s w => disk_Disk_Copy_l1 R X t7 t11 w) [] w)
def disk_Disk_Copy_os (i : Nat) : OT := cond (Nat.beq i 7) (.fl 0 (.fl 1 (.fl 2 (.fl 3 (.fl 4 (.fl 5 (.fl 6 (.fl 7 (.fl 8 (.fl 10 (.fl 11 (.fl 12 (.fl 13 (.an 9 (.fl 14 (.an 15 (.an 16 .done .no) .no)) .no)))))))))))))) (.no)
def disk_Disk_Copy_es (R : VCont) : List Ent := [
  .join fun Xs e w => disk_Disk_Copy_j0 R (e 3) w,
  .loop [3, 19] [] fun Xs fx X s w => disk_Disk_Copy_l1 R X (fx.getD 0 undef) (fx.getD 1 undef) w]
theorem disk_Disk_Copy_ok {R : VCont} {a0 : Value} {w : World} (h : disk_Disk_Copy_main R a0 w) : Calls P nr.disk_Disk_Copy [a0].toArray w (Ret R) :=
  calls_of_sx (P := P) (fn := Try.f29) (Os := disk_Disk_Copy_os) (Es := (disk_Disk_Copy_es R)) (args := [a0]) mixed (by kernel_rfl) (by kernel_rfl) (by kernel_rfl) (by kernel_rfl) (by kernel_rfl) (by kernel_rfl) (by kernel_rfl)
    (Eq.mp (show disk_Disk_Copy_main R a0 w = sxh P disk_Disk_Copy_os (disk_Disk_Copy_es R) [] 0 (bodyOf Try.f29) (retQ P Try.f29.results.toList R) (envOf [a0]) w by kernel_rfl) h)
theorem disk_Disk_Copy_call {R : VCont} {a0 : Value} {w : World} (h : disk_Disk_Copy_main R a0 w) : xCall P nr.disk_Disk_Copy [a0] w R :=
  xCall_of (P := P) (fn := Try.f29) (by kernel_rfl) (by kernel_rfl) (by kernel_rfl) (disk_Disk_Copy_ok h)

/-! sojourn/disk.may: function 46 -/
def disk_may_main (R : VCont) (a0 : Value) (w : World) : Prop :=
  xLen P .pure #[9] a0 w fun t1 w =>
  xBin P .geq 3 t1 (Value.int IntKind.i64 1) w fun t2 w =>
  xWhen t2 true (fun K => K a0 w) w fun t3 w =>
  xWhen t2 true (fun K => xLen P .pure #[9] t3 w K) w fun t4 w =>
  xWhen t2 true (fun K => xBin P .leq 3 t4 (Value.int IntKind.i64 20) w K) w fun t5 w =>
  xPick t2 t5 (Value.bool false) w fun t6 w =>
  R t6 w
theorem disk_may_ok {R : VCont} {a0 : Value} {w : World} (h : disk_may_main R a0 w) : Calls P nr.disk_may [a0].toArray w (Ret R) :=
  calls_of_sx (P := P) (fn := Try.f46) (Os := (fun _ => .no)) (Es := []) (args := [a0]) mixed (by kernel_rfl) (by kernel_rfl) (by kernel_rfl) (by kernel_rfl) (by kernel_rfl) (by kernel_rfl) (by kernel_rfl)
    (Eq.mp (show disk_may_main R a0 w = sxh P (fun _ => .no) [] [] 0 (bodyOf Try.f46) (retQ P Try.f46.results.toList R) (envOf [a0]) w by kernel_rfl) h)
theorem disk_may_call {R : VCont} {a0 : Value} {w : World} (h : disk_may_main R a0 w) : xCall P nr.disk_may [a0] w R :=
  xCall_of (P := P) (fn := Try.f46) (by kernel_rfl) (by kernel_rfl) (by kernel_rfl) (disk_may_ok h)

/-! (*sojourn/disk.Disk).of: function 47 -/
def disk_Disk_of_main (R : VCont) (a0 a1 : Value) (w : World) : Prop :=
  xEq P .eql 23 false true a0 (Value.pointer none) w fun t1 w =>
  xIf t1
  (R (Value.pointer none) w)
  (xNil a0 w fun t2 w =>
  xOff (some 0) t2 w fun t3 w =>
  xLoad1 t3 w fun t4 w =>
  xLookup P 79 t4 a1 false w fun t5 w =>
  R t5 w)
theorem disk_Disk_of_ok {R : VCont} {a0 a1 : Value} {w : World} (h : disk_Disk_of_main R a0 a1 w) : Calls P nr.disk_Disk_of [a0, a1].toArray w (Ret R) :=
  calls_of_sx (P := P) (fn := Try.f47) (Os := (fun _ => .no)) (Es := []) (args := [a0, a1]) mixed (by kernel_rfl) (by kernel_rfl) (by kernel_rfl) (by kernel_rfl) (by kernel_rfl) (by kernel_rfl) (by kernel_rfl)
    (Eq.mp (show disk_Disk_of_main R a0 a1 w = sxh P (fun _ => .no) [] [] 0 (bodyOf Try.f47) (retQ P Try.f47.results.toList R) (envOf [a0, a1]) w by kernel_rfl) h)
theorem disk_Disk_of_call {R : VCont} {a0 a1 : Value} {w : World} (h : disk_Disk_of_main R a0 a1 w) : xCall P nr.disk_Disk_of [a0, a1] w R :=
  xCall_of (P := P) (fn := Try.f47) (by kernel_rfl) (by kernel_rfl) (by kernel_rfl) (disk_Disk_of_ok h)

/-! slices.Clone[[]byte,byte]: function 48 -/
def slices_Clone_s_byte_byte_main (R : VCont) (a0 : Value) (w : World) : Prop :=
  xEq P .eql 22 false true a0 (Value.slice none 0 0) w fun t1 w =>
  xIf t1
  (R (Value.slice none 0 0) w)
  (xBuildSlice P 22 0 [] w fun t2 w =>
  xBuiltin P .append #[22, 22] 22 [false, false] [t2, a0] w fun t3 w =>
  R t3 w)
theorem slices_Clone_s_byte_byte_ok {R : VCont} {a0 : Value} {w : World} (h : slices_Clone_s_byte_byte_main R a0 w) : Calls P nr.slices_Clone_s_byte_byte [a0].toArray w (Ret R) :=
  calls_of_sx (P := P) (fn := Try.f48) (Os := (fun _ => .no)) (Es := []) (args := [a0]) mixed (by kernel_rfl) (by kernel_rfl) (by kernel_rfl) (by kernel_rfl) (by kernel_rfl) (by kernel_rfl) (by kernel_rfl)
    (Eq.mp (show slices_Clone_s_byte_byte_main R a0 w = sxh P (fun _ => .no) [] [] 0 (bodyOf Try.f48) (retQ P Try.f48.results.toList R) (envOf [a0]) w by kernel_rfl) h)
theorem slices_Clone_s_byte_byte_call {R : VCont} {a0 : Value} {w : World} (h : slices_Clone_s_byte_byte_main R a0 w) : xCall P nr.slices_Clone_s_byte_byte [a0] w R :=
  xCall_of (P := P) (fn := Try.f48) (by kernel_rfl) (by kernel_rfl) (by kernel_rfl) (slices_Clone_s_byte_byte_ok h)

end Go.Proofs.Ytamejkogghpbhaa
end
section
/- The disk: what its calls do to memory. -/
set_option linter.unusedVariables false
set_option linter.unusedSimpArgs false
namespace Go.Proofs.Ytamejkogghpbhaa
open Go.Sx

abbrev ptr (b : Nat) : Value := .pointer (some ⟨b, 0, none⟩)
abbrev i64 (n : Int) : Value := .int .i64 n
noncomputable abbrev sk := Go.Sx.strKeys (P := P) (k := 9) und.string

/-- a file in memory -/
structure FR where
  fb : Nat
  sv : Value
  bs : List UInt8
  syn : Nat
def FR.blocks (f : FR) : List Nat := f.fb :: f.sv.ownBlock.toList
structure FileAt (w : World) (f : FR) : Prop where
  blk : w.heap[f.fb]? = some (.cells #[f.sv, i64 f.syn] ty.disk_file (0, 0))
  own : Own w 5 1 f.sv f.bs.length (f.bs.map bv)
  syn : f.syn ≤ f.bs.length
  ne : f.sv.ownBlock ≠ some f.fb
theorem FileAt.keep {S : Nat → Prop} {w w' : World} {f : FR} (h : FileAt w f) (hc : Chg S w w') (hn : ∀ b ∈ f.blocks, ¬ S b) : FileAt w' f :=
  ⟨hc.keep h.blk (hn _ (by simp [FR.blocks])), h.own.keep hc (fun g hg => hn g (by simp [FR.blocks, hg])), h.syn, h.ne⟩
theorem FileAt.lt {w : World} {f : FR} (h : FileAt w f) : ∀ b ∈ f.blocks, b < w.heap.size := by
  intro b hb
  simp only [FR.blocks, List.mem_cons, Option.mem_toList] at hb
  rcases hb with rfl | hb
  · exact size_pos h.blk
  · exact h.own.lt hb

abbrev Files := List (ByteArray × FR)
def ents (L : Files) : List (ByteArray × Value) := L.map fun p => (p.1, ptr p.2.fb)
def used (L : Files) : Nat := (L.map fun p => p.2.bs.length).sum
def find (L : Files) (a : ByteArray) : Option FR := (L.find? fun p => decide (p.1 = a)).map (·.2)
def mayB (s : ByteArray) : Bool := decide (1 ≤ (s.size : Int)) && decide ((s.size : Int) ≤ 20)
/-- a disk in memory: its block, its room, its map's block, its files -/
structure DiskAt (w : World) (d room m : Nat) (L : Files) : Prop where
  blk : w.heap[d]? = some (.cells #[.map (some m), i64 room] ty.disk_Disk (0, 0))
  map : MapAt .string w m (ents L)
  dm : d ≠ m
  files : ∀ p ∈ L, FileAt w p.2
  apart : ∀ p ∈ L, ∀ b ∈ p.2.blocks, b ≠ d ∧ b ≠ m
  pair : L.Pairwise fun p q => ∀ b ∈ p.2.blocks, b ∉ q.2.blocks
  hroom : room ≤ 1000000
  fits : used L ≤ room
  names : ∀ p ∈ L, mayB p.1 = true
def foot (d m : Nat) (L : Files) (b : Nat) : Prop := b = d ∨ b = m ∨ ∃ p ∈ L, b ∈ p.2.blocks
theorem DiskAt.keep {S : Nat → Prop} {w w' : World} {d room m : Nat} {L : Files} (h : DiskAt w d room m L) (hc : Chg S w w') (hn : ∀ b, foot d m L b → ¬ S b) : DiskAt w' d room m L :=
  ⟨hc.keep h.blk (hn d (.inl rfl)), h.map.keep hc (hn m (.inr (.inl rfl))), h.dm, fun p hp => (h.files p hp).keep hc fun b hb => hn b (.inr (.inr ⟨p, hp, hb⟩)), h.apart, h.pair, h.hroom, h.fits, h.names⟩
theorem DiskAt.keep' {w w' : World} {d room m : Nat} {L : Files} (h : DiskAt w d room m L) (hc : Chg none' w w') : DiskAt w' d room m L := h.keep hc fun _ _ h => h
theorem DiskAt.lt {w : World} {d room m : Nat} {L : Files} (h : DiskAt w d room m L) {b : Nat} (hb : foot d m L b) : b < w.heap.size := by
  rcases hb with rfl | rfl | ⟨p, hp, hb⟩
  · exact size_pos h.blk
  · exact h.map.lt
  · exact (h.files p hp).lt b hb

theorem get_ents (L : Files) (a : ByteArray) : mget (ents L) a = (find L a).map fun f => ptr f.fb := by
  unfold mget ents find
  rw [List.find?_map]
  simp only [Option.map_map]
  rfl
def fptr (L : Files) (a : ByteArray) : Value := .pointer ((find L a).map fun f => ⟨f.fb, 0, none⟩)
theorem getD_fptr (L : Files) (a : ByteArray) : (mget (ents L) a).getD (.pointer none) = fptr L a := by
  rw [get_ents]; unfold fptr
  cases find L a <;> rfl
theorem find_mem {L : Files} {a : ByteArray} {f : FR} (h : find L a = some f) : (a, f) ∈ L := by
  unfold find at h
  rw [Option.map_eq_some_iff] at h
  obtain ⟨p, hp, rfl⟩ := h
  have h1 := List.find?_some hp
  have h2 := List.mem_of_find?_eq_some hp
  have : p.1 = a := by simpa using h1
  rw [← this]; exact h2

def upd (L : Files) (a : ByteArray) (f : FR) : Files := L.map fun p => if p.1 = a then (a, f) else p
def rem (L : Files) (a : ByteArray) : Files := L.filter fun p => decide (p.1 ≠ a)
theorem find_none {L : Files} {a : ByteArray} : find L a = none ↔ ∀ p ∈ L, p.1 ≠ a := by
  unfold find
  rw [Option.map_eq_none_iff, List.find?_eq_none]
  simp
theorem upd_self {L : Files} {a : ByteArray} {f : FR} (h : ∀ p ∈ L, p.1 ≠ a) : upd L a f = L := by
  unfold upd
  rw [List.map_congr_left (g := id) (fun p hp => by simp [h p hp])]
  simp
theorem rem_self {L : Files} {a : ByteArray} (h : ∀ p ∈ L, p.1 ≠ a) : rem L a = L := by
  unfold rem
  rw [List.filter_eq_self]
  intro p hp
  simpa using h p hp
theorem find_split {L : Files} {a : ByteArray} {f : FR} (hn : (L.map (·.1)).Nodup) (h : find L a = some f) :
    ∃ L1 L2, L = L1 ++ (a, f) :: L2 ∧ (∀ p ∈ L1, p.1 ≠ a) ∧ ∀ p ∈ L2, p.1 ≠ a := by
  obtain ⟨L1, L2, rfl⟩ := List.append_of_mem (find_mem h)
  refine ⟨L1, L2, rfl, ?_, ?_⟩
  · intro p hp hpa
    rw [List.map_append, List.nodup_append] at hn
    exact hn.2.2 p.1 (List.mem_map.2 ⟨p, hp, rfl⟩) a (by simp) hpa
  · intro p hp hpa
    rw [List.map_append, List.nodup_append] at hn
    have := hn.2.1
    rw [List.map_cons, List.nodup_cons] at this
    exact this.1 (List.mem_map.2 ⟨p, hp, hpa⟩)
theorem split_upd {L1 L2 : Files} {a : ByteArray} {f f' : FR} (h1 : ∀ p ∈ L1, p.1 ≠ a) (h2 : ∀ p ∈ L2, p.1 ≠ a) : upd (L1 ++ (a, f) :: L2) a f' = L1 ++ (a, f') :: L2 := by
  have e1 := upd_self (f := f') h1
  have e2 := upd_self (f := f') h2
  unfold upd at *
  rw [List.map_append, List.map_cons, e1, e2]
  simp
theorem split_rem {L1 L2 : Files} {a : ByteArray} {f : FR} (h1 : ∀ p ∈ L1, p.1 ≠ a) (h2 : ∀ p ∈ L2, p.1 ≠ a) : rem (L1 ++ (a, f) :: L2) a = L1 ++ L2 := by
  have e1 := rem_self h1
  have e2 := rem_self h2
  unfold rem at *
  rw [List.filter_append, List.filter_cons, e1, e2]
  simp
theorem used_upd {L : Files} {a : ByteArray} {f f' : FR} (hn : (L.map (·.1)).Nodup) (hf : find L a = some f) : used (upd L a f') + f.bs.length = used L + f'.bs.length := by
  obtain ⟨L1, L2, rfl, h1, h2⟩ := find_split hn hf
  rw [split_upd h1 h2]
  simp only [used, List.map_append, List.map_cons, List.sum_append, List.sum_cons]
  omega
theorem used_rem {L : Files} {a : ByteArray} {f : FR} (hn : (L.map (·.1)).Nodup) (hf : find L a = some f) : used (rem L a) + f.bs.length = used L := by
  obtain ⟨L1, L2, rfl, h1, h2⟩ := find_split hn hf
  rw [split_rem h1 h2]
  simp only [used, List.map_append, List.map_cons, List.sum_append, List.sum_cons]
  omega
theorem DiskAt.nodup {w : World} {d room m : Nat} {L : Files} (h : DiskAt w d room m L) : (L.map (·.1)).Nodup := by
  obtain ⟨_, _, _, _, _, _, hn⟩ := h.map
  simpa [ents, List.map_map, Function.comp_def] using hn

/-- one file is another one, in the same block -/
theorem DiskAt.upd {w w' : World} {d room m : Nat} {L : Files} (h : DiskAt w d room m L) {a : ByteArray} {f f' : FR} (hf : find L a = some f) (hfb : f'.fb = f.fb) (hF : FileAt w' f')
    (hc : Chg (fun b => b ∈ f.blocks) w w') (hnew : ∀ b ∈ f'.blocks, b ∈ f.blocks ∨ w.heap.size ≤ b) (hu : used (upd L a f') ≤ room) : DiskAt w' d room m (upd L a f') := by
  obtain ⟨L1, L2, rfl, h1, h2⟩ := find_split h.nodup hf
  rw [split_upd h1 h2] at hu ⊢
  have hfm : (a, f) ∈ L1 ++ (a, f) :: L2 := by simp
  have hpair := h.pair
  rw [List.pairwise_append, List.pairwise_cons] at hpair
  obtain ⟨hp1, ⟨hp2, hp3⟩, hp4⟩ := hpair
  -- the others' blocks are not its
  have o1 : ∀ p ∈ L1, ∀ b ∈ p.2.blocks, b ∉ f.blocks := fun p hp b hb => hp4 p hp (a, f) (by simp) b hb
  have o2 : ∀ p ∈ L2, ∀ b ∈ p.2.blocks, b ∉ f.blocks := fun p hp b hb hbf => hp2 p hp b hbf hb
  have other : ∀ p, p ∈ L1 ∨ p ∈ L2 → p ∈ L1 ++ (a, f) :: L2 := by intro p hp; rcases hp with hp | hp <;> simp [hp]
  have old : ∀ p, p ∈ L1 ∨ p ∈ L2 → ∀ b ∈ p.2.blocks, b ∉ f'.blocks := by
    intro p hp b hb hbf
    rcases hnew b hbf with hx | hx
    · rcases hp with hp | hp
      · exact o1 p hp b hb hx
      · exact o2 p hp b hb hx
    · have := (h.files p (other p hp)).lt b hb
      omega
  have hents : ents (L1 ++ (a, f') :: L2) = ents (L1 ++ (a, f) :: L2) := by simp [ents, hfb]
  refine ⟨hc.keep h.blk (fun hb => (h.apart _ hfm _ hb).1 rfl), ?_, h.dm, ?_, ?_, ?_, h.hroom, hu, ?_⟩
  · rw [hents]; exact h.map.keep hc (fun hb => (h.apart _ hfm _ hb).2 rfl)
  · intro p hp
    simp only [List.mem_append, List.mem_cons] at hp
    rcases hp with hp | rfl | hp
    · exact (h.files p (other p (.inl hp))).keep hc (o1 p hp)
    · exact hF
    · exact (h.files p (other p (.inr hp))).keep hc (o2 p hp)
  · intro p hp b hb
    simp only [List.mem_append, List.mem_cons] at hp
    rcases hp with hp | rfl | hp
    · exact h.apart p (other p (.inl hp)) b hb
    · rcases hnew b hb with hx | hx
      · exact h.apart _ hfm b hx
      · have h3 := h.lt (.inl rfl)
        have h4 := h.lt (.inr (.inl rfl))
        constructor <;> omega
    · exact h.apart p (other p (.inr hp)) b hb
  · rw [List.pairwise_append, List.pairwise_cons]
    refine ⟨hp1, ⟨fun p hp b hb hb2 => old p (.inr hp) b hb2 hb, hp3⟩, ?_⟩
    intro p hp q hq b hb
    rcases List.mem_cons.1 hq with rfl | hq
    · exact old p (.inl hp) b hb
    · exact hp4 p hp q (by simp [hq]) b hb
  · intro p hp
    simp only [List.mem_append, List.mem_cons] at hp
    rcases hp with hp | rfl | hp
    · exact h.names p (other p (.inl hp))
    · exact h.names (a, f) hfm
    · exact h.names p (other p (.inr hp))

/-- what a disk has: names, bytes, how many of them are synced -/
abbrev Ab := List (ByteArray × List UInt8 × Nat)
def ab (L : Files) : Ab := L.map fun p => (p.1, p.2.bs, p.2.syn)
def aget (D : Ab) (a : ByteArray) : Option (List UInt8 × Nat) := (D.find? fun p => decide (p.1 = a)).map (·.2)
def aset (D : Ab) (a : ByteArray) (x : List UInt8 × Nat) : Ab := D.map fun p => if p.1 = a then (a, x) else p
def arem (D : Ab) (a : ByteArray) : Ab := D.filter fun p => decide (p.1 ≠ a)
def aused (D : Ab) : Nat := (D.map fun p => p.2.1.length).sum
theorem aget_ab (L : Files) (a : ByteArray) : aget (ab L) a = (find L a).map fun f => (f.bs, f.syn) := by
  unfold aget ab find
  rw [List.find?_map]
  simp only [Option.map_map]
  rfl
theorem aset_ab (L : Files) (a : ByteArray) (f : FR) : ab (upd L a f) = aset (ab L) a (f.bs, f.syn) := by
  unfold aset ab upd
  rw [List.map_map, List.map_map]
  apply List.map_congr_left
  intro p _
  simp only [Function.comp]
  split <;> rfl
theorem arem_ab (L : Files) (a : ByteArray) : ab (rem L a) = arem (ab L) a := by
  unfold arem ab rem
  rw [List.filter_map]
  rfl
theorem aused_ab (L : Files) : used L = aused (ab L) := by
  unfold aused ab used
  rw [List.map_map]
  rfl
/-- A disk at block d, of so much room, with these files; F: its blocks. -/
def Disk (w : World) (d room : Nat) (D : Ab) (F : Nat → Prop) : Prop := ∃ m L, DiskAt w d room m L ∧ ab L = D ∧ ∀ b, F b ↔ foot d m L b
theorem Disk.keep {S F : Nat → Prop} {w w' : World} {d room : Nat} {D : Ab} (h : Disk w d room D F) (hc : Chg S w w') (hn : ∀ b, F b → ¬ S b) : Disk w' d room D F := by
  obtain ⟨m, L, h1, h2, h3⟩ := h
  exact ⟨m, L, h1.keep hc fun b hb => hn b ((h3 b).2 hb), h2, h3⟩
theorem Disk.keep' {F : Nat → Prop} {w w' : World} {d room : Nat} {D : Ab} (h : Disk w d room D F) (hc : Chg none' w w') : Disk w' d room D F := h.keep hc fun _ _ h => h
theorem Disk.lt {F : Nat → Prop} {w : World} {d room : Nat} {D : Ab} (h : Disk w d room D F) {b : Nat} (hb : F b) : b < w.heap.size := by
  obtain ⟨m, L, h1, h2, h3⟩ := h
  exact h1.lt ((h3 b).1 hb)
theorem Disk.fits {F : Nat → Prop} {w : World} {d room : Nat} {D : Ab} (h : Disk w d room D F) : aused D ≤ room ∧ room ≤ 1000000 := by
  obtain ⟨m, L, h1, rfl, h3⟩ := h
  rw [← aused_ab]; exact ⟨h1.fits, h1.hroom⟩
/-- what a disk's blocks are behind a step -/
def Moves (F F' : Nat → Prop) (w : World) : Prop := ∀ b, F' b → F b ∨ w.heap.size ≤ b
theorem foot_upd {d m : Nat} {L : Files} {a : ByteArray} {f f' : FR} {w : World} (hf : find L a = some f) (hnew : ∀ b ∈ f'.blocks, b ∈ f.blocks ∨ w.heap.size ≤ b) : ∀ b, foot d m (Proofs.Ytamejkogghpbhaa.upd L a f') b → foot d m L b ∨ w.heap.size ≤ b := by
  rintro b (rfl | rfl | ⟨p, hp, hb⟩)
  · exact .inl (.inl rfl)
  · exact .inl (.inr (.inl rfl))
  · unfold Proofs.Ytamejkogghpbhaa.upd at hp
    obtain ⟨q, hq, rfl⟩ := List.mem_map.1 hp
    split at hb
    · rcases hnew b hb with h | h
      · exact .inl (.inr (.inr ⟨_, find_mem hf, h⟩))
      · exact .inr h
    · exact .inl (.inr (.inr ⟨q, hq, hb⟩))

section
variable {w : World} {K : VCont} {d room m : Nat} {L : Files}
theorem may_spec (s : ByteArray) (hK : K (.bool (mayB s)) w) : xCall P nr.disk_may [.string s] w K := by
  refine disk_may_call ?_
  unfold disk_may_main
  unfold mayB at hK
  rw [xLen_string und.string]
  simp only [xs, xb]
  by_cases h : 1 ≤ (s.size : Int)
  · simp only [h, decide_true, xs, xb]
    rw [xLen_string und.string]
    simp only [xs, xb]
    simpa [h] using hK
  · simp only [h, decide_false, xs, xb]
    simpa [h] using hK
theorem of_spec (h : DiskAt w d room m L) (a : ByteArray) (hK : K (fptr L a) w) : xCall P nr.disk_Disk_of [ptr d, .string a] w K := by
  refine disk_Disk_of_call ?_
  unfold disk_Disk_of_main
  rw [xEq_ptr und.p_disk_Disk]
  simp only [Option.isNone_some, xs, Nat.zero_add]
  rw [cell_of_block h.blk]
  simp only [List.getElem?_toArray, List.getElem?_cons_zero]
  rw [xLookup_map (v := .string a) sk a und.m_string_p_disk_file inf.p_disk_file rfl h.map rfl, getD_fptr]
  exact hK
end
section
variable {w : World} {K : VCont} {d room : Nat} {D : Ab} {F : Nat → Prop}
theorem nil_branch {A B : Prop} (hK : A) : xIf (.bool true) A B := hK
theorem Sync_spec (h : Disk w d room D F) (a : ByteArray) (hN : aget D a = none → K (i64 5) w)
    (hK : ∀ x, aget D a = some x → ∀ w' F', Disk w' d room (aset D a (x.1, x.1.length)) F' → Chg F w w' → Moves F F' w → K (i64 0) w') : xCall P nr.disk_Disk_Sync [ptr d, .string a] w K := by
  obtain ⟨m, L, h1, rfl, h3⟩ := h
  refine disk_Disk_Sync_call ?_
  unfold disk_Disk_Sync_main
  refine of_spec h1 a ?_
  unfold fptr
  rw [xEq_ptr und.p_disk_file]
  cases hf : find L a with
  | none =>
    simp only [Option.map_none, Option.isNone_none, xs, xb]
    exact hN (by rw [aget_ab, hf]; rfl)
  | some f =>
    have hF := h1.files _ (find_mem hf)
    simp only [Option.map_some, Option.isNone_some, xs, xb, Nat.zero_add]
    rw [cell_of_block hF.blk]
    simp only [List.getElem?_toArray, List.getElem?_cons_zero]
    have hsl : ∃ a n c, f.sv = .slice a n c ∧ n = f.bs.length := by
      rcases hF.own.2 with ⟨h, h0⟩ | ⟨g, cap, cur, h, _⟩
      · exact ⟨_, _, _, h, h0.symm⟩
      · exact ⟨_, _, _, h, rfl⟩
    obtain ⟨sa, sn, sc, hs, hsn⟩ := hsl
    rw [hs, xLen_slice und.s_uint8]
    refine store_blk inf.int rfl rfl hF.blk (by simp) ?_
    intro w' hb hc hsz
    have hF' : FileAt w' { f with syn := f.bs.length } := by
      refine ⟨?_, hF.own.keep hc (fun g hg h => hF.ne (by rw [hg, h])), Nat.le_refl _, hF.ne⟩
      rw [hb]; simp [hsn]
    have hblk : ∀ b ∈ (FR.blocks { f with syn := f.bs.length }), b ∈ f.blocks ∨ w.heap.size ≤ b := fun b hb => .inl hb
    have hu : used (upd L a { f with syn := f.bs.length }) ≤ room := by
      have := used_upd h1.nodup hf (f' := { f with syn := f.bs.length })
      have := h1.fits
      simp at *
      omega
    have hd := h1.upd (f' := { f with syn := f.bs.length }) hf rfl hF' (hc.mono fun b _ hb => by rw [hb]; simp [FR.blocks]) hblk hu
    refine hK (f.bs, f.syn) (by rw [aget_ab, hf]; rfl) w' _ ⟨m, _, hd, aset_ab _ _ _, fun _ => Iff.rfl⟩ ?_ ?_
    · exact hc.mono fun b _ hb => (h3 b).2 (.inr (.inr ⟨_, find_mem hf, by rw [hb]; simp [FR.blocks]⟩))
    · intro b hb
      rcases foot_upd hf hblk b hb with h | h
      · exact .inl ((h3 b).2 h)
      · exact .inr h

/-! New, Clone, Read -/
theorem build_Disk (b : Nat) (n : Int) : xBuild P ty.disk_Disk [(0, .map (some b)), (1, .int .i64 n)] w K = K (.agg #[.map (some b), .int .i64 n]) w := by
  unfold xBuild
  exact xp_iff fun w' => by kernel_rfl
theorem New_bad (n : Int) (h : n < 0 ∨ 1000000 < n) (hK : K (.tuple #[.pointer none, i64 1]) w) : xCall P nr.disk_New [i64 n] w K := by
  refine disk_New_call ?_
  unfold disk_New_main
  simp only [xs, xb]
  by_cases h0 : n < 0
  · simp only [h0, decide_true, xs, xb, cond_true]
    exact hK
  · have h1 : 1000000 < n := by omega
    simp only [h0, h1, decide_false, decide_true, xs, xb, cond_false]
    exact hK
theorem New_good (n : Nat) (h : n ≤ 1000000) (hK : ∀ d w' F, Disk w' d n [] F → (∀ b, F b → w.heap.size ≤ b) → Chg none' w w' → K (.tuple #[ptr d, i64 0]) w') : xCall P nr.disk_New [i64 n] w K := by
  refine disk_New_call ?_
  unfold disk_New_main
  have h0 : ¬ (n : Int) < 0 := by omega
  have h1 : ¬ (1000000 : Int) < n := by omega
  simp only [h0, h1, decide_false, decide_true, xs, xb, cond_false]
  refine makeMap_step (E := Value.string) ?_
  intro m w1 hm hmap hc1 hs1
  rw [build_Disk]
  refine box_step ?_
  intro d w2 hd hblk hc2 hs2
  refine hK d w2 _ ⟨m, [], ⟨hblk, hmap.keep hc2 (fun h => h), by omega, by simp, by simp, List.Pairwise.nil, h, by simp [used], by simp⟩, rfl, fun _ => Iff.rfl⟩ ?_ (hc1.trans hc2)
  rintro b (rfl | rfl | ⟨p, hp, _⟩)
  · omega
  · omega
  · cases hp

theorem Clone_spec {v : Value} {l : List UInt8} (h : Rd w v (l.map bv)) (hl : l.length ≤ 1000000000) (hK : ∀ v' w', Own w' 5 1 v' l.length (l.map bv) → (∀ g, v'.ownBlock = some g → w.heap.size ≤ g) → Chg none' w w' → K v' w') :
    xCall P nr.slices_Clone_s_byte_byte [v] w K := by
  refine slices_Clone_s_byte_byte_call ?_
  unfold slices_Clone_s_byte_byte_main
  obtain ⟨a, cap, rfl, hcap, h⟩ := h
  rw [xEq_slice und.s_uint8]
  cases a with
  | none =>
    have : l = [] := by simpa using h
    subst this
    simp only [Option.isNone_none, xs, xb]
    exact hK _ _ (Own.nil w 5 1) (by simp [Value.ownBlock]) (Chg.refl _ _)
  | some g =>
    simp only [Option.isNone_some, xs, xb]
    refine buildSlice_step (vs := []) und.s_uint8 inf.uint8 rfl rfl rfl rfl rfl (by simp) (by omega) ?_
    intro v1 w1 ho1 hb1 hc1 hs1
    have hrd : Rd w1 (.slice (some g) (l.map bv).length cap) (l.map bv) := Rd.keep' ⟨some g, cap, rfl, hcap, h⟩ hc1
    obtain ⟨a', cap', he, _, hcell⟩ := hrd
    cases he
    refine xAppend (size := 1) (bytes := 1) und.s_uint8 inf.uint8 rfl rfl rfl rfl ho1 (m := (l.map bv).length) (by simp) hcell (bv_one l) ?_ ?_ ?_
    · simp [maxLen]; omega
    · simp; omega
    · intro v2 w2 ho2 hc2 hv2
      simp only [Nat.zero_add, List.nil_append, List.length_map] at ho2
      refine hK v2 w2 ho2 ?_ (hc1.then hc2 fun i hi hb => by rw [hb1] at hb; cases hb; omega)
      intro g2 hg2
      rcases hv2 with h | h
      · rw [h, hb1] at hg2; cases hg2; omega
      · rw [h] at hg2; cases hg2; omega
theorem sum_ge {L : Files} {p : ByteArray × FR} (hp : p ∈ L) : p.2.bs.length ≤ used L := by
  obtain ⟨L1, L2, rfl⟩ := List.append_of_mem hp
  simp only [used, List.map_append, List.map_cons, List.sum_append, List.sum_cons]
  omega
theorem Read_spec (h : Disk w d room D F) (a : ByteArray) (hN : aget D a = none → K (.tuple #[.slice none 0 0, i64 5]) w)
    (hK : ∀ x, aget D a = some x → ∀ v w', Own w' 5 1 v x.1.length (x.1.map bv) → (∀ g, v.ownBlock = some g → w.heap.size ≤ g) → Chg none' w w' → K (.tuple #[v, i64 0]) w') : xCall P nr.disk_Disk_Read [ptr d, .string a] w K := by
  obtain ⟨m, L, h1, rfl, h3⟩ := h
  refine disk_Disk_Read_call ?_
  unfold disk_Disk_Read_main
  refine of_spec h1 a ?_
  unfold fptr
  rw [xEq_ptr und.p_disk_file]
  cases hf : find L a with
  | none =>
    simp only [Option.map_none, Option.isNone_none, xs, xb]
    exact hN (by rw [aget_ab, hf]; rfl)
  | some f =>
    have hF := h1.files _ (find_mem hf)
    simp only [Option.map_some, Option.isNone_some, xs, xb, Nat.zero_add]
    rw [cell_of_block hF.blk]
    simp only [List.getElem?_toArray, List.getElem?_cons_zero]
    have := sum_ge (find_mem hf)
    have := h1.fits
    have := h1.hroom
    refine Clone_spec hF.own.rd (by simp at *; omega) ?_
    intro v' w' ho hg hc
    exact hK (f.bs, f.syn) (by rw [aget_ab, hf]; rfl) v' w' ho hg hc
def asyn (D : Ab) (a : ByteArray) : Nat := ((aget D a).map (·.2)).getD 0
theorem Synced_spec (h : Disk w d room D F) (a : ByteArray) (hK : K (i64 (asyn D a)) w) : xCall P nr.disk_Disk_Synced [ptr d, .string a] w K := by
  obtain ⟨m, L, h1, rfl, h3⟩ := h
  refine disk_Disk_Synced_call ?_
  unfold disk_Disk_Synced_main
  refine of_spec h1 a ?_
  unfold fptr
  unfold asyn at hK
  rw [aget_ab] at hK
  rw [xEq_ptr und.p_disk_file]
  cases hf : find L a with
  | none =>
    rw [hf] at hK
    simp only [Option.map_none, Option.isNone_none, xs, xb]
    exact hK
  | some f =>
    rw [hf] at hK
    simp only [Option.map_some, Option.isNone_some, xs, xb, Nat.zero_add]
    rw [cell_of_block (h1.files _ (find_mem hf)).blk]
    exact hK
end
end Go.Proofs.Ytamejkogghpbhaa
end
section
/- The sum of bytes. -/
set_option linter.unusedVariables false
set_option linter.unusedSimpArgs false
namespace Go.Proofs.Ytamejkogghpbhaa
open Go.Sx
def crcBit (c : BitVec 32) : BitVec 32 := if c &&& 1#32 = 1#32 then (c >>> 1) ^^^ 3988292384#32 else c >>> 1
def crcN : Nat → BitVec 32 → BitVec 32
  | 0, c => c
  | n + 1, c => crcBit (crcN n c)
def crcByte (c : BitVec 32) (x : UInt8) : BitVec 32 := crcN 8 (c ^^^ x.toBitVec.setWidth 32)
def crc (b : List UInt8) : BitVec 32 := ~~~ (b.foldl crcByte 4294967295#32)
section
variable {w : World} {K : VCont}
theorem rd_len {v : Value} {xs : List Value} (h : Rd w v xs) {t e : TypeId} (ht : P.underlying t = some (.slice e)) (w' : World) (K : VCont) : xLen P .pure #[t] v w' K = K (i64 xs.length) w' := by
  obtain ⟨a, cap, rfl, _, _⟩ := h
  rw [xLen_slice ht]
theorem pack_Sum_spec {v : Value} {b : List UInt8} (h : Rd w v (b.map bv)) (hl : b.length ≤ 1000000000) (hK : K (u32 (crc b)) w) : xCall P nr.pack_Sum [v] w K := by
  refine pack_Sum_call ?_
  unfold pack_Sum_main
  rw [rd_len h und.s_uint8]
  refine Lp.gen (fun n s w' => w' = w ∧ ∃ i : Nat, n + i = b.length ∧ s = [u32 ((b.take i).foldl crcByte 4294967295#32), i64 i]) b.length ⟨rfl, 0, by omega, rfl⟩ ?_
  rintro n s w' ⟨rfl, i, hni, rfl⟩ X hX
  unfold pack_Sum_l1
  simp only [List.getD_cons_zero, List.getD_cons_succ, xs, xb, xd, List.length_map]
  by_cases hlt : i < b.length
  · have hlt' : (i : Int) < (b.length : Int) := by omega
    simp only [hlt', xs, xb, xd]
    rw [index_rd und.s_uint8 inf.uint8 rfl h (x := bv b[i]) (by simp [hlt]) (fun _ h => h)]
    rw [conv_u8_u32 und.uint8 und.uint32, xor_u32]
    refine Lp.gen (fun m s w'' => w'' = w' ∧ ∃ k : Nat, m + k = 8 ∧ s = [u32 (crcN k ((b.take i).foldl crcByte 4294967295#32 ^^^ b[i].toBitVec.setWidth 32)), i64 k]) 8 ⟨rfl, 0, by omega, rfl⟩ ?_
    rintro m s w'' ⟨rfl, k, hmk, rfl⟩ Y hY
    unfold pack_Sum_l3
    simp only [List.getD_cons_zero, List.getD_cons_succ, xs, xb, xd]
    by_cases hk : k < 8
    · have hk' : (k : Int) < 8 := by omega
      simp only [hk', xs, xb, xd]
      generalize hcd : crcN k ((b.take i).foldl crcByte 4294967295#32 ^^^ b[i].toBitVec.setWidth 32) = c
      have a1 : ∀ (w : World) (K : VCont), xBin P .and ty.uint32 (u32 c) (.int .u32 1) w K = K (u32 (c &&& 1#32)) w := fun w K => and_u32 c 1#32
      have s1 : ∀ (w : World) (K : VCont), xBin P .shr ty.uint32 (u32 c) (.int .u64 1) w K = K (u32 (c >>> 1)) w := fun w K => shr_u32 .u64 c 1 (by omega)
      have e1 : ∀ (w : World) (K : VCont), xEq P .eql ty.uint32 false true (u32 (c &&& 1#32)) (.int .u32 1) w K = K (.bool (decide (c &&& 1#32 = 1#32))) w := fun w K => eq_u32 false true (c &&& 1#32) 1#32
      have x1 : ∀ (w : World) (K : VCont), xBin P .xor ty.uint32 (u32 (c >>> 1)) (.int .u32 3988292384) w K = K (u32 ((c >>> 1) ^^^ 3988292384#32)) w := fun w K => xor_u32 (c >>> 1) 3988292384#32
      rw [a1, s1, e1]
      have hk1 : IntKind.i64.wrap ((k : Int) + 1) = ((k + 1 : Nat) : Int) := by rw [wrap_i64 (by omega) (by omega)]; omega
      by_cases hc : c &&& 1#32 = 1#32
      · simp only [hc, xs, xd]
        rw [x1]
        unfold pack_Sum_j4
        simp only [xb, hk1]
        refine hY (m - 1) _ _ ⟨rfl, k + 1, by omega, ?_⟩ (by omega)
        show _ = [u32 (crcBit (crcN k _)), _]
        rw [hcd]
        unfold crcBit
        rw [if_pos hc]
      · simp only [hc, xs, xd]
        unfold pack_Sum_j4
        simp only [xb, hk1]
        refine hY (m - 1) _ _ ⟨rfl, k + 1, by omega, ?_⟩ (by omega)
        show _ = [u32 (crcBit (crcN k _)), _]
        rw [hcd]
        unfold crcBit
        rw [if_neg hc]
    · have hk' : ¬ (k : Int) < 8 := by omega
      simp only [hk', xs, xb, xd]
      unfold pack_Sum_j2
      simp only [xs, xb, xd]
      rw [wrap_i64 (by omega) (by omega)]
      refine hX (n - 1) _ _ ⟨rfl, i + 1, by omega, ?_⟩ (by omega)
      have e : (b.take (i + 1)).foldl crcByte 4294967295#32 = crcByte ((b.take i).foldl crcByte 4294967295#32) b[i] := by
        rw [List.take_add_one, List.getElem?_eq_getElem hlt]
        simp only [Option.toList_some, List.foldl_append, List.foldl_cons, List.foldl_nil]
      have : k = 8 := by omega
      subst this
      rw [e]
      rfl
  · have hlt' : ¬ (i : Int) < (b.length : Int) := by omega
    simp only [hlt', xs, xb, xd]
    unfold pack_Sum_j0
    rw [not_u32, List.take_of_length_le (by omega)]
    exact hK
end
end Go.Proofs.Ytamejkogghpbhaa
end
