/- Printed by wip/gen/gen.py: the shallow texts of some functions. -/
import Derived.Test.YtamejkogghpbhaaNames
set_option linter.unusedVariables false
namespace Go.Proofs.Ytamejkogghpbhaa
open Go.Sx

/-! sojourn/pack.Sum: function 66 -/
def pack_Sum_j0 (R : VCont) (v3 : Value) (w : World) : Prop :=
  xUn P .xor v3 w fun t1 w =>
  R t1 w
def pack_Sum_j2 (R : VCont) (X0 : LX) (v3 v9 : Value) (w : World) : Prop :=
  xBin P .add 3 v9 (Value.int IntKind.i64 1) w fun t22 w =>
  X0 [v3, t22] w
def pack_Sum_j4 (R : VCont) (X1 X0 : LX) (v3 v17 : Value) (w : World) : Prop :=
  xBin P .add 3 v17 (Value.int IntKind.i64 1) w fun t34 w =>
  X1 [v3, t34] w
def pack_Sum_l3 (R : VCont) (X1 X0 : LX) (v9 v3 v17 : Value) (w : World) : Prop :=
  xBin P .lss 3 v17 (Value.int IntKind.i64 8) w fun t33 w =>
  xIf t33
  (xBin P .and 111 v3 (Value.int IntKind.u32 1) w fun t35 w =>
  xBin P .shr 111 v3 (Value.int IntKind.u64 1) w fun t36 w =>
  xEq P .eql 111 false true t35 (Value.int IntKind.u32 1) w fun t37 w =>
  xIf t37
  (xBin P .xor 111 t36 (Value.int IntKind.u32 3988292384) w fun t38 w =>
  pack_Sum_j4 R X1 X0 t38 v17 w)
  (pack_Sum_j4 R X1 X0 t36 v17 w))
  (pack_Sum_j2 R X0 v3 v9 w)
def pack_Sum_l1 (R : VCont) (X0 : LX) (v7 v8 v3 v9 : Value) (w : World) : Prop :=
  xBin P .lss 3 v9 v8 w fun t21 w =>
  xIf t21
  (xIndexAddr P 22 v7 v9 w fun t23 w =>
  xLoad1 t23 w fun t24 w =>
  xConvK P .pure 5 111 t24 w fun t25 w =>
  xBin P .xor 111 v3 t25 w fun t26 w =>
  Lp (fun X s w => pack_Sum_l3 R X X0 v9 (s.getD 0 undef) (s.getD 1 undef) w) [t26, (Value.int IntKind.i64 0)] w)
  (pack_Sum_j0 R v3 w)
def pack_Sum_main (R : VCont) (a0 : Value) (w : World) : Prop :=
  xLen P .pure #[22] a0 w fun t2 w =>
  Lp (fun X s w => pack_Sum_l1 R X a0 t2 (s.getD 0 undef) (s.getD 1 undef) w) [(Value.int IntKind.u32 4294967295), (Value.int IntKind.i64 0)] w
def pack_Sum_es (R : VCont) : List Ent := [
  .join fun Xs e w => pack_Sum_j0 R (e 3) w,
  .loop [7, 8] [3, 9] fun Xs fx X s w => pack_Sum_l1 R X (fx.getD 0 undef) (fx.getD 1 undef) (s.getD 0 undef) (s.getD 1 undef) w,
  .join fun Xs e w => pack_Sum_j2 R (hx Xs) (e 3) (e 9) w,
  .loop [9] [3, 17] fun Xs fx X s w => pack_Sum_l3 R X (hx Xs) (fx.getD 0 undef) (s.getD 0 undef) (s.getD 1 undef) w,
  .join fun Xs e w => pack_Sum_j4 R (hx Xs) (hx (Xs.drop 1)) (e 3) (e 17) w]
theorem pack_Sum_ok {R : VCont} {a0 : Value} {w : World} (h : pack_Sum_main R a0 w) : Calls P nr.pack_Sum [a0].toArray w (Ret R) :=
  calls_of_sx (P := P) (fn := Try.f66) (Os := (fun _ => .no)) (Es := (pack_Sum_es R)) (args := [a0]) mixed (by kernel_rfl) (by kernel_rfl) (by kernel_rfl) (by kernel_rfl) (by kernel_rfl) (by kernel_rfl) (by kernel_rfl)
    (Eq.mp (show pack_Sum_main R a0 w = sxh P (fun _ => .no) (pack_Sum_es R) [] 0 (bodyOf Try.f66) (retQ P Try.f66.results.toList R) (envOf [a0]) w by kernel_rfl) h)
theorem pack_Sum_call {R : VCont} {a0 : Value} {w : World} (h : pack_Sum_main R a0 w) : xCall P nr.pack_Sum [a0] w R :=
  xCall_of (P := P) (fn := Try.f66) (by kernel_rfl) (by kernel_rfl) (by kernel_rfl) (pack_Sum_ok h)

/-! (*sojourn/pack.Writer).Int: function 67 -/
def pack_Writer_Int_j0 (R : VCont) (v0 v4 : Value) (w : World) : Prop :=
  xNil v0 w fun t7 w =>
  xOff (some 0) t7 w fun t8 w =>
  xLoad1 t8 w fun t9 w =>
  xConvK P .pure 123 5 v4 w fun t10 w =>
  xBuildSlice P 22 1 [(0, t10)] w fun t11 w =>
  xBuiltin P .append #[22, 22] 22 [false, false] [t9, t11] w fun t12 w =>
  xNil v0 w fun t13 w =>
  xOff (some 0) t13 w fun t14 w =>
  xStore P 22 t14 t12 w fun _ w =>
  R (Value.tuple #[]) w
def pack_Writer_Int_l1 (R : VCont) (X0 : LX) (v0 v4 : Value) (w : World) : Prop :=
  xBin P .geq 123 v4 (Value.int IntKind.u64 128) w fun t26 w =>
  xIf t26
  (xNil v0 w fun t27 w =>
  xOff (some 0) t27 w fun t28 w =>
  xLoad1 t28 w fun t29 w =>
  xConvK P .pure 123 5 v4 w fun t30 w =>
  xBin P .or 5 t30 (Value.int IntKind.u8 128) w fun t31 w =>
  xBuildSlice P 22 1 [(0, t31)] w fun t32 w =>
  xBuiltin P .append #[22, 22] 22 [false, false] [t29, t32] w fun t33 w =>
  xNil v0 w fun t34 w =>
  xOff (some 0) t34 w fun t35 w =>
  xStore P 22 t35 t33 w fun _ w =>
  xBin P .shr 123 v4 (Value.int IntKind.u64 7) w fun t36 w =>
  X0 [t36] w)
  (pack_Writer_Int_j0 R v0 v4 w)
def pack_Writer_Int_main (R : VCont) (a0 a1 : Value) (w : World) : Prop :=
  xEq P .eql 130 false true a0 (Value.pointer none) w fun t1 w =>
  xIf t1
  (R (Value.tuple #[]) w)
  (xConvK P .pure 2 123 a1 w fun t2 w =>
  xBin P .shl 123 t2 (Value.int IntKind.u64 1) w fun t3 w =>
  xBin P .shr 2 a1 (Value.int IntKind.u64 63) w fun t4 w =>
  xConvK P .pure 2 123 t4 w fun t5 w =>
  xBin P .xor 123 t3 t5 w fun t6 w =>
  Lp (fun X s w => pack_Writer_Int_l1 R X a0 (s.getD 0 undef) w) [t6] w)
def pack_Writer_Int_es (R : VCont) : List Ent := [
  .join fun Xs e w => pack_Writer_Int_j0 R (e 0) (e 4) w,
  .loop [0] [4] fun Xs fx X s w => pack_Writer_Int_l1 R X (fx.getD 0 undef) (s.getD 0 undef) w]
theorem pack_Writer_Int_ok {R : VCont} {a0 a1 : Value} {w : World} (h : pack_Writer_Int_main R a0 a1 w) : Calls P nr.pack_Writer_Int [a0, a1].toArray w (Ret R) :=
  calls_of_sx (P := P) (fn := Try.f67) (Os := (fun _ => .no)) (Es := (pack_Writer_Int_es R)) (args := [a0, a1]) mixed (by kernel_rfl) (by kernel_rfl) (by kernel_rfl) (by kernel_rfl) (by kernel_rfl) (by kernel_rfl) (by kernel_rfl)
    (Eq.mp (show pack_Writer_Int_main R a0 a1 w = sxh P (fun _ => .no) (pack_Writer_Int_es R) [] 0 (bodyOf Try.f67) (retQ P Try.f67.results.toList R) (envOf [a0, a1]) w by kernel_rfl) h)
theorem pack_Writer_Int_call {R : VCont} {a0 a1 : Value} {w : World} (h : pack_Writer_Int_main R a0 a1 w) : xCall P nr.pack_Writer_Int [a0, a1] w R :=
  xCall_of (P := P) (fn := Try.f67) (by kernel_rfl) (by kernel_rfl) (by kernel_rfl) (pack_Writer_Int_ok h)

/-! (*sojourn/pack.Writer).Bytes: function 68 -/
def pack_Writer_Bytes_main (R : VCont) (a0 : Value) (w : World) : Prop :=
  xEq P .eql 130 false true a0 (Value.pointer none) w fun t1 w =>
  xIf t1
  (R (Value.slice none 0 0) w)
  (xBuildSlice P 22 0 [] w fun t2 w =>
  xNil a0 w fun t3 w =>
  xOff (some 0) t3 w fun t4 w =>
  xLoad1 t4 w fun t5 w =>
  xBuiltin P .append #[22, 22] 22 [false, false] [t2, t5] w fun t6 w =>
  R t6 w)
theorem pack_Writer_Bytes_ok {R : VCont} {a0 : Value} {w : World} (h : pack_Writer_Bytes_main R a0 w) : Calls P nr.pack_Writer_Bytes [a0].toArray w (Ret R) :=
  calls_of_sx (P := P) (fn := Try.f68) (Os := (fun _ => .no)) (Es := []) (args := [a0]) mixed (by kernel_rfl) (by kernel_rfl) (by kernel_rfl) (by kernel_rfl) (by kernel_rfl) (by kernel_rfl) (by kernel_rfl)
    (Eq.mp (show pack_Writer_Bytes_main R a0 w = sxh P (fun _ => .no) [] [] 0 (bodyOf Try.f68) (retQ P Try.f68.results.toList R) (envOf [a0]) w by kernel_rfl) h)
theorem pack_Writer_Bytes_call {R : VCont} {a0 : Value} {w : World} (h : pack_Writer_Bytes_main R a0 w) : xCall P nr.pack_Writer_Bytes [a0] w R :=
  xCall_of (P := P) (fn := Try.f68) (by kernel_rfl) (by kernel_rfl) (by kernel_rfl) (pack_Writer_Bytes_ok h)

/-! sojourn/pack.New: function 78 -/
def pack_New_main (R : VCont) (a0 : Value) (w : World) : Prop :=
  xBuildSlice P 22 0 [] w fun t1 w =>
  xBuiltin P .append #[22, 22] 22 [false, false] [t1, a0] w fun t2 w =>
  xBuild P 141 [(0, t2)] w fun t3 w =>
  xBox P 141 t3 w fun t4 w =>
  R t4 w
theorem pack_New_ok {R : VCont} {a0 : Value} {w : World} (h : pack_New_main R a0 w) : Calls P nr.pack_New [a0].toArray w (Ret R) :=
  calls_of_sx (P := P) (fn := Try.f78) (Os := (fun _ => .no)) (Es := []) (args := [a0]) mixed (by kernel_rfl) (by kernel_rfl) (by kernel_rfl) (by kernel_rfl) (by kernel_rfl) (by kernel_rfl) (by kernel_rfl)
    (Eq.mp (show pack_New_main R a0 w = sxh P (fun _ => .no) [] [] 0 (bodyOf Try.f78) (retQ P Try.f78.results.toList R) (envOf [a0]) w by kernel_rfl) h)
theorem pack_New_call {R : VCont} {a0 : Value} {w : World} (h : pack_New_main R a0 w) : xCall P nr.pack_New [a0] w R :=
  xCall_of (P := P) (fn := Try.f78) (by kernel_rfl) (by kernel_rfl) (by kernel_rfl) (pack_New_ok h)

/-! (*sojourn/pack.Reader).Int: function 79 -/
def pack_Reader_Int_main (R : VCont) (a0 a1 a2 : Value) (w : World) : Prop :=
  xBox P 2 a1 w fun t1 w =>
  xBox P 2 a2 w fun t2 w =>
  xCall P nr.pack_take_int64 [a0, (Value.func (.func nr.pack_Reader_Int_c1) #[] #[t1, t2])] w fun t3 w =>
  R t3 w
theorem pack_Reader_Int_ok {R : VCont} {a0 a1 a2 : Value} {w : World} (h : pack_Reader_Int_main R a0 a1 a2 w) : Calls P nr.pack_Reader_Int [a0, a1, a2].toArray w (Ret R) :=
  calls_of_sx (P := P) (fn := Try.f79) (Os := (fun _ => .no)) (Es := []) (args := [a0, a1, a2]) mixed (by kernel_rfl) (by kernel_rfl) (by kernel_rfl) (by kernel_rfl) (by kernel_rfl) (by kernel_rfl) (by kernel_rfl)
    (Eq.mp (show pack_Reader_Int_main R a0 a1 a2 w = sxh P (fun _ => .no) [] [] 0 (bodyOf Try.f79) (retQ P Try.f79.results.toList R) (envOf [a0, a1, a2]) w by kernel_rfl) h)
theorem pack_Reader_Int_call {R : VCont} {a0 a1 a2 : Value} {w : World} (h : pack_Reader_Int_main R a0 a1 a2 w) : xCall P nr.pack_Reader_Int [a0, a1, a2] w R :=
  xCall_of (P := P) (fn := Try.f79) (by kernel_rfl) (by kernel_rfl) (by kernel_rfl) (pack_Reader_Int_ok h)

/-! (*sojourn/pack.Reader).Int$1: function 94 -/
def pack_Reader_Int_c1_main (R : VCont) (a0 a1 a2 : Value) (w : World) : Prop :=
  xCall P nr.pack_groups [a0] w fun t1 w =>
  xExtract t1 0 w fun t2 w =>
  xExtract t1 1 w fun t3 w =>
  xBin P .shr 123 t2 (Value.int IntKind.u64 1) w fun t4 w =>
  xConvK P .pure 123 2 t4 w fun t5 w =>
  xBin P .and 123 t2 (Value.int IntKind.u64 1) w fun t6 w =>
  xConvK P .pure 123 2 t6 w fun t7 w =>
  xUn P .neg t7 w fun t8 w =>
  xBin P .xor 2 t5 t8 w fun t9 w =>
  xLoad1 a1 w fun t10 w =>
  xBin P .lss 2 t9 t10 w fun t11 w =>
  xWhen t11 false (fun K => K t9 w) w fun t12 w =>
  xWhen t11 false (fun K => xLoad1 a2 w K) w fun t13 w =>
  xWhen t11 false (fun K => xBin P .gtr 2 t12 t13 w K) w fun t14 w =>
  xPick t11 (Value.bool true) t14 w fun t15 w =>
  xIf t15
  (R (Value.tuple #[(Value.int IntKind.i64 0), (Value.int IntKind.i64 0)]) w)
  (R (Value.tuple #[t9, t3]) w)
theorem pack_Reader_Int_c1_ok {R : VCont} {a0 a1 a2 : Value} {w : World} (h : pack_Reader_Int_c1_main R a0 a1 a2 w) : Calls P nr.pack_Reader_Int_c1 [a0, a1, a2].toArray w (Ret R) :=
  calls_of_sx (P := P) (fn := Try.f94) (Os := (fun _ => .no)) (Es := []) (args := [a0, a1, a2]) mixed (by kernel_rfl) (by kernel_rfl) (by kernel_rfl) (by kernel_rfl) (by kernel_rfl) (by kernel_rfl) (by kernel_rfl)
    (Eq.mp (show pack_Reader_Int_c1_main R a0 a1 a2 w = sxh P (fun _ => .no) [] [] 0 (bodyOf Try.f94) (retQ P Try.f94.results.toList R) (envOf [a0, a1, a2]) w by kernel_rfl) h)
theorem pack_Reader_Int_c1_call {R : VCont} {a0 a1 a2 : Value} {w : World} (h : pack_Reader_Int_c1_main R a0 a1 a2 w) : xCall P nr.pack_Reader_Int_c1 [a0, a1, a2] w R :=
  xCall_of (P := P) (fn := Try.f94) (by kernel_rfl) (by kernel_rfl) (by kernel_rfl) (pack_Reader_Int_c1_ok h)

/-! (*sojourn/pack.Reader).End: function 80 -/
def pack_Reader_End_main (R : VCont) (a0 : Value) (w : World) : Prop :=
  xEq P .eql 128 false true a0 (Value.pointer none) w fun t1 w =>
  xWhen t1 false (fun K => K a0 w) w fun t2 w =>
  xWhen t1 false (fun K => xNil t2 w K) w fun t3 w =>
  xWhen t1 false (fun K => xOff (some 1) t3 w K) w fun t4 w =>
  xWhen t1 false (fun K => xLoad1 t4 w K) w fun t5 w =>
  xPick t1 (Value.bool true) t5 w fun t6 w =>
  xIf t6
  (R (Value.int IntKind.i64 2) w)
  (xNil a0 w fun t7 w =>
  xOff (some 0) t7 w fun t8 w =>
  xLoad1 t8 w fun t9 w =>
  xLen P .pure #[22] t9 w fun t10 w =>
  xBin P .gtr 3 t10 (Value.int IntKind.i64 0) w fun t11 w =>
  xIf t11
  (R (Value.int IntKind.i64 3) w)
  (R (Value.int IntKind.i64 0) w))
theorem pack_Reader_End_ok {R : VCont} {a0 : Value} {w : World} (h : pack_Reader_End_main R a0 w) : Calls P nr.pack_Reader_End [a0].toArray w (Ret R) :=
  calls_of_sx (P := P) (fn := Try.f80) (Os := (fun _ => .no)) (Es := []) (args := [a0]) mixed (by kernel_rfl) (by kernel_rfl) (by kernel_rfl) (by kernel_rfl) (by kernel_rfl) (by kernel_rfl) (by kernel_rfl)
    (Eq.mp (show pack_Reader_End_main R a0 w = sxh P (fun _ => .no) [] [] 0 (bodyOf Try.f80) (retQ P Try.f80.results.toList R) (envOf [a0]) w by kernel_rfl) h)
theorem pack_Reader_End_call {R : VCont} {a0 : Value} {w : World} (h : pack_Reader_End_main R a0 w) : xCall P nr.pack_Reader_End [a0] w R :=
  xCall_of (P := P) (fn := Try.f80) (by kernel_rfl) (by kernel_rfl) (by kernel_rfl) (pack_Reader_End_ok h)

/-! sojourn/pack.take[int64]: function 93 -/
def pack_take_int64_main (R : VCont) (a0 a1 : Value) (w : World) : Prop :=
  xEq P .eql 128 false true a0 (Value.pointer none) w fun t1 w =>
  xWhen t1 false (fun K => K a0 w) w fun t2 w =>
  xWhen t1 false (fun K => xNil t2 w K) w fun t3 w =>
  xWhen t1 false (fun K => xOff (some 1) t3 w K) w fun t4 w =>
  xWhen t1 false (fun K => xLoad1 t4 w K) w fun t5 w =>
  xPick t1 (Value.bool true) t5 w fun t6 w =>
  xIf t6
  (R (Value.int IntKind.i64 0) w)
  (xNil a0 w fun t7 w =>
  xOff (some 0) t7 w fun t8 w =>
  xLoad1 t8 w fun t9 w =>
  xCallV P a1 [t9] w fun t10 w =>
  xExtract t10 0 w fun t11 w =>
  xExtract t10 1 w fun t12 w =>
  xBin P .lss 3 t12 (Value.int IntKind.i64 1) w fun t13 w =>
  xIf t13
  (xNil a0 w fun t14 w =>
  xOff (some 1) t14 w fun t15 w =>
  xStore P 4 t15 (Value.bool true) w fun _ w =>
  R (Value.int IntKind.i64 0) w)
  (xNil a0 w fun t16 w =>
  xOff (some 0) t16 w fun t17 w =>
  xLoad1 t17 w fun t18 w =>
  xSlice P 22 t18 (some t12) none none w fun t19 w =>
  xNil a0 w fun t20 w =>
  xOff (some 0) t20 w fun t21 w =>
  xStore P 22 t21 t19 w fun _ w =>
  R t11 w))
theorem pack_take_int64_ok {R : VCont} {a0 a1 : Value} {w : World} (h : pack_take_int64_main R a0 a1 w) : Calls P nr.pack_take_int64 [a0, a1].toArray w (Ret R) :=
  calls_of_sx (P := P) (fn := Try.f93) (Os := (fun _ => .no)) (Es := []) (args := [a0, a1]) mixed (by kernel_rfl) (by kernel_rfl) (by kernel_rfl) (by kernel_rfl) (by kernel_rfl) (by kernel_rfl) (by kernel_rfl)
    (Eq.mp (show pack_take_int64_main R a0 a1 w = sxh P (fun _ => .no) [] [] 0 (bodyOf Try.f93) (retQ P Try.f93.results.toList R) (envOf [a0, a1]) w by kernel_rfl) h)
theorem pack_take_int64_call {R : VCont} {a0 a1 : Value} {w : World} (h : pack_take_int64_main R a0 a1 w) : xCall P nr.pack_take_int64 [a0, a1] w R :=
  xCall_of (P := P) (fn := Try.f93) (by kernel_rfl) (by kernel_rfl) (by kernel_rfl) (pack_take_int64_ok h)

/-! sojourn/pack.groups: function 95 -/
def pack_groups_j0 (R : VCont) (w : World) : Prop :=
  R (Value.tuple #[(Value.int IntKind.u64 0), (Value.int IntKind.i64 0)]) w
def pack_groups_l1 (R : VCont) (X0 : LX) (v0 v9 v4 v10 : Value) (w : World) : Prop :=
  xBin P .lss 3 v10 v9 w fun t23 w =>
  xIf t23
  (xIndexAddr P 22 v0 v10 w fun t24 w =>
  xLoad1 t24 w fun t25 w =>
  xEq P .eql 3 false true v10 (Value.int IntKind.i64 9) w fun t26 w =>
  xWhen t26 true (fun K => K t25 w) w fun t27 w =>
  xWhen t26 true (fun K => xBin P .gtr 5 t27 (Value.int IntKind.u8 1) w K) w fun t28 w =>
  xPick t26 t28 (Value.bool false) w fun t29 w =>
  xIf t29
  (R (Value.tuple #[(Value.int IntKind.u64 0), (Value.int IntKind.i64 0)]) w)
  (xBin P .and 5 t25 (Value.int IntKind.u8 127) w fun t30 w =>
  xConvK P .pure 5 123 t30 w fun t31 w =>
  xBin P .mul 3 (Value.int IntKind.i64 7) v10 w fun t32 w =>
  xConvK P .pure 3 35 t32 w fun t33 w =>
  xBin P .shl 123 t31 t33 w fun t34 w =>
  xBin P .or 123 v4 t34 w fun t35 w =>
  xBin P .lss 5 t25 (Value.int IntKind.u8 128) w fun t36 w =>
  xIf t36
  (xEq P .eql 5 false true t25 (Value.int IntKind.u8 0) w fun t37 w =>
  xWhen t37 true (fun K => K v10 w) w fun t38 w =>
  xWhen t37 true (fun K => xBin P .gtr 3 t38 (Value.int IntKind.i64 0) w K) w fun t39 w =>
  xPick t37 t39 (Value.bool false) w fun t40 w =>
  xIf t40
  (R (Value.tuple #[(Value.int IntKind.u64 0), (Value.int IntKind.i64 0)]) w)
  (xBin P .add 3 v10 (Value.int IntKind.i64 1) w fun t41 w =>
  R (Value.tuple #[t35, t41]) w))
  (xBin P .add 3 v10 (Value.int IntKind.i64 1) w fun t42 w =>
  X0 [t35, t42] w)))
  (pack_groups_j0 R w)
def pack_groups_main (R : VCont) (a0 : Value) (w : World) : Prop :=
  xLen P .pure #[22] a0 w fun t1 w =>
  xMinMax P false [t1, (Value.int IntKind.i64 10)] w fun t2 w =>
  Lp (fun X s w => pack_groups_l1 R X a0 t2 (s.getD 0 undef) (s.getD 1 undef) w) [(Value.int IntKind.u64 0), (Value.int IntKind.i64 0)] w
def pack_groups_es (R : VCont) : List Ent := [
  .join fun Xs e w => pack_groups_j0 R  w,
  .loop [0, 9] [4, 10] fun Xs fx X s w => pack_groups_l1 R X (fx.getD 0 undef) (fx.getD 1 undef) (s.getD 0 undef) (s.getD 1 undef) w]
theorem pack_groups_ok {R : VCont} {a0 : Value} {w : World} (h : pack_groups_main R a0 w) : Calls P nr.pack_groups [a0].toArray w (Ret R) :=
  calls_of_sx (P := P) (fn := Try.f95) (Os := (fun _ => .no)) (Es := (pack_groups_es R)) (args := [a0]) mixed (by kernel_rfl) (by kernel_rfl) (by kernel_rfl) (by kernel_rfl) (by kernel_rfl) (by kernel_rfl) (by kernel_rfl)
    (Eq.mp (show pack_groups_main R a0 w = sxh P (fun _ => .no) (pack_groups_es R) [] 0 (bodyOf Try.f95) (retQ P Try.f95.results.toList R) (envOf [a0]) w by kernel_rfl) h)
theorem pack_groups_call {R : VCont} {a0 : Value} {w : World} (h : pack_groups_main R a0 w) : xCall P nr.pack_groups [a0] w R :=
  xCall_of (P := P) (fn := Try.f95) (by kernel_rfl) (by kernel_rfl) (by kernel_rfl) (pack_groups_ok h)

/-! sojourn/frame.Put: function 55 -/
def frame_Put_main (R : VCont) (a0 : Value) (w : World) : Prop :=
  xLen P .pure #[22] a0 w fun t1 w =>
  xBin P .lss 3 t1 (Value.int IntKind.i64 1) w fun t2 w =>
  xWhen t2 false (fun K => K a0 w) w fun t3 w =>
  xWhen t2 false (fun K => xLen P .pure #[22] t3 w K) w fun t4 w =>
  xWhen t2 false (fun K => xBin P .gtr 3 t4 (Value.int IntKind.i64 1000) w K) w fun t5 w =>
  xPick t2 (Value.bool true) t5 w fun t6 w =>
  xIf t6
  (R (Value.tuple #[(Value.slice none 0 0), (Value.int IntKind.i64 1)]) w)
  (xCall P nr.pack_Sum [a0] w fun t7 w =>
  xConvK P .pure 111 5 t7 w fun t8 w =>
  xBin P .shr 111 t7 (Value.int IntKind.u64 8) w fun t9 w =>
  xConvK P .pure 111 5 t9 w fun t10 w =>
  xBin P .shr 111 t7 (Value.int IntKind.u64 16) w fun t11 w =>
  xConvK P .pure 111 5 t11 w fun t12 w =>
  xBin P .shr 111 t7 (Value.int IntKind.u64 24) w fun t13 w =>
  xConvK P .pure 111 5 t13 w fun t14 w =>
  xLen P .pure #[22] a0 w fun t15 w =>
  xConvK P .pure 3 5 t15 w fun t16 w =>
  xLen P .pure #[22] a0 w fun t17 w =>
  xBin P .shr 3 t17 (Value.int IntKind.u64 8) w fun t18 w =>
  xConvK P .pure 3 5 t18 w fun t19 w =>
  xBuildSlice P 22 6 [(0, t8), (1, t10), (2, t12), (3, t14), (4, t16), (5, t19)] w fun t20 w =>
  xBuiltin P .append #[22, 22] 22 [false, false] [t20, a0] w fun t21 w =>
  R (Value.tuple #[t21, (Value.int IntKind.i64 0)]) w)
theorem frame_Put_ok {R : VCont} {a0 : Value} {w : World} (h : frame_Put_main R a0 w) : Calls P nr.frame_Put [a0].toArray w (Ret R) :=
  calls_of_sx (P := P) (fn := Try.f55) (Os := (fun _ => .no)) (Es := []) (args := [a0]) mixed (by kernel_rfl) (by kernel_rfl) (by kernel_rfl) (by kernel_rfl) (by kernel_rfl) (by kernel_rfl) (by kernel_rfl)
    (Eq.mp (show frame_Put_main R a0 w = sxh P (fun _ => .no) [] [] 0 (bodyOf Try.f55) (retQ P Try.f55.results.toList R) (envOf [a0]) w by kernel_rfl) h)
theorem frame_Put_call {R : VCont} {a0 : Value} {w : World} (h : frame_Put_main R a0 w) : xCall P nr.frame_Put [a0] w R :=
  xCall_of (P := P) (fn := Try.f55) (by kernel_rfl) (by kernel_rfl) (by kernel_rfl) (frame_Put_ok h)

/-! sojourn/frame.Read: function 64 -/
def frame_Read_j0 (R : VCont) (v4 v5 : Value) (w : World) : Prop :=
  Sx.dr w fun w =>
  xLoad1 v4 w fun t4 w' =>
  w' = w ∧
  xLoad1 v5 w fun t5 w' =>
  w' = w ∧
  R (Value.tuple #[t4, t5]) w
def frame_Read_l1 (R : VCont) (X0 : LX) (v4 v5 v6 : Value) (w : World) : Prop :=
  xCallV P v6 [] w fun t7 w =>
  xIf t7
  (X0 [] w)
  (frame_Read_j0 R v4 v5 w)
def frame_Read_main (R : VCont) (a0 : Value) (w : World) : Prop :=
  xBox P 22 a0 w fun t1 w =>
  xAlloc P 54 w fun t2 w =>
  xAlloc P 3 w fun t3 w =>
  xStore P 3 t3 (Value.int IntKind.i64 0) w fun _ w =>
  Lp (fun X s w => frame_Read_l1 R X t2 t3 (Value.func (.func nr.frame_Read_c1) #[] #[t1, t3, t2]) w) [] w
def frame_Read_os (i : Nat) : OT := cond (Nat.beq i 5) (.fl 0 (.fl 1 (.fl 2 (.fl 3 .done)))) (.no)
def frame_Read_es (R : VCont) : List Ent := [
  .join fun Xs e w => frame_Read_j0 R (e 4) (e 5) w,
  .loop [4, 5, 6] [] fun Xs fx X s w => frame_Read_l1 R X (fx.getD 0 undef) (fx.getD 1 undef) (fx.getD 2 undef) w]
theorem frame_Read_ok {R : VCont} {a0 : Value} {w : World} (h : frame_Read_main R a0 w) : Calls P nr.frame_Read [a0].toArray w (Ret R) :=
  calls_of_sx (P := P) (fn := Try.f64) (Os := frame_Read_os) (Es := (frame_Read_es R)) (args := [a0]) mixed (by kernel_rfl) (by kernel_rfl) (by kernel_rfl) (by kernel_rfl) (by kernel_rfl) (by kernel_rfl) (by kernel_rfl)
    (Eq.mp (show frame_Read_main R a0 w = sxh P frame_Read_os (frame_Read_es R) [] 0 (bodyOf Try.f64) (retQ P Try.f64.results.toList R) (envOf [a0]) w by kernel_rfl) h)
theorem frame_Read_call {R : VCont} {a0 : Value} {w : World} (h : frame_Read_main R a0 w) : xCall P nr.frame_Read [a0] w R :=
  xCall_of (P := P) (fn := Try.f64) (by kernel_rfl) (by kernel_rfl) (by kernel_rfl) (frame_Read_ok h)

/-! sojourn/frame.Read$1: function 76 -/
def frame_Read_c1_main (R : VCont) (a0 a1 a2 : Value) (w : World) : Prop :=
  xLoad1 a0 w fun t1 w =>
  xLoad1 a1 w fun t2 w =>
  xCall P nr.frame_One [t1, t2] w fun t3 w =>
  xExtract t3 0 w fun t4 w =>
  xExtract t3 1 w fun t5 w =>
  xBin P .lss 3 t5 (Value.int IntKind.i64 0) w fun t6 w =>
  xIf t6
  (R (Value.bool false) w)
  (xLoad1 a2 w fun t7 w =>
  xBuildSlice P 54 1 [(0, t4)] w fun t8 w =>
  xBuiltin P .append #[54, 54] 54 [false, false] [t7, t8] w fun t9 w =>
  xStore P 54 a2 t9 w fun _ w =>
  xStore P 3 a1 t5 w fun _ w =>
  R (Value.bool true) w)
theorem frame_Read_c1_ok {R : VCont} {a0 a1 a2 : Value} {w : World} (h : frame_Read_c1_main R a0 a1 a2 w) : Calls P nr.frame_Read_c1 [a0, a1, a2].toArray w (Ret R) :=
  calls_of_sx (P := P) (fn := Try.f76) (Os := (fun _ => .no)) (Es := []) (args := [a0, a1, a2]) mixed (by kernel_rfl) (by kernel_rfl) (by kernel_rfl) (by kernel_rfl) (by kernel_rfl) (by kernel_rfl) (by kernel_rfl)
    (Eq.mp (show frame_Read_c1_main R a0 a1 a2 w = sxh P (fun _ => .no) [] [] 0 (bodyOf Try.f76) (retQ P Try.f76.results.toList R) (envOf [a0, a1, a2]) w by kernel_rfl) h)
theorem frame_Read_c1_call {R : VCont} {a0 a1 a2 : Value} {w : World} (h : frame_Read_c1_main R a0 a1 a2 w) : xCall P nr.frame_Read_c1 [a0, a1, a2] w R :=
  xCall_of (P := P) (fn := Try.f76) (by kernel_rfl) (by kernel_rfl) (by kernel_rfl) (frame_Read_c1_ok h)

/-! sojourn/frame.One: function 77 -/
def frame_One_main (R : VCont) (a0 a1 : Value) (w : World) : Prop :=
  xBin P .lss 3 a1 (Value.int IntKind.i64 0) w fun t1 w =>
  xWhen t1 false (fun K => K a1 w) w fun t2 w =>
  xWhen t1 false (fun K => K a0 w) w fun t3 w =>
  xWhen t1 false (fun K => xLen P .pure #[22] t3 w K) w fun t4 w =>
  xWhen t1 false (fun K => xBin P .gtr 3 t2 t4 w K) w fun t5 w =>
  xPick t1 (Value.bool true) t5 w fun t6 w =>
  xWhen t6 false (fun K => K a0 w) w fun t7 w =>
  xWhen t6 false (fun K => xLen P .pure #[22] t7 w K) w fun t8 w =>
  xWhen t6 false (fun K => K a1 w) w fun t9 w =>
  xWhen t6 false (fun K => xBin P .sub 3 t8 t9 w K) w fun t10 w =>
  xWhen t6 false (fun K => xBin P .lss 3 t10 (Value.int IntKind.i64 6) w K) w fun t11 w =>
  xPick t6 (Value.bool true) t11 w fun t12 w =>
  xIf t12
  (R (Value.tuple #[(Value.slice none 0 0), (Value.int IntKind.i64 (-1))]) w)
  (Sx.dr w fun w =>
  xBin P .add 3 a1 (Value.int IntKind.i64 4) w fun t13 _ =>
  xIndexAddr P 22 a0 t13 w fun t14 _ =>
  xLoad1 t14 w fun t15 w' =>
  w' = w ∧
  xConvK P .pure 5 3 t15 w fun t16 _ =>
  xBin P .add 3 a1 (Value.int IntKind.i64 5) w fun t17 _ =>
  xIndexAddr P 22 a0 t17 w fun t18 _ =>
  xLoad1 t18 w fun t19 w' =>
  w' = w ∧
  xConvK P .pure 5 3 t19 w fun t20 _ =>
  xBin P .shl 3 t20 (Value.int IntKind.u64 8) w fun t21 _ =>
  xBin P .or 3 t16 t21 w fun t22 _ =>
  xBin P .lss 3 t22 (Value.int IntKind.i64 1) w fun t23 w =>
  xWhen t23 false (fun K => K t22 w) w fun t24 w =>
  xWhen t23 false (fun K => xBin P .gtr 3 t24 (Value.int IntKind.i64 1000) w K) w fun t25 w =>
  xPick t23 (Value.bool true) t25 w fun t26 w =>
  xWhen t26 false (fun K => K t22 w) w fun t27 w =>
  xWhen t26 false (fun K => K a0 w) w fun t28 w =>
  xWhen t26 false (fun K => xLen P .pure #[22] t28 w K) w fun t29 w =>
  xWhen t26 false (fun K => K a1 w) w fun t30 w =>
  xWhen t26 false (fun K => xBin P .sub 3 t29 t30 w K) w fun t31 w =>
  xWhen t26 false (fun K => xBin P .sub 3 t31 (Value.int IntKind.i64 6) w K) w fun t32 w =>
  xWhen t26 false (fun K => xBin P .gtr 3 t27 t32 w K) w fun t33 w =>
  xPick t26 (Value.bool true) t33 w fun t34 w =>
  xIf t34
  (R (Value.tuple #[(Value.slice none 0 0), (Value.int IntKind.i64 (-1))]) w)
  (xBin P .add 3 a1 (Value.int IntKind.i64 6) w fun t35 w =>
  xBin P .add 3 a1 (Value.int IntKind.i64 6) w fun t36 w =>
  xBin P .add 3 t36 t22 w fun t37 w =>
  xSlice P 22 a0 (some t35) (some t37) none w fun t38 w =>
  Sx.dr w fun w =>
  xIndexAddr P 22 a0 a1 w fun t39 _ =>
  xLoad1 t39 w fun t40 w' =>
  w' = w ∧
  xConvK P .pure 5 111 t40 w fun t41 _ =>
  xBin P .add 3 a1 (Value.int IntKind.i64 1) w fun t42 _ =>
  xIndexAddr P 22 a0 t42 w fun t43 _ =>
  xLoad1 t43 w fun t44 w' =>
  w' = w ∧
  xConvK P .pure 5 111 t44 w fun t45 _ =>
  xBin P .shl 111 t45 (Value.int IntKind.u64 8) w fun t46 _ =>
  xBin P .or 111 t41 t46 w fun t47 _ =>
  xBin P .add 3 a1 (Value.int IntKind.i64 2) w fun t48 _ =>
  xIndexAddr P 22 a0 t48 w fun t49 _ =>
  xLoad1 t49 w fun t50 w' =>
  w' = w ∧
  xConvK P .pure 5 111 t50 w fun t51 _ =>
  xBin P .shl 111 t51 (Value.int IntKind.u64 16) w fun t52 _ =>
  xBin P .or 111 t47 t52 w fun t53 _ =>
  xBin P .add 3 a1 (Value.int IntKind.i64 3) w fun t54 _ =>
  xIndexAddr P 22 a0 t54 w fun t55 _ =>
  xLoad1 t55 w fun t56 w' =>
  w' = w ∧
  xConvK P .pure 5 111 t56 w fun t57 _ =>
  xBin P .shl 111 t57 (Value.int IntKind.u64 24) w fun t58 _ =>
  xBin P .or 111 t53 t58 w fun t59 _ =>
  xCall P nr.pack_Sum [t38] w fun t60 w =>
  xEq P .neq 111 false false t60 t59 w fun t61 w =>
  xIf t61
  (R (Value.tuple #[(Value.slice none 0 0), (Value.int IntKind.i64 (-1))]) w)
  (xBuildSlice P 22 0 [] w fun t62 w =>
  xBuiltin P .append #[22, 22] 22 [false, false] [t62, t38] w fun t63 w =>
  xBin P .add 3 a1 (Value.int IntKind.i64 6) w fun t64 w =>
  xBin P .add 3 t64 t22 w fun t65 w =>
  R (Value.tuple #[t63, t65]) w)))
def frame_One_os (i : Nat) : OT := cond (Nat.beq i 3) (.fl 0 (.fl 1 (.fl 2 (.fl 3 (.fl 4 (.fl 5 (.fl 6 (.fl 7 (.fl 8 (.fl 9 (.fl 10 (.fl 11 (.fl 12 (.fl 13 (.fl 14 .done))))))))))))))) (cond (Nat.beq i 7) (.fl 0 (.fl 1 (.fl 2 (.fl 3 (.fl 4 (.fl 5 (.fl 6 (.fl 7 (.fl 8 (.fl 9 (.fl 10 (.fl 11 (.fl 12 (.fl 13 (.fl 14 (.fl 15 (.fl 16 (.fl 17 (.fl 18 (.fl 19 (.fl 20 (.fl 21 (.fl 22 (.fl 23 (.fl 24 (.fl 25 (.fl 26 (.fl 27 (.fl 28 (.fl 29 .done)))))))))))))))))))))))))))))) (.no))
theorem frame_One_ok {R : VCont} {a0 a1 : Value} {w : World} (h : frame_One_main R a0 a1 w) : Calls P nr.frame_One [a0, a1].toArray w (Ret R) :=
  calls_of_sx (P := P) (fn := Try.f77) (Os := frame_One_os) (Es := []) (args := [a0, a1]) mixed (by kernel_rfl) (by kernel_rfl) (by kernel_rfl) (by kernel_rfl) (by kernel_rfl) (by kernel_rfl) (by kernel_rfl)
    (Eq.mp (show frame_One_main R a0 a1 w = sxh P frame_One_os [] [] 0 (bodyOf Try.f77) (retQ P Try.f77.results.toList R) (envOf [a0, a1]) w by kernel_rfl) h)
theorem frame_One_call {R : VCont} {a0 a1 : Value} {w : World} (h : frame_One_main R a0 a1 w) : xCall P nr.frame_One [a0, a1] w R :=
  xCall_of (P := P) (fn := Try.f77) (by kernel_rfl) (by kernel_rfl) (by kernel_rfl) (frame_One_ok h)

end Go.Proofs.Ytamejkogghpbhaa
