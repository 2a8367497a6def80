/- Printed by wip/gen/gen.py: the shallow texts of some functions. -/
import Derived.Test.YtamejkogghpbhaaNames
set_option linter.unusedVariables false
namespace Go.Proofs.Ytamejkogghpbhaa
open Go.Sx

/-! sojourn/sojournlaw6.SealMany: function 9 -/
def law6_SealMany_j0 (R : VCont) (v5 v9 : Value) (w : World) : Prop :=
  xCall P nr.law6_told [] w fun t17 w =>
  xWhen t17 true (fun K => K v5 w) w fun t18 w =>
  xWhen t17 true (fun K => xCall P nr.seal_Log_Len [t18] w K) w fun t19 w =>
  xWhen t17 true (fun K => K v9 w) w fun t20 w =>
  xWhen t17 true (fun K => xEq P .eql 3 false false t19 t20 w K) w fun t21 w =>
  xPick t17 t21 (Value.bool false) w fun t22 w =>
  R t22 w
def law6_SealMany_j2 (R : VCont) (X0 : LX) (v5 v9 v10 : Value) (w : World) : Prop :=
  xBin P .add 3 v10 (Value.int IntKind.i64 1) w fun t157 w =>
  X0 [v5, v9, t157] w
def law6_SealMany_j5 (R : VCont) (X0 : LX) (v9 v10 v12 : Value) (w : World) : Prop :=
  law6_SealMany_j2 R X0 v12 v9 v10 w
def law6_SealMany_l6 (R : VCont) (X1 X0 : LX) (v9 v10 v12 v14 v16 : Value) (w : World) : Prop :=
  xBin P .lss 3 v16 v9 w fun t241 w =>
  xIf t241
  (xIndexAddr P 54 v14 v16 w fun t242 w =>
  xLoad1 t242 w fun t243 w =>
  xLen P .pure #[22] t243 w fun t244 w =>
  xEq P .neq 3 false true t244 (Value.int IntKind.i64 2) w fun t245 w =>
  xWhen t245 false (fun K => K v14 w) w fun t246 w =>
  xWhen t245 false (fun K => K v16 w) w fun t247 w =>
  xWhen t245 false (fun K => xIndexAddr P 54 t246 t247 w K) w fun t248 w =>
  xWhen t245 false (fun K => xLoad1 t248 w K) w fun t249 w =>
  xWhen t245 false (fun K => xIndexAddr P 22 t249 (Value.int IntKind.i64 0) w K) w fun t250 w =>
  xWhen t245 false (fun K => xLoad1 t250 w K) w fun t251 w =>
  xWhen t245 false (fun K => K v10 w) w fun t252 w =>
  xWhen t245 false (fun K => xConvK P .pure 3 5 t252 w K) w fun t253 w =>
  xWhen t245 false (fun K => xEq P .neq 5 false false t251 t253 w K) w fun t254 w =>
  xPick t245 (Value.bool true) t254 w fun t255 w =>
  xWhen t255 false (fun K => K v14 w) w fun t256 w =>
  xWhen t255 false (fun K => K v16 w) w fun t257 w =>
  xWhen t255 false (fun K => xIndexAddr P 54 t256 t257 w K) w fun t258 w =>
  xWhen t255 false (fun K => xLoad1 t258 w K) w fun t259 w =>
  xWhen t255 false (fun K => xIndexAddr P 22 t259 (Value.int IntKind.i64 1) w K) w fun t260 w =>
  xWhen t255 false (fun K => xLoad1 t260 w K) w fun t261 w =>
  xWhen t255 false (fun K => K v16 w) w fun t262 w =>
  xWhen t255 false (fun K => xConvK P .pure 3 5 t262 w K) w fun t263 w =>
  xWhen t255 false (fun K => xEq P .neq 5 false false t261 t263 w K) w fun t264 w =>
  xPick t255 (Value.bool true) t264 w fun t265 w =>
  xIf t265
  (R (Value.bool false) w)
  (xBin P .add 3 v16 (Value.int IntKind.i64 1) w fun t266 w =>
  X1 [t266] w))
  (law6_SealMany_j5 R X0 v9 v10 v12 w)
def law6_SealMany_j3 (R : VCont) (X0 : LX) (v3 v5 v9 v10 : Value) (w : World) : Prop :=
  xCall P nr.seal_Log_Len [v5] w fun t168 w =>
  xEq P .neq 3 false false t168 v9 w fun t169 w =>
  xWhen t169 false (fun K => K v5 w) w fun t170 w =>
  xWhen t169 false (fun K => xCall P nr.seal_Log_Sync [t170] w K) w fun t171 w =>
  xWhen t169 false (fun K => xEq P .neq 3 false true t171 (Value.int IntKind.i64 0) w K) w fun t172 w =>
  xPick t169 (Value.bool true) t172 w fun t173 w =>
  xIf t173
  (R (Value.bool false) w)
  (xBin P .and 3 v10 (Value.int IntKind.i64 1) w fun t174 w =>
  xEq P .eql 3 false true t174 (Value.int IntKind.i64 1) w fun t175 w =>
  xIf t175
  (xCall P nr.disk_Disk_Crash [v3, (Value.int IntKind.i64 0)] w fun t176 w =>
  xCall P nr.seal_Open [v3] w fun t177 w =>
  xExtract t177 0 w fun t178 w =>
  xExtract t177 1 w fun t179 w =>
  xExtract t177 2 w fun t180 w =>
  xExtract t177 3 w fun t181 w =>
  xEq P .neq 3 false true t181 (Value.int IntKind.i64 0) w fun t182 w =>
  xWhen t182 false (fun K => K t178 w) w fun t183 w =>
  xWhen t182 false (fun K => xEq P .eql 53 false true t183 (Value.pointer none) w K) w fun t184 w =>
  xPick t182 (Value.bool true) t184 w fun t185 w =>
  xWhen t185 false (fun K => K t179 w) w fun t186 w =>
  xWhen t185 false (fun K => xLen P .pure #[54] t186 w K) w fun t187 w =>
  xWhen t185 false (fun K => xEq P .neq 3 false true t187 (Value.int IntKind.i64 1) w K) w fun t188 w =>
  xPick t185 (Value.bool true) t188 w fun t189 w =>
  xWhen t189 false (fun K => K t179 w) w fun t190 w =>
  xWhen t189 false (fun K => xIndexAddr P 54 t190 (Value.int IntKind.i64 0) w K) w fun t191 w =>
  xWhen t189 false (fun K => xLoad1 t191 w K) w fun t192 w =>
  xWhen t189 false (fun K => xLen P .pure #[22] t192 w K) w fun t193 w =>
  xWhen t189 false (fun K => xEq P .neq 3 false true t193 (Value.int IntKind.i64 1) w K) w fun t194 w =>
  xPick t189 (Value.bool true) t194 w fun t195 w =>
  xWhen t195 false (fun K => K t179 w) w fun t196 w =>
  xWhen t195 false (fun K => xIndexAddr P 54 t196 (Value.int IntKind.i64 0) w K) w fun t197 w =>
  xWhen t195 false (fun K => xLoad1 t197 w K) w fun t198 w =>
  xWhen t195 false (fun K => xIndexAddr P 22 t198 (Value.int IntKind.i64 0) w K) w fun t199 w =>
  xWhen t195 false (fun K => xLoad1 t199 w K) w fun t200 w =>
  xWhen t195 false (fun K => K v10 w) w fun t201 w =>
  xWhen t195 false (fun K => xConvK P .pure 3 5 t201 w K) w fun t202 w =>
  xWhen t195 false (fun K => xEq P .neq 5 false false t200 t202 w K) w fun t203 w =>
  xPick t195 (Value.bool true) t203 w fun t204 w =>
  xWhen t204 false (fun K => K t180 w) w fun t205 w =>
  xWhen t204 false (fun K => xLen P .pure #[54] t205 w K) w fun t206 w =>
  xWhen t204 false (fun K => K v9 w) w fun t207 w =>
  xWhen t204 false (fun K => xEq P .neq 3 false false t206 t207 w K) w fun t208 w =>
  xPick t204 (Value.bool true) t208 w fun t209 w =>
  xWhen t209 false (fun K => K t178 w) w fun t210 w =>
  xWhen t209 false (fun K => xCall P nr.seal_Log_Len [t210] w K) w fun t211 w =>
  xWhen t209 false (fun K => K v9 w) w fun t212 w =>
  xWhen t209 false (fun K => xEq P .neq 3 false false t211 t212 w K) w fun t213 w =>
  xPick t209 (Value.bool true) t213 w fun t214 w =>
  xIf t214
  (R (Value.bool false) w)
  (Lp (fun X s w => law6_SealMany_l6 R X X0 v9 v10 t178 t180 (s.getD 0 undef) w) [(Value.int IntKind.i64 0)] w))
  (law6_SealMany_j2 R X0 v5 v9 v10 w))
def law6_SealMany_l4 (R : VCont) (X1 X0 : LX) (v3 v5 v9 v10 v11 : Value) (w : World) : Prop :=
  xBin P .lss 3 v11 v9 w fun t274 w =>
  xIf t274
  (xConvK P .pure 3 5 v10 w fun t275 w =>
  xConvK P .pure 3 5 v11 w fun t276 w =>
  xBuildSlice P 22 2 [(0, t275), (1, t276)] w fun t277 w =>
  xCall P nr.seal_Log_Put [v5, t277] w fun t278 w =>
  xEq P .neq 3 false true t278 (Value.int IntKind.i64 0) w fun t279 w =>
  xIf t279
  (R (Value.bool false) w)
  (xBin P .add 3 v11 (Value.int IntKind.i64 1) w fun t280 w =>
  X1 [t280] w))
  (law6_SealMany_j3 R X0 v3 v5 v9 v10 w)
def law6_SealMany_l1 (R : VCont) (X0 : LX) (v0 v3 v5 v9 v10 : Value) (w : World) : Prop :=
  xLen P .pure #[67] v0 w fun t152 w =>
  xBin P .lss 3 v10 t152 w fun t153 w =>
  xWhen t153 true (fun K => K v10 w) w fun t154 w =>
  xWhen t153 true (fun K => xBin P .lss 3 t154 (Value.int IntKind.i64 10) w K) w fun t155 w =>
  xPick t153 t155 (Value.bool false) w fun t156 w =>
  xIf t156
  (xIndexAddr P 67 v0 v10 w fun t158 w =>
  xLoad1 t158 w fun t159 w =>
  xConvK P .pure 3 35 t159 w fun t160 w =>
  xBin P .rem 35 t160 (Value.int IntKind.u64 6) w fun t161 w =>
  xConvK P .pure 35 3 t161 w fun t162 w =>
  xConvK P .pure 3 5 v10 w fun t163 w =>
  xBuildSlice P 22 1 [(0, t163)] w fun t164 w =>
  xBuildSlice P 54 1 [(0, t164)] w fun t165 w =>
  xCall P nr.seal_Log_Save [v5, t165] w fun t166 w =>
  xEq P .neq 3 false true t166 (Value.int IntKind.i64 0) w fun t167 w =>
  xIf t167
  (R (Value.bool false) w)
  (Lp (fun X s w => law6_SealMany_l4 R X X0 v3 v5 t162 v10 (s.getD 0 undef) w) [(Value.int IntKind.i64 0)] w))
  (law6_SealMany_j0 R v5 v9 w)
def law6_SealMany_main (R : VCont) (a0 : Value) (w : World) : Prop :=
  xCall P nr.disk_New [(Value.int IntKind.i64 1000000)] w fun t1 w =>
  xExtract t1 0 w fun t2 w =>
  xExtract t1 1 w fun t3 w =>
  xEq P .neq 3 false true t3 (Value.int IntKind.i64 0) w fun t4 w =>
  xWhen t4 false (fun K => K t2 w) w fun t5 w =>
  xWhen t4 false (fun K => xEq P .eql 23 false true t5 (Value.pointer none) w K) w fun t6 w =>
  xPick t4 (Value.bool true) t6 w fun t7 w =>
  xIf t7
  (R (Value.bool false) w)
  (xCall P nr.seal_Open [t2] w fun t8 w =>
  xExtract t8 0 w fun t9 w =>
  xExtract t8 1 w fun t10 w =>
  xExtract t8 2 w fun t11 w =>
  xExtract t8 3 w fun t12 w =>
  xEq P .neq 3 false true t12 (Value.int IntKind.i64 0) w fun t13 w =>
  xWhen t13 false (fun K => K t9 w) w fun t14 w =>
  xWhen t13 false (fun K => xEq P .eql 53 false true t14 (Value.pointer none) w K) w fun t15 w =>
  xPick t13 (Value.bool true) t15 w fun t16 w =>
  xIf t16
  (R (Value.bool false) w)
  (Lp (fun X s w => law6_SealMany_l1 R X a0 t2 (s.getD 0 undef) (s.getD 1 undef) (s.getD 2 undef) w) [t9, (Value.int IntKind.i64 0), (Value.int IntKind.i64 0)] w))
def law6_SealMany_es (R : VCont) : List Ent := [
  .join fun Xs e w => law6_SealMany_j0 R (e 5) (e 9) w,
  .loop [0, 3] [5, 9, 10] fun Xs fx X s w => law6_SealMany_l1 R X (fx.getD 0 undef) (fx.getD 1 undef) (s.getD 0 undef) (s.getD 1 undef) (s.getD 2 undef) w,
  .join fun Xs e w => law6_SealMany_j2 R (hx Xs) (e 5) (e 9) (e 10) w,
  .join fun Xs e w => law6_SealMany_j3 R (hx Xs) (e 3) (e 5) (e 9) (e 10) w,
  .loop [3, 5, 9, 10] [11] fun Xs fx X s w => law6_SealMany_l4 R X (hx Xs) (fx.getD 0 undef) (fx.getD 1 undef) (fx.getD 2 undef) (fx.getD 3 undef) (s.getD 0 undef) w,
  .join fun Xs e w => law6_SealMany_j5 R (hx Xs) (e 9) (e 10) (e 12) w,
  .loop [9, 10, 12, 14] [16] fun Xs fx X s w => law6_SealMany_l6 R X (hx Xs) (fx.getD 0 undef) (fx.getD 1 undef) (fx.getD 2 undef) (fx.getD 3 undef) (s.getD 0 undef) w]
theorem law6_SealMany_ok {R : VCont} {a0 : Value} {w : World} (h : law6_SealMany_main R a0 w) : Calls P nr.law6_SealMany [a0].toArray w (Ret R) :=
  calls_of_sx (P := P) (fn := Try.f9) (Os := (fun _ => .no)) (Es := (law6_SealMany_es R)) (args := [a0]) mixed (by kernel_rfl) (by kernel_rfl) (by kernel_rfl) (by kernel_rfl) (by kernel_rfl) (by kernel_rfl) (by kernel_rfl)
    (Eq.mp (show law6_SealMany_main R a0 w = sxh P (fun _ => .no) (law6_SealMany_es R) [] 0 (bodyOf Try.f9) (retQ P Try.f9.results.toList R) (envOf [a0]) w by kernel_rfl) h)
theorem law6_SealMany_call {R : VCont} {a0 : Value} {w : World} (h : law6_SealMany_main R a0 w) : xCall P nr.law6_SealMany [a0] w R :=
  xCall_of (P := P) (fn := Try.f9) (by kernel_rfl) (by kernel_rfl) (by kernel_rfl) (law6_SealMany_ok h)

end Go.Proofs.Ytamejkogghpbhaa
