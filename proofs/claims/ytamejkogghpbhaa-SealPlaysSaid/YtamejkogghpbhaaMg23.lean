import Derived.Test.YtamejkogghpbhaaMg10
import Derived.Test.YtamejkogghpbhaaMg22
import Derived.Test.YtamejkogghpbhaaMg19
section
/- Printed by wip/gen/gen.py: the shallow texts of some functions. -/
set_option linter.unusedVariables false
namespace Go.Proofs.Ytamejkogghpbhaa
open Go.Sx

/-! sojourn/sojournlaw5.DiskPlays: function 5 -/
def law5_DiskPlays_j0 (R : VCont) (w : World) : Prop :=
  xCall P nr.law5_told [] w fun t21 w =>
  R t21 w
def law5_DiskPlays_j2 (R : VCont) (X0 : LX) (v5 v7 v8 v9 v10 v11 : Value) (w : World) : Prop :=
  xEq P .neq 3 false false v10 v11 w fun t158 w =>
  xWhen t158 false (fun K => K v5 w) w fun t159 w =>
  xWhen t158 false (fun K => K v7 w) w fun t160 w =>
  xWhen t158 false (fun K => xCall P nr.law5_same [t159, t160] w K) w fun t161 w =>
  xWhen t158 false (fun K => xUn P .not t161 w K) w fun t162 w =>
  xPick t158 (Value.bool true) t162 w fun t163 w =>
  xIf t163
  (R (Value.bool false) w)
  (xOff (some 2) v9 w fun t164 w =>
  xLoad1 t164 w fun t165 w =>
  xCall P nr.disk_Disk_Read [v5, t165] w fun t166 w =>
  xExtract t166 0 w fun t167 w =>
  xExtract t166 1 w fun t168 w =>
  xOff (some 2) v9 w fun t169 w =>
  xLoad1 t169 w fun t170 w =>
  xCall P nr.ref5_D_Read [v7, t170] w fun t171 w =>
  xExtract t171 0 w fun t172 w =>
  xExtract t171 1 w fun t173 w =>
  xEq P .neq 3 false false t168 t173 w fun t174 w =>
  xIf t174
  (R (Value.bool false) w)
  (xBin P .add 3 v8 (Value.int IntKind.i64 1) w fun t175 w =>
  X0 [v5, t175] w))
def law5_DiskPlays_l1 (R : VCont) (X0 : LX) (v1 v7 v5 v8 : Value) (w : World) : Prop :=
  xLen P .pure #[39] v1 w fun t135 w =>
  xBin P .lss 3 v8 t135 w fun t136 w =>
  xWhen t136 true (fun K => K v8 w) w fun t137 w =>
  xWhen t136 true (fun K => xBin P .lss 3 t137 (Value.int IntKind.i64 60) w K) w fun t138 w =>
  xPick t136 t138 (Value.bool false) w fun t139 w =>
  xIf t139
  (xIndexAddr P 39 v1 v8 w fun t140 w =>
  xLoadN 5 t140 w fun t141 w =>
  xAlloc P 45 w fun t142 w =>
  xStore P 45 t142 t141 w fun _ w =>
  xOff (some 2) t142 w fun t143 w =>
  xLoad1 t143 w fun t144 w =>
  xLen P .pure #[9] t144 w fun t145 w =>
  xBin P .gtr 3 t145 (Value.int IntKind.i64 30) w fun t146 w =>
  xWhen t146 false (fun K => xOff (some 3) t142 w K) w fun t147 w =>
  xWhen t146 false (fun K => xLoad1 t147 w K) w fun t148 w =>
  xWhen t146 false (fun K => xLen P .pure #[9] t148 w K) w fun t149 w =>
  xWhen t146 false (fun K => xBin P .gtr 3 t149 (Value.int IntKind.i64 30) w K) w fun t150 w =>
  xPick t146 (Value.bool true) t150 w fun t151 w =>
  xWhen t151 false (fun K => xOff (some 4) t142 w K) w fun t152 w =>
  xWhen t151 false (fun K => xLoad1 t152 w K) w fun t153 w =>
  xWhen t151 false (fun K => xLen P .pure #[22] t153 w K) w fun t154 w =>
  xWhen t151 false (fun K => xBin P .gtr 3 t154 (Value.int IntKind.i64 60) w K) w fun t155 w =>
  xPick t151 (Value.bool true) t155 w fun t156 w =>
  xIf t156
  (xCall P nr.law5_told [] w fun t157 w =>
  R t157 w)
  (xOff (some 0) t142 w fun t176 w =>
  xLoad1 t176 w fun t177 w =>
  xEq P .eql 3 false true t177 (Value.int IntKind.i64 0) w fun t178 w =>
  xIf t178
  (Sx.dr w fun w =>
  xOff (some 2) t142 w fun t179 _ =>
  xLoad1 t179 w fun t180 w' =>
  w' = w ∧
  xOff (some 4) t142 w fun t181 _ =>
  xLoad1 t181 w fun t182 w' =>
  w' = w ∧
  xOff (some 2) t142 w fun t183 _ =>
  xLoad1 t183 w fun t184 w' =>
  w' = w ∧
  xOff (some 4) t142 w fun t185 _ =>
  xLoad1 t185 w fun t186 w' =>
  w' = w ∧
  xConvK P .read 22 9 t186 w fun t187 w' =>
  w' = w ∧
  xCall P nr.disk_Disk_Append [v5, t180, t182] w fun t188 w =>
  (xConvK P .read 22 9 t186 w fun t189 w' =>
  w' = w ∧ t189 = t187) ∧
  (xLoad1 t185 w fun t190 w' =>
  w' = w ∧ t190 = t186) ∧
  (xLoad1 t183 w fun t191 w' =>
  w' = w ∧ t191 = t184) ∧
  xCall P nr.ref5_D_Append [v7, t184, t187] w fun t192 w =>
  law5_DiskPlays_j2 R X0 v5 v7 v8 t142 t188 t192 w)
  (xEq P .eql 3 false true t177 (Value.int IntKind.i64 1) w fun t193 w =>
  xIf t193
  (Sx.dr w fun w =>
  xOff (some 2) t142 w fun t194 _ =>
  xLoad1 t194 w fun t195 w' =>
  w' = w ∧
  xOff (some 2) t142 w fun t196 _ =>
  xLoad1 t196 w fun t197 w' =>
  w' = w ∧
  xCall P nr.disk_Disk_Sync [v5, t195] w fun t198 w =>
  (xLoad1 t196 w fun t199 w' =>
  w' = w ∧ t199 = t197) ∧
  xCall P nr.ref5_D_Sync [v7, t197] w fun t200 w =>
  law5_DiskPlays_j2 R X0 v5 v7 v8 t142 t198 t200 w)
  (xEq P .eql 3 false true t177 (Value.int IntKind.i64 2) w fun t201 w =>
  xIf t201
  (Sx.dr w fun w =>
  xOff (some 2) t142 w fun t202 _ =>
  xLoad1 t202 w fun t203 w' =>
  w' = w ∧
  xOff (some 1) t142 w fun t204 _ =>
  xLoad1 t204 w fun t205 w' =>
  w' = w ∧
  xOff (some 2) t142 w fun t206 _ =>
  xLoad1 t206 w fun t207 w' =>
  w' = w ∧
  xOff (some 1) t142 w fun t208 _ =>
  xLoad1 t208 w fun t209 w' =>
  w' = w ∧
  xCall P nr.disk_Disk_Cut [v5, t203, t205] w fun t210 w =>
  (xLoad1 t208 w fun t211 w' =>
  w' = w ∧ t211 = t209) ∧
  (xLoad1 t206 w fun t212 w' =>
  w' = w ∧ t212 = t207) ∧
  xCall P nr.ref5_D_Cut [v7, t207, t209] w fun t213 w =>
  law5_DiskPlays_j2 R X0 v5 v7 v8 t142 t210 t213 w)
  (xEq P .eql 3 false true t177 (Value.int IntKind.i64 3) w fun t214 w =>
  xIf t214
  (Sx.dr w fun w =>
  xOff (some 2) t142 w fun t215 _ =>
  xLoad1 t215 w fun t216 w' =>
  w' = w ∧
  xOff (some 3) t142 w fun t217 _ =>
  xLoad1 t217 w fun t218 w' =>
  w' = w ∧
  xOff (some 2) t142 w fun t219 _ =>
  xLoad1 t219 w fun t220 w' =>
  w' = w ∧
  xOff (some 3) t142 w fun t221 _ =>
  xLoad1 t221 w fun t222 w' =>
  w' = w ∧
  xCall P nr.disk_Disk_Rename [v5, t216, t218] w fun t223 w =>
  (xLoad1 t221 w fun t224 w' =>
  w' = w ∧ t224 = t222) ∧
  (xLoad1 t219 w fun t225 w' =>
  w' = w ∧ t225 = t220) ∧
  xCall P nr.ref5_D_Rename [v7, t220, t222] w fun t226 w =>
  law5_DiskPlays_j2 R X0 v5 v7 v8 t142 t223 t226 w)
  (xEq P .eql 3 false true t177 (Value.int IntKind.i64 4) w fun t227 w =>
  xIf t227
  (Sx.dr w fun w =>
  xOff (some 2) t142 w fun t228 _ =>
  xLoad1 t228 w fun t229 w' =>
  w' = w ∧
  xOff (some 2) t142 w fun t230 _ =>
  xLoad1 t230 w fun t231 w' =>
  w' = w ∧
  xCall P nr.disk_Disk_Remove [v5, t229] w fun t232 w =>
  (xLoad1 t230 w fun t233 w' =>
  w' = w ∧ t233 = t231) ∧
  xCall P nr.ref5_D_Remove [v7, t231] w fun t234 w =>
  law5_DiskPlays_j2 R X0 v5 v7 v8 t142 t232 t234 w)
  (xEq P .eql 3 false true t177 (Value.int IntKind.i64 5) w fun t235 w =>
  xIf t235
  (xOff (some 1) t142 w fun t236 w =>
  xLoad1 t236 w fun t237 w =>
  xCall P nr.disk_Disk_Crash [v5, t237] w fun t238 w =>
  xOff (some 1) t142 w fun t239 w =>
  xLoad1 t239 w fun t240 w =>
  xCall P nr.ref5_D_Crash [v7, t240] w fun t241 w =>
  law5_DiskPlays_j2 R X0 v5 v7 v8 t142 (Value.int IntKind.i64 0) (Value.int IntKind.i64 0) w)
  (xCall P nr.disk_Disk_Copy [v5] w fun t242 w =>
  xEq P .eql 23 false true t242 (Value.pointer none) w fun t243 w =>
  xIf t243
  (R (Value.bool false) w)
  (xBuildSlice P 22 4 [(0, (Value.int IntKind.u8 103)), (1, (Value.int IntKind.u8 111)), (2, (Value.int IntKind.u8 110)), (3, (Value.int IntKind.u8 101))] w fun t244 w =>
  xConvK P .more 22 22 t244 w fun t245 w =>
  xCall P nr.disk_Disk_Append [v5, (Value.string { data := #[103, 111, 110, 101] }), t245] w fun t246 w =>
  xCall P nr.disk_Disk_Crash [v5, (Value.int IntKind.i64 0)] w fun t247 w =>
  law5_DiskPlays_j2 R X0 t242 v7 v8 t142 (Value.int IntKind.i64 0) (Value.int IntKind.i64 0) w)))))))))
  (law5_DiskPlays_j0 R w)
def law5_DiskPlays_main (R : VCont) (a0 a1 : Value) (w : World) : Prop :=
  xCall P nr.disk_New [a0] w fun t1 w =>
  xExtract t1 0 w fun t2 w =>
  xExtract t1 1 w fun t3 w =>
  xBin P .lss 3 a0 (Value.int IntKind.i64 0) w fun t4 w =>
  xWhen t4 false (fun K => K a0 w) w fun t5 w =>
  xWhen t4 false (fun K => xBin P .gtr 3 t5 (Value.int IntKind.i64 1000000) w K) w fun t6 w =>
  xPick t4 (Value.bool true) t6 w fun t7 w =>
  xIf t7
  (xCall P nr.law5_told [] w fun t8 w =>
  xWhen t8 true (fun K => K t3 w) w fun t9 w =>
  xWhen t8 true (fun K => xEq P .eql 3 false true t9 (Value.int IntKind.i64 1) w K) w fun t10 w =>
  xPick t8 t10 (Value.bool false) w fun t11 w =>
  xWhen t11 true (fun K => K t2 w) w fun t12 w =>
  xWhen t11 true (fun K => xEq P .eql 23 false true t12 (Value.pointer none) w K) w fun t13 w =>
  xPick t11 t13 (Value.bool false) w fun t14 w =>
  R t14 w)
  (xEq P .neq 3 false true t3 (Value.int IntKind.i64 0) w fun t15 w =>
  xWhen t15 false (fun K => K t2 w) w fun t16 w =>
  xWhen t15 false (fun K => xEq P .eql 23 false true t16 (Value.pointer none) w K) w fun t17 w =>
  xPick t15 (Value.bool true) t17 w fun t18 w =>
  xIf t18
  (R (Value.bool false) w)
  (xBuild P 43 [(0, a0)] w fun t19 w =>
  xBox P 43 t19 w fun t20 w =>
  Lp (fun X s w => law5_DiskPlays_l1 R X a1 t20 (s.getD 0 undef) (s.getD 1 undef) w) [t2, (Value.int IntKind.i64 0)] w))
def law5_DiskPlays_os (i : Nat) : OT := cond (Nat.beq i 22) (.fl 0 (.fl 1 (.fl 2 (.fl 3 (.fl 4 (.fl 6 (.fl 7 (.fl 8 (.fl 9 (.fl 10 (.fl 11 (.an 5 (.an 12 (.fl 13 (.fl 14 .done)) .no) .no)))))))))))) (cond (Nat.beq i 24) (.fl 0 (.fl 1 (.fl 2 (.fl 4 (.fl 5 (.fl 6 (.an 3 (.an 7 (.fl 8 (.fl 9 .done)) .no) .no))))))) (cond (Nat.beq i 26) (.fl 0 (.fl 1 (.fl 2 (.fl 3 (.fl 4 (.fl 6 (.fl 7 (.fl 8 (.fl 9 (.fl 10 (.an 5 (.an 11 (.fl 12 (.fl 13 .done)) .no) .no))))))))))) (cond (Nat.beq i 28) (.fl 0 (.fl 1 (.fl 2 (.fl 3 (.fl 4 (.fl 6 (.fl 7 (.fl 8 (.fl 9 (.fl 10 (.an 5 (.an 11 (.fl 12 (.fl 13 .done)) .no) .no))))))))))) (cond (Nat.beq i 30) (.fl 0 (.fl 1 (.fl 2 (.fl 4 (.fl 5 (.fl 6 (.an 3 (.an 7 (.fl 8 (.fl 9 .done)) .no) .no))))))) (.no)))))
def law5_DiskPlays_es (R : VCont) : List Ent := [
  .join fun Xs e w => law5_DiskPlays_j0 R  w,
  .loop [1, 7] [5, 8] fun Xs fx X s w => law5_DiskPlays_l1 R X (fx.getD 0 undef) (fx.getD 1 undef) (s.getD 0 undef) (s.getD 1 undef) w,
  .join fun Xs e w => law5_DiskPlays_j2 R (hx Xs) (e 5) (e 7) (e 8) (e 9) (e 10) (e 11) w]
theorem law5_DiskPlays_ok {R : VCont} {a0 a1 : Value} {w : World} (h : law5_DiskPlays_main R a0 a1 w) : Calls P nr.law5_DiskPlays [a0, a1].toArray w (Ret R) :=
  calls_of_sx (P := P) (fn := Try.f5) (Os := law5_DiskPlays_os) (Es := (law5_DiskPlays_es R)) (args := [a0, a1]) mixed (by kernel_rfl) (by kernel_rfl) (by kernel_rfl) (by kernel_rfl) (by kernel_rfl) (by kernel_rfl) (by kernel_rfl)
    (Eq.mp (show law5_DiskPlays_main R a0 a1 w = sxh P law5_DiskPlays_os (law5_DiskPlays_es R) [] 0 (bodyOf Try.f5) (retQ P Try.f5.results.toList R) (envOf [a0, a1]) w by kernel_rfl) h)
theorem law5_DiskPlays_call {R : VCont} {a0 a1 : Value} {w : World} (h : law5_DiskPlays_main R a0 a1 w) : xCall P nr.law5_DiskPlays [a0, a1] w R :=
  xCall_of (P := P) (fn := Try.f5) (by kernel_rfl) (by kernel_rfl) (by kernel_rfl) (law5_DiskPlays_ok h)

/-! sojourn/sojournlaw5.same: function 30 -/
def law5_same_j0 (R : VCont) (w : World) : Prop :=
  R (Value.bool true) w
def law5_same_l1 (R : VCont) (X0 : LX) (v0 v1 v5 v6 : Value) (w : World) : Prop :=
  xLen P .pure #[34] v5 w fun t64 w =>
  xBin P .lss 3 v6 t64 w fun t65 w =>
  xIf t65
  (xIndexAddr P 34 v5 v6 w fun t66 w =>
  xLoad1 t66 w fun t67 w =>
  xCall P nr.disk_Disk_Read [v0, t67] w fun t68 w =>
  xExtract t68 0 w fun t69 w =>
  xExtract t68 1 w fun t70 w =>
  Sx.dr w fun w =>
  xIndexAddr P 34 v5 v6 w fun t71 _ =>
  xLoad1 t71 w fun t72 w' =>
  w' = w ∧
  xNil v1 w fun t73 _ =>
  xOff (some 1) t73 w fun t74 _ =>
  xLoad1 t74 w fun t75 w' =>
  w' = w ∧
  xIndexAddr P 41 t75 v6 w fun t76 _ =>
  xOff (some 0) t76 w fun t77 _ =>
  xLoad1 t77 w fun t78 w' =>
  w' = w ∧
  xEq P .neq 9 false false t72 t78 w fun t79 _ =>
  xWhen t79 false (fun K => K t70 w) w fun t80 _ =>
  xWhen t79 false (fun K => xEq P .neq 3 false true t80 (Value.int IntKind.i64 0) w K) w fun t81 _ =>
  xPick t79 (Value.bool true) t81 w fun t82 _ =>
  xWhen t82 false (fun K => K t69 w) w fun t83 _ =>
  xWhen t82 false (fun K => xConvK P .read 22 9 t83 w K) w fun t84 w' =>
  w' = w ∧
  xWhen t82 false (fun K => K v1 w) w fun t85 _ =>
  xWhen t82 false (fun K => xNil t85 w K) w fun t86 _ =>
  xWhen t82 false (fun K => xOff (some 1) t86 w K) w fun t87 _ =>
  xWhen t82 false (fun K => xLoad1 t87 w K) w fun t88 w' =>
  w' = w ∧
  xWhen t82 false (fun K => K v6 w) w fun t89 _ =>
  xWhen t82 false (fun K => xIndexAddr P 41 t88 t89 w K) w fun t90 _ =>
  xWhen t82 false (fun K => xOff (some 1) t90 w K) w fun t91 _ =>
  xWhen t82 false (fun K => xLoad1 t91 w K) w fun t92 w' =>
  w' = w ∧
  xWhen t82 false (fun K => xEq P .neq 9 false false t84 t92 w K) w fun t93 _ =>
  xPick t82 (Value.bool true) t93 w fun t94 _ =>
  xWhen t94 false (fun K => K v0 w) w fun t95 _ =>
  xWhen t94 false (fun K => K v5 w) w fun t96 _ =>
  xWhen t94 false (fun K => K v6 w) w fun t97 _ =>
  xWhen t94 false (fun K => xIndexAddr P 34 t96 t97 w K) w fun t98 _ =>
  xWhen t94 false (fun K => xLoad1 t98 w K) w fun t99 w' =>
  w' = w ∧
  xWhen t94 false (fun K => K v1 w) w fun t100 _ =>
  xWhen t94 false (fun K => xNil t100 w K) w fun t101 _ =>
  xWhen t94 false (fun K => xOff (some 1) t101 w K) w fun t102 _ =>
  xWhen t94 false (fun K => xLoad1 t102 w K) w fun t103 w' =>
  w' = w ∧
  xWhen t94 false (fun K => K v6 w) w fun t104 _ =>
  xWhen t94 false (fun K => xIndexAddr P 41 t103 t104 w K) w fun t105 _ =>
  xWhen t94 false (fun K => xOff (some 2) t105 w K) w fun t106 _ =>
  xWhen t94 false (fun K => xLoad1 t106 w K) w fun t107 w' =>
  w' = w ∧
  xWhen t94 false (fun K => xCall P nr.disk_Disk_Synced [t95, t99] w K) w fun t108 w =>
  (xWhen t94 false (fun K => xLoad1 t106 w K) w fun t109 w' =>
  w' = w ∧ t109 = t107) ∧
  (xWhen t94 false (fun K => xLoad1 t102 w K) w fun t110 w' =>
  w' = w ∧ t110 = t103) ∧
  xWhen t94 false (fun K => xEq P .neq 3 false false t108 t107 w K) w fun t111 _ =>
  xPick t94 (Value.bool true) t111 w fun t112 _ =>
  xIf t112
  (R (Value.bool false) w)
  (xBin P .add 3 v6 (Value.int IntKind.i64 1) w fun t113 w =>
  X0 [t113] w))
  (law5_same_j0 R w)
def law5_same_main (R : VCont) (a0 a1 : Value) (w : World) : Prop :=
  xCall P nr.disk_Disk_Names [a0] w fun t1 w =>
  xLen P .pure #[34] t1 w fun t2 w =>
  xNil a1 w fun t3 w =>
  xOff (some 1) t3 w fun t4 w =>
  xLoad1 t4 w fun t5 w =>
  xLen P .pure #[41] t5 w fun t6 w =>
  xEq P .neq 3 false false t2 t6 w fun t7 w =>
  xWhen t7 false (fun K => K a0 w) w fun t8 w =>
  xWhen t7 false (fun K => xCall P nr.disk_Disk_Used [t8] w K) w fun t9 w =>
  xWhen t7 false (fun K => K a1 w) w fun t10 w =>
  xWhen t7 false (fun K => xCall P nr.ref5_D_Used [t10] w K) w fun t11 w =>
  xWhen t7 false (fun K => xEq P .neq 3 false false t9 t11 w K) w fun t12 w =>
  xPick t7 (Value.bool true) t12 w fun t13 w =>
  xIf t13
  (R (Value.bool false) w)
  (Lp (fun X s w => law5_same_l1 R X a0 a1 t1 (s.getD 0 undef) w) [(Value.int IntKind.i64 0)] w)
def law5_same_os (i : Nat) : OT := cond (Nat.beq i 8) (.fl 0 (.fl 1 (.fl 2 (.fl 3 (.fl 4 (.fl 5 (.fl 6 (.fl 7 (.fl 8 (.fl 9 (.fl 10 (.fl 11 (.fl 12 (.fl 13 (.fl 14 (.fl 15 (.fl 16 (.fl 17 (.fl 18 (.fl 19 (.fl 20 (.fl 21 (.fl 22 (.fl 23 (.fl 24 (.fl 25 (.fl 26 (.fl 27 (.fl 28 (.fl 29 (.fl 30 (.fl 31 (.fl 32 (.fl 33 (.fl 34 (.fl 35 (.fl 37 (.fl 38 (.fl 39 (.fl 40 (.fl 41 (.fl 42 (.fl 43 (.fl 44 (.an 36 (.fl 45 (.fl 46 .done)) .no))))))))))))))))))))))))))))))))))))))))))))) (.no)
def law5_same_es (R : VCont) : List Ent := [
  .join fun Xs e w => law5_same_j0 R  w,
  .loop [0, 1, 5] [6] fun Xs fx X s w => law5_same_l1 R X (fx.getD 0 undef) (fx.getD 1 undef) (fx.getD 2 undef) (s.getD 0 undef) w]
theorem law5_same_ok {R : VCont} {a0 a1 : Value} {w : World} (h : law5_same_main R a0 a1 w) : Calls P nr.law5_same [a0, a1].toArray w (Ret R) :=
  calls_of_sx (P := P) (fn := Try.f30) (Os := law5_same_os) (Es := (law5_same_es R)) (args := [a0, a1]) mixed (by kernel_rfl) (by kernel_rfl) (by kernel_rfl) (by kernel_rfl) (by kernel_rfl) (by kernel_rfl) (by kernel_rfl)
    (Eq.mp (show law5_same_main R a0 a1 w = sxh P law5_same_os (law5_same_es R) [] 0 (bodyOf Try.f30) (retQ P Try.f30.results.toList R) (envOf [a0, a1]) w by kernel_rfl) h)
theorem law5_same_call {R : VCont} {a0 a1 : Value} {w : World} (h : law5_same_main R a0 a1 w) : xCall P nr.law5_same [a0, a1] w R :=
  xCall_of (P := P) (fn := Try.f30) (by kernel_rfl) (by kernel_rfl) (by kernel_rfl) (law5_same_ok h)

end Go.Proofs.Ytamejkogghpbhaa
end
section
/- The disk and the document's are the same. -/
set_option linter.unusedVariables false
set_option linter.unusedSimpArgs false
namespace Go.Proofs.Ytamejkogghpbhaa
open Go.Sx
section
variable {w : World} {K : VCont} {d x room : Nat} {D : Ab} {R : List RF} {l : List Asn}
theorem same_spec (h : Hp w (DiskA d room D :: RefB x room R :: l)) (hr : Rel D R) (hl : R.length ≤ 999999) (hK : ∀ w', Hp w' (DiskA d room D :: RefB x room R :: l) → K (.bool true) w') : xCall P nr.law5_same [ptr d, ptr x] w K := by
  have hlen := hr.length
  obtain ⟨F, hF⟩ : ∃ F, Disk w d room D F := h.head
  have hfit := hF.fits
  have hsy := hF.synced
  refine law5_same_call ?_
  unfold law5_same_main
  refine Names_hp h (by omega) ?_
  intro v1 w1 h
  obtain ⟨sv, ho⟩ := RefB.open'.1 h.pick2
  simp only [xs, xb, xd, Nat.zero_add, len_own_eq und.s_string h.own, ho.c0, List.getElem?_cons_zero, List.getElem?_cons_succ, len_own_eq und.s_ref5_File ho.pick1.own, ← hlen]
  refine Used_hp h.pick1 (by omega) ?_
  intro w2 h
  obtain ⟨F2, hF2, fr2⟩ := h.pick2.frame1
  refine rused_spec (show RefAt w2 x room R F2 from hF2) (by omega) (by rw [hr.used]; omega) ?_
  simp only [xs, xb, xd, hr.used]
  refine Lp.gen (fun n s w' => ∃ i : Nat, n + i = R.length ∧ s = [i64 i] ∧ Hp w' (SlA ty.string 1 v1 R.length ((R.map (·.1)).map .string) :: DiskA d room D :: RefB x room R :: l)) R.length ⟨0, by omega, by simp, by rw [← hr.namesOf, hlen]; exact h.pick1⟩ ?_
  rintro n s w3 ⟨i, hni, rfl, h⟩ X hX
  unfold law5_same_l1
  simp only [List.getD_cons_zero, xs, xb, xd, len_own_eq und.s_string h.own]
  by_cases hlt : i < R.length
  · have hlt' : (i : Int) < (R.length : Int) := by omega
    have hr0 := List.getElem?_eq_getElem hlt
    have hm := hr.mem (List.getElem_mem hlt)
    generalize R[i] = r at hr0 hm
    have hs := hsy _ (aget_some_mem hm)
    have hge := rused_ge hr0
    rw [hr.used] at hge
    have hf := flat_get hr0
    obtain ⟨g1, hg1, ix1, c1⟩ := own_at (size := 1) und.s_string inf.string rfl h.own hlt
    have hn1 : ((R.map (·.1)).map Value.string)[i * 1]? = some (.string r.1) := by simp [hr0]
    simp only [hlt', xs, xb, xd, ix1, c1 _ _ hn1]
    refine Read_hp h.pick1 _ (fun e => by rw [hm] at e; cases e) ?_
    intro y hy v4 w4 h
    rw [hm] at hy; cases hy
    have h := h.drew
    have rd4 := h.own.rd
    have c1 := h.sc2 hg1
    obtain ⟨sv, ho⟩ := RefB.open'.1 h.pick3
    obtain ⟨g2, hg2, ix2, c2⟩ := own_at (size := 3) und.s_ref5_File inf.ref5_File rfl ho.pick1.own hlt
    have estr : (⟨r.2.1.data.toList.toArray⟩ : ByteArray) = r.2.1 := by simp
    simp only [xs, xb, xd, Nat.zero_add, ix1, c1 _ _ hn1, ho.c0, List.getElem?_cons_zero, List.getElem?_cons_succ, ix2, Nat.add_zero, c2 _ _ hf.1, c2 _ _ hf.2.1, c2 _ _ hf.2.2, true_and, xNe_str, bytes_string und.s_uint8 und.uint8 und.string rd4, estr]
    refine Synced_hp h.pick1 _ ?_
    have ea : asyn D r.1 = r.2.2 := by unfold asyn; rw [hm]; rfl
    simp only [ea, xs, xb, xd, true_and, and_self, c2 _ _ hf.2.2, ho.c0, List.getElem?_cons_zero, List.getElem?_cons_succ]
    rw [wrap_i64 (by omega) (by omega)]
    exact hX (n - 1) _ _ ⟨i + 1, by omega, by simp, h.tail.pick1⟩ (by omega)
  · have hlt' : ¬ (i : Int) < (R.length : Int) := by omega
    simp only [hlt', xs, xb, xd]
    unfold law5_same_j0
    exact hK _ h.tail
end
end Go.Proofs.Ytamejkogghpbhaa
end
section
/- A disk's list and the document's rows: each step of the two. -/
set_option linter.unusedVariables false
set_option linter.unusedSimpArgs false
namespace Go.Proofs.Ytamejkogghpbhaa
open Go.Sx
theorem Rel.congr {D D' : Ab} {R : List RF} (h : Rel D R) (hn : Nd D') (hg : ∀ a, aget D' a = aget D a) : Rel D' R := ⟨hn, h.srt, fun a => (hg a).trans (h.get a)⟩
theorem Rel.getAt {D : Ab} {R : List RF} (h : Rel D R) {a : ByteArray} {r : RF} (hr : R[idx R a]? = some r) (hra : r.1 = a) : aget D a = some (r.2.1.data.toList, r.2.2) := by
  rw [h.get a]; exact get_at h.srt hr hra
theorem Rel.none {D : Ab} {R : List RF} (h : Rel D R) {a : ByteArray} (hat : isAt R a = false) : aget D a = none := by
  rw [h.get a]; exact get_no h.srt hat
theorem toList_append (a b : ByteArray) : (a ++ b).data.toList = a.data.toList ++ b.data.toList := by simp
theorem Rel.app {D : Ab} {R : List RF} (h : Rel D R) (a : ByteArray) (bs : List UInt8) : Rel (aput D a ((aold D a).1 ++ bs, (aold D a).2)) (radd R a ⟨bs.toArray⟩) := by
  cases hat : isAt R a with
  | true =>
    obtain ⟨r, hr, hra⟩ := isAt_some hat
    have hg := h.getAt hr hra
    have e1 : radd R a ⟨bs.toArray⟩ = R.set (idx R a) (r.1, r.2.1 ++ ⟨bs.toArray⟩, r.2.2) := by unfold radd; rw [hr]; simp [hra]
    have e2 : aput D a ((aold D a).1 ++ bs, (aold D a).2) = aset D a ((r.2.1 ++ ⟨bs.toArray⟩).data.toList, r.2.2) := by
      unfold aput aold; rw [hg, toList_append]; simp
    rw [e1, e2]
    exact h.set hr hra _ _
  | false =>
    have hg := h.none hat
    have e1 : radd R a ⟨bs.toArray⟩ = R.take (idx R a) ++ (a, ⟨bs.toArray⟩, 0) :: R.drop (idx R a) := by
      unfold radd
      unfold isAt at hat
      cases hr : R[idx R a]? with
      | none => rfl
      | some r =>
        rw [hr] at hat
        have : ¬ r.1 = a := by simpa using hat
        simp [this]
    have e2 : ((aold D a).1 ++ bs, (aold D a).2) = ((⟨bs.toArray⟩ : ByteArray).data.toList, 0) := by unfold aold; rw [hg]; simp
    rw [e1, e2]
    exact h.add hat _ _
theorem Rel.sync {D : Ab} {R : List RF} (h : Rel D R) {a : ByteArray} {r : RF} (hr : R[idx R a]? = some r) (hra : r.1 = a) : (async D a).2 = 0 ∧ Rel (async D a).1 (R.set (idx R a) (r.1, r.2.1, r.2.1.size)) := by
  have hg := h.getAt hr hra
  unfold async
  rw [hg]
  refine ⟨rfl, ?_⟩
  exact h.set hr hra r.2.1 r.2.1.size
theorem extract_take (s : ByteArray) (k : Nat) : (s.extract 0 k).data.toList = s.data.toList.take k := by
  simp [ByteArray.data_extract, Array.toList_extract, List.extract]
theorem Rel.cut {D : Ab} {R : List RF} (h : Rel D R) {a : ByteArray} {r : RF} (hr : R[idx R a]? = some r) (hra : r.1 = a) {k : Nat} (hk : k ≤ r.2.1.size) : (acut D a k).2 = 0 ∧ Rel (acut D a k).1 (R.set (idx R a) (r.1, r.2.1.extract 0 k, k)) := by
  have hg := h.getAt hr hra
  have hk' : k ≤ r.2.1.data.toList.length := hk
  unfold acut
  rw [hg]
  simp only
  rw [if_neg (by omega)]
  refine ⟨rfl, ?_⟩
  have := h.set hr hra (r.2.1.extract 0 k) k
  rw [extract_take] at this
  simpa using this
theorem Rel.del {D : Ab} {R : List RF} (h : Rel D R) (a : ByteArray) : (adel D a).2 = (if isAt R a then 0 else 5) ∧ Rel (adel D a).1 (rrem R a) := by
  have hr := h.rem a
  rw [h.at a]
  unfold adel
  cases hg : aget D a with
  | none =>
    refine ⟨rfl, hr.congr h.nd fun b => ?_⟩
    show aget D b = _
    rw [aget_arem]
    by_cases hb : a = b
    · subst hb; rw [hg]; simp
    · simp [hb]
  | some x => exact ⟨rfl, hr⟩
theorem Rel.same {D : Ab} {R : List RF} (h : Rel D R) {a : ByteArray} {x : List UInt8 × Nat} (hx : aget D a = some x) : Rel (aput (arem D a) a x) R := by
  refine h.congr ((h.nd.arem a).aput a x) fun b => ?_
  rw [aget_aput, aget_arem]
  split
  · rename_i hb; rw [← hb]; exact hx.symm
  · rfl
theorem Rel.ren {D : Ab} {R : List RF} (h : Rel D R) {a c : ByteArray} {r : RF} (hr : R[idx R a]? = some r) (hra : r.1 = a) : Rel (aput (arem D a) c (r.2.1.data.toList, r.2.2)) (rren R a c r) := by
  have h2 := (h.rem a).rem c
  have hn : isAt (rrem (rrem R a) c) c = false := by
    rw [h2.at c, aget_arem]; simp
  have h3 := h2.add hn r.2.1 r.2.2
  unfold rren
  refine h3.congr ((h.nd.arem a).aput c _) fun b => ?_
  rw [aget_aput, aget_aput, aget_arem (arem D a) c]
  by_cases hb : c = b <;> simp [hb]
theorem aget_acrash (keep : Int) (D : Ab) (a : ByteArray) : aget (acrash keep D) a = (aget D a).map (cr keep) := by
  unfold aget acrash
  rw [List.find?_map]
  simp only [Option.map_map]
  rfl
theorem toAb_crash (keep : Int) (R : List RF) : toAb (R.map (rcr keep)) = acrash keep (toAb R) := by
  unfold toAb acrash
  rw [List.map_map, List.map_map]
  apply List.map_congr_left
  intro r _
  simp only [Function.comp, rcr, cr]
  rw [extract_take]
  rfl
theorem Rel.crash {D : Ab} {R : List RF} (h : Rel D R) (keep : Int) : Rel (acrash keep D) (R.map (rcr keep)) := by
  refine ⟨?_, ?_, fun a => ?_⟩
  · have : (acrash keep D).map (·.1) = D.map (·.1) := by unfold acrash; rw [List.map_map]; rfl
    unfold Nd; rw [this]; exact h.nd
  · unfold Srt; rw [List.pairwise_map]; exact h.srt
  · rw [toAb_crash, aget_acrash, aget_acrash, h.get]
theorem Rel.perm {D D' : Ab} {R : List RF} (h : Rel D R) (hp : D'.Perm D) : Rel D' R := by
  have hn : Nd D' := (hp.map _).nodup_iff.2 h.nd
  refine h.congr hn fun a => ?_
  cases hg : aget D a with
  | some x => exact aget_mem hn (p := (a, x)) (hp.mem_iff.2 (aget_some_mem hg))
  | none => rw [aget_none] at hg ⊢; intro p hp'; exact hg p (hp.mem_iff.1 hp')
theorem rrem_le (R : List RF) (a : ByteArray) : (rrem R a).length ≤ R.length := rrem_len R a
theorem rren_len (R : List RF) (a c : ByteArray) (r : RF) : (rren R a c r).length ≤ R.length + 1 := by
  have h1 := rrem_len R a
  have h2 := rrem_len (rrem R a) c
  have h3 := idx_le (rrem (rrem R a) c) c
  unfold rren
  simp only [List.length_append, List.length_cons, List.length_take, List.length_drop]
  omega
theorem radd_len (R : List RF) (a s : ByteArray) : (radd R a s).length ≤ R.length + 1 := by
  have h3 := idx_le R a
  unfold radd
  split
  · split
    · simp
    · simp only [List.length_append, List.length_cons, List.length_take, List.length_drop]; omega
  · simp only [List.length_append, List.length_cons, List.length_take, List.length_drop]; omega
end Go.Proofs.Ytamejkogghpbhaa
end
section
/- The document's disk, by what the program's disk tells. -/
set_option linter.unusedVariables false
set_option linter.unusedSimpArgs false
namespace Go.Proofs.Ytamejkogghpbhaa
open Go.Sx
structure Bd (room : Nat) (D : Ab) : Prop where
  used : aused D ≤ room
  syn : ∀ p ∈ D, p.2.2 ≤ p.2.1.length
  room : room ≤ 1000000
theorem mem_aset {D : Ab} {a : ByteArray} {x : List UInt8 × Nat} {p : ByteArray × List UInt8 × Nat} (h : p ∈ aset D a x) : p = (a, x) ∨ p ∈ D := by
  unfold aset at h
  obtain ⟨q, hq, rfl⟩ := List.mem_map.1 h
  split
  · exact .inl rfl
  · exact .inr hq
theorem mem_aput2 {D : Ab} {a : ByteArray} {x : List UInt8 × Nat} {p : ByteArray × List UInt8 × Nat} (h : p ∈ aput D a x) : p = (a, x) ∨ p ∈ D := by
  unfold aput at h
  split at h
  · exact mem_aset h
  · rcases List.mem_append.1 h with h | h
    · exact .inr h
    · simp at h; exact .inl h
theorem Bd.nil {room : Nat} (h : room ≤ 1000000) : Bd room [] := ⟨by simp [aused], by simp, h⟩
theorem Bd.app {room : Nat} {D : Ab} (h : Bd room D) (hn : Nd D) (a : ByteArray) (bs : List UInt8) : Bd room (aapp room D a bs).1 := by
  unfold aapp
  split
  · split
    · exact h
    · rename_i hr
      have h1 := aused_aput hn a ((aold D a).1 ++ bs, (aold D a).2)
      simp only [List.length_append] at h1
      refine ⟨by simp only; omega, fun p hp => ?_, h.room⟩
      rcases mem_aput2 hp with rfl | hp
      · have : (aold D a).2 ≤ (aold D a).1.length := by
          unfold aold
          cases hg : aget D a with
          | none => simp
          | some x => exact h.syn _ (aget_some_mem hg)
        simp only [List.length_append]; omega
      · exact h.syn p hp
  · exact h
theorem Bd.sync {room : Nat} {D : Ab} (h : Bd room D) (hn : Nd D) (a : ByteArray) : Bd room (async D a).1 := by
  unfold async
  cases hg : aget D a with
  | none => exact h
  | some x =>
    have := aused_aset hn hg (y := (x.1, x.1.length))
    refine ⟨?_, fun p hp => ?_, h.room⟩
    · have := h.used; simp only at *; omega
    · rcases mem_aset hp with rfl | hp
      · exact Nat.le_refl _
      · exact h.syn p hp
theorem Bd.cut {room : Nat} {D : Ab} (h : Bd room D) (hn : Nd D) (a : ByteArray) (n : Int) : Bd room (acut D a n).1 := by
  unfold acut
  cases hg : aget D a with
  | none => exact h
  | some x =>
    simp only
    split
    · exact h
    · have := aused_aset hn hg (y := (x.1.take n.toNat, n.toNat))
      refine ⟨?_, fun p hp => ?_, h.room⟩
      · have := h.used; simp only [List.length_take] at *; omega
      · rcases mem_aset hp with rfl | hp
        · simp only [List.length_take]; omega
        · exact h.syn p hp
theorem aused_arem {D : Ab} (hn : Nd D) (a : ByteArray) : aused (arem D a) + (aold D a).1.length = aused D := by
  unfold aold
  cases hg : aget D a with
  | none =>
    have : arem D a = D := by unfold arem; rw [List.filter_eq_self]; intro p hp; simpa using aget_none.1 hg p hp
    rw [this]; simp
  | some x => simpa using (arem_len hn hg).2
theorem mem_arem {D : Ab} {a : ByteArray} {p : ByteArray × List UInt8 × Nat} (h : p ∈ arem D a) : p ∈ D := (List.mem_filter.1 h).1
theorem Bd.del {room : Nat} {D : Ab} (h : Bd room D) (hn : Nd D) (a : ByteArray) : Bd room (adel D a).1 := by
  unfold adel
  cases hg : aget D a with
  | none => exact h
  | some x =>
    have := (arem_len hn hg).2
    exact ⟨by have := h.used; simp only; omega, fun p hp => h.syn p (mem_arem hp), h.room⟩
theorem Bd.ren {room : Nat} {D : Ab} (h : Bd room D) (hn : Nd D) (a c : ByteArray) : Bd room (aren D a c).1 := by
  unfold aren
  cases hg : aget D a with
  | none => exact h
  | some x =>
    simp only
    split
    · have h1 := (arem_len hn hg).2
      have h2 := aused_aput (hn.arem a) c x
      refine ⟨by have := h.used; simp only; omega, fun p hp => ?_, h.room⟩
      rcases mem_aput2 hp with rfl | hp
      · exact h.syn (a, x) (aget_some_mem hg)
      · exact h.syn p (mem_arem hp)
    · exact h
theorem Bd.crash {room : Nat} {D : Ab} (h : Bd room D) (keep : Int) : Bd room (acrash keep D) := by
  have hs : ∀ E : Ab, aused (acrash keep E) ≤ aused E := by
    intro E
    induction E with
    | nil => simp [acrash, aused]
    | cons p E ih =>
      have : (cr keep p.2).1.length ≤ p.2.1.length := by unfold cr; simp only [List.length_take]; omega
      simp only [acrash, aused, List.map_cons, List.sum_cons] at *
      omega
  refine ⟨Nat.le_trans (hs D) h.used, fun p hp => ?_, h.room⟩
  unfold acrash at hp
  obtain ⟨q, hq, rfl⟩ := List.mem_map.1 hp
  have := h.syn q hq
  unfold cr
  simp only [List.length_take]
  omega
/-- the document's disk, with what it tells -/
def RA (x room : Nat) (D : Ab) : Asn := ExA fun R => AndA (Rel D R ∧ Bd room D) (RefB x room R)
theorem RA.op {w : World} {l : List Asn} {x room : Nat} {D : Ab} : Hp w (RA x room D :: l) ↔ ∃ R, (Rel D R ∧ Bd room D) ∧ Hp w (RefB x room R :: l) := Hp.ex.trans (exists_congr fun _ => Hp.and)
section
variable {w : World} {K : VCont} {l : List Asn} {x room : Nat} {D : Ab}
theorem RA_Read (h : Hp w (RA x room D :: l)) (hD : D.length ≤ 100000) (a : ByteArray) (hK : ∀ w' c, (c = if (aget D a).isSome then 0 else 5) → Hp w' (RA x room D :: l) → K (.tuple #[.string (bstr (acont D a)), i64 c]) w') : xCall P nr.ref5_D_Read [ptr x, .string a] w K := by
  obtain ⟨R, ⟨hr, hb⟩, h⟩ := RA.op.1 h
  have hl := hr.length
  obtain ⟨F, hF, fr⟩ := h.frame1
  refine rread_spec (show RefAt w x room R F from hF) (by omega) a ?_ ?_
  · intro hn w' hc
    have hg := hr.none hn
    have := hK w' 5 (by rw [hg]; rfl) (RA.op.2 ⟨R, ⟨hr, hb⟩, h.keep' hc⟩)
    have e : acont D a = [] := by unfold acont; rw [hg]; rfl
    rw [e] at this
    exact this
  · intro r h1 h2 w' hc
    have hg := hr.getAt h1 h2
    have := hK w' 0 (by rw [hg]; rfl) (RA.op.2 ⟨R, ⟨hr, hb⟩, h.keep' hc⟩)
    have e : acont D a = r.2.1.data.toList := by unfold acont; rw [hg]; rfl
    rw [e, show bstr r.2.1.data.toList = r.2.1 by simp [bstr]] at this
    exact this
theorem RA_Remove (h : Hp w (RA x room D :: l)) (hD : D.length ≤ 100000) (a : ByteArray) (hK : ∀ w', Hp w' (RA x room (adel D a).1 :: l) → K (i64 (adel D a).2) w') : xCall P nr.ref5_D_Remove [ptr x, .string a] w K := by
  obtain ⟨R, ⟨hr, hb⟩, h⟩ := RA.op.1 h
  have hl := hr.length
  refine rrem_hp h (by omega) a ?_
  intro w' c hc h
  obtain ⟨e1, e2⟩ := hr.del a
  rw [hc, ← e1]
  exact hK w' (RA.op.2 ⟨_, ⟨e2, hb.del hr.nd a⟩, h⟩)
theorem RA_Sync (h : Hp w (RA x room D :: l)) (hD : D.length ≤ 100000) (a : ByteArray) (hK : ∀ w', Hp w' (RA x room (async D a).1 :: l) → K (i64 (async D a).2) w') : xCall P nr.ref5_D_Sync [ptr x, .string a] w K := by
  obtain ⟨R, ⟨hr, hb⟩, h⟩ := RA.op.1 h
  have hl := hr.length
  obtain ⟨F, hF, fr⟩ := h.frame1
  refine rsync_spec (show RefAt w x room R F from hF) (by omega) a ?_ ?_
  · intro hn w' hc
    have hg := hr.none hn
    unfold async at hK; rw [hg] at hK
    exact hK w' (RA.op.2 ⟨R, ⟨hr, hb⟩, h.keep' hc⟩)
  · intro r h1 h2 w' hR hc
    obtain ⟨e1, e2⟩ := hr.sync h1 h2
    rw [e1] at hK
    exact hK w' (RA.op.2 ⟨_, ⟨e2, hb.sync hr.nd a⟩, fr w' F (RefB x room _) hR hc fun b hb => .inl hb⟩)
theorem RA_Cut (h : Hp w (RA x room D :: l)) (hD : D.length ≤ 100000) (a : ByteArray) (n : Int) (hK : ∀ w', Hp w' (RA x room (acut D a n).1 :: l) → K (i64 (acut D a n).2) w') : xCall P nr.ref5_D_Cut [ptr x, .string a, i64 n] w K := by
  obtain ⟨R, ⟨hr, hb⟩, h⟩ := RA.op.1 h
  have hl := hr.length
  obtain ⟨F, hF, fr⟩ := h.frame1
  refine rcut_spec (show RefAt w x room R F from hF) (by omega) a n ?_ ?_ ?_
  · intro hn w' hc
    have hg := hr.none hn
    unfold acut at hK; rw [hg] at hK
    exact hK w' (RA.op.2 ⟨R, ⟨hr, hb⟩, h.keep' hc⟩)
  · intro r h1 h2 hbd w' hc
    have hg := hr.getAt h1 h2
    have hbd' : n < 0 ∨ (r.2.1.data.toList.length : Int) < n := hbd
    unfold acut at hK; rw [hg] at hK
    simp only [hbd', if_true] at hK
    exact hK w' (RA.op.2 ⟨R, ⟨hr, hb⟩, h.keep' hc⟩)
  · intro r k h1 h2 hk hk2 w' hR hc
    obtain ⟨e1, e2⟩ := hr.cut h1 h2 hk2
    rw [← hk] at e1 e2
    rw [e1] at hK
    exact hK w' (RA.op.2 ⟨_, ⟨e2, hb.cut hr.nd a n⟩, fr w' F (RefB x room _) hR hc fun b hb => .inl hb⟩)
theorem RA_Append (h : Hp w (RA x room D :: l)) (hD : D.length ≤ 100000) (a : ByteArray) (bs : List UInt8) (hs : bs.length ≤ 1000000) (hK : ∀ w', Hp w' (RA x room (aapp room D a bs).1 :: l) → K (i64 (aapp room D a bs).2) w') : xCall P nr.ref5_D_Append [ptr x, .string a, .string (bstr bs)] w K := by
  obtain ⟨R, ⟨hr, hb⟩, h⟩ := RA.op.1 h
  have hl := hr.length
  have hu := hr.used
  have hus := hb.used
  have hro := hb.room
  have hsz : (bstr bs).size = bs.length := by simp [bstr, ByteArray.size]
  refine rappend_spec h (by omega) (by omega) hro a _ (by omega) ?_ ?_ ?_
  · intro hm
    unfold aapp at hK; rw [hm] at hK
    exact hK w (RA.op.2 ⟨R, ⟨hr, hb⟩, h⟩)
  · intro hm hf w' h
    rw [hu, hsz] at hf
    unfold aapp at hK
    simp only [hm, hf, if_true] at hK
    exact hK w' (RA.op.2 ⟨R, ⟨hr, hb⟩, h⟩)
  · intro hm hf w' h
    rw [hu, hsz] at hf
    have hbd := hb.app hr.nd a bs
    unfold aapp at hK hbd
    have hf' : ¬ room < aused D + bs.length := by omega
    simp only [hm, hf', if_true, if_false] at hK hbd
    exact hK w' (RA.op.2 ⟨_, ⟨hr.app a bs, hbd⟩, h⟩)
theorem RA_Rename (h : Hp w (RA x room D :: l)) (hD : D.length ≤ 100000) (a c : ByteArray) (hK : ∀ w', Hp w' (RA x room (aren D a c).1 :: l) → K (i64 (aren D a c).2) w') : xCall P nr.ref5_D_Rename [ptr x, .string a, .string c] w K := by
  obtain ⟨R, ⟨hr, hb⟩, h⟩ := RA.op.1 h
  have hl := hr.length
  have hbd := hb.ren hr.nd a c
  unfold aren at hK hbd
  refine rrename_spec h (by omega) a c ?_ ?_ ?_ ?_
  · intro hn w' h
    have hg := hr.none hn
    rw [hg] at hK
    exact hK w' (RA.op.2 ⟨R, ⟨hr, hb⟩, h⟩)
  · intro hat hm w' h
    obtain ⟨r, h1, h2⟩ := isAt_some hat
    have hg := hr.getAt h1 h2
    rw [hg] at hK
    simp only [hm] at hK
    exact hK w' (RA.op.2 ⟨R, ⟨hr, hb⟩, h⟩)
  · intro hat hm hac w' h
    obtain ⟨r, h1, h2⟩ := isAt_some hat
    have hg := hr.getAt h1 h2
    rw [hg] at hK hbd
    simp only [hm, if_true] at hK hbd
    subst hac
    exact hK w' (RA.op.2 ⟨R, ⟨hr.same hg, hbd⟩, h⟩)
  · intro r h1 h2 hm hac w' h
    have hg := hr.getAt h1 h2
    rw [hg] at hK hbd
    simp only [hm, if_true] at hK hbd
    exact hK w' (RA.op.2 ⟨_, ⟨hr.ren h1 h2, hbd⟩, h⟩)
theorem RA_Crash (h : Hp w (RA x room D :: l)) (hD : D.length ≤ 100000) (keep : Int) (hk : -9223372036854775808 ≤ keep ∧ keep ≤ 9223372036854775807) (hK : ∀ w', Hp w' (RA x room (acrash keep D) :: l) → K (.tuple #[]) w') : xCall P nr.ref5_D_Crash [ptr x, i64 keep] w K := by
  obtain ⟨R, ⟨hr, hb⟩, h⟩ := RA.op.1 h
  have hl := hr.length
  refine rcrash_spec h (by omega) ?_ keep hk ?_
  · intro r hrm
    have hm := hr.mem hrm
    have h1 := hb.syn _ (aget_some_mem hm)
    obtain ⟨j, hj, rfl⟩ := List.getElem_of_mem hrm
    have h2 := rused_ge (List.getElem?_eq_getElem hj)
    rw [hr.used] at h2
    have := hb.used
    have := hb.room
    exact ⟨h1, by omega⟩
  · intro w' h
    exact hK w' (RA.op.2 ⟨_, ⟨hr.crash keep, hb.crash keep⟩, h⟩)
end
end Go.Proofs.Ytamejkogghpbhaa
end
section
/- Printed by wip/gen/gen.py: the shallow texts of some functions. -/
set_option linter.unusedVariables false
namespace Go.Proofs.Ytamejkogghpbhaa
open Go.Sx

/-! sojourn/sojournref1.Read: function 57 -/
def ref1_Read_l0 (R : VCont) (X0 : LX) (v0 v4 v5 : Value) (w : World) : Prop :=
  xCall P nr.ref1_One [v0, v5] w fun t7 w =>
  xExtract t7 0 w fun t8 w =>
  xExtract t7 1 w fun t9 w =>
  xBin P .lss 3 t9 (Value.int IntKind.i64 0) w fun t10 w =>
  xIf t10
  (R (Value.tuple #[v4, v5]) w)
  (xBuildSlice P 34 1 [(0, t8)] w fun t11 w =>
  xBuiltin P .append #[34, 34] 34 [false, false] [v4, t11] w fun t12 w =>
  X0 [t12, t9] w)
def ref1_Read_main (R : VCont) (a0 : Value) (w : World) : Prop :=
  Lp (fun X s w => ref1_Read_l0 R X a0 (s.getD 0 undef) (s.getD 1 undef) w) [(Value.slice none 0 0), (Value.int IntKind.i64 0)] w
def ref1_Read_es (R : VCont) : List Ent := [
  .loop [0] [4, 5] fun Xs fx X s w => ref1_Read_l0 R X (fx.getD 0 undef) (s.getD 0 undef) (s.getD 1 undef) w]
theorem ref1_Read_ok {R : VCont} {a0 : Value} {w : World} (h : ref1_Read_main R a0 w) : Calls P nr.ref1_Read [a0].toArray w (Ret R) :=
  calls_of_sx (P := P) (fn := Try.f57) (Os := (fun _ => .no)) (Es := (ref1_Read_es R)) (args := [a0]) mixed (by kernel_rfl) (by kernel_rfl) (by kernel_rfl) (by kernel_rfl) (by kernel_rfl) (by kernel_rfl) (by kernel_rfl)
    (Eq.mp (show ref1_Read_main R a0 w = sxh P (fun _ => .no) (ref1_Read_es R) [] 0 (bodyOf Try.f57) (retQ P Try.f57.results.toList R) (envOf [a0]) w by kernel_rfl) h)
theorem ref1_Read_call {R : VCont} {a0 : Value} {w : World} (h : ref1_Read_main R a0 w) : xCall P nr.ref1_Read [a0] w R :=
  xCall_of (P := P) (fn := Try.f57) (by kernel_rfl) (by kernel_rfl) (by kernel_rfl) (ref1_Read_ok h)

/-! sojourn/sojournref1.Frame: function 59 -/
def ref1_Frame_main (R : VCont) (a0 : Value) (w : World) : Prop :=
  xCall P nr.ref1_Sum [a0] w fun t1 w =>
  xLen P .pure #[9] a0 w fun t2 w =>
  xConvK P .pure 111 5 t1 w fun t3 w =>
  xBin P .shr 111 t1 (Value.int IntKind.u64 8) w fun t4 w =>
  xConvK P .pure 111 5 t4 w fun t5 w =>
  xBin P .shr 111 t1 (Value.int IntKind.u64 16) w fun t6 w =>
  xConvK P .pure 111 5 t6 w fun t7 w =>
  xBin P .shr 111 t1 (Value.int IntKind.u64 24) w fun t8 w =>
  xConvK P .pure 111 5 t8 w fun t9 w =>
  xConvK P .pure 3 5 t2 w fun t10 w =>
  xBin P .shr 3 t2 (Value.int IntKind.u64 8) w fun t11 w =>
  xConvK P .pure 3 5 t11 w fun t12 w =>
  xBuildSlice P 22 6 [(0, t3), (1, t5), (2, t7), (3, t9), (4, t10), (5, t12)] w fun t13 w =>
  xConvK P .read 22 9 t13 w fun t14 w =>
  xBin P .add 9 t14 a0 w fun t15 w =>
  R t15 w
theorem ref1_Frame_ok {R : VCont} {a0 : Value} {w : World} (h : ref1_Frame_main R a0 w) : Calls P nr.ref1_Frame [a0].toArray w (Ret R) :=
  calls_of_sx (P := P) (fn := Try.f59) (Os := (fun _ => .no)) (Es := []) (args := [a0]) mixed (by kernel_rfl) (by kernel_rfl) (by kernel_rfl) (by kernel_rfl) (by kernel_rfl) (by kernel_rfl) (by kernel_rfl)
    (Eq.mp (show ref1_Frame_main R a0 w = sxh P (fun _ => .no) [] [] 0 (bodyOf Try.f59) (retQ P Try.f59.results.toList R) (envOf [a0]) w by kernel_rfl) h)
theorem ref1_Frame_call {R : VCont} {a0 : Value} {w : World} (h : ref1_Frame_main R a0 w) : xCall P nr.ref1_Frame [a0] w R :=
  xCall_of (P := P) (fn := Try.f59) (by kernel_rfl) (by kernel_rfl) (by kernel_rfl) (ref1_Frame_ok h)

/-! sojourn/sojournref1.Int: function 60 -/
def ref1_Int_j1 (R : VCont) (v3 v4 : Value) (w : World) : Prop :=
  xConvK P .pure 123 5 v3 w fun t3 w =>
  xBuildSlice P 22 1 [(0, t3)] w fun t4 w =>
  xBuiltin P .append #[22, 22] 22 [false, false] [v4, t4] w fun t5 w =>
  xConvK P .read 22 9 t5 w fun t6 w =>
  R t6 w
def ref1_Int_l2 (R : VCont) (X0 : LX) (v3 v4 : Value) (w : World) : Prop :=
  xBin P .geq 123 v3 (Value.int IntKind.u64 128) w fun t13 w =>
  xIf t13
  (xConvK P .pure 123 5 v3 w fun t14 w =>
  xBin P .or 5 t14 (Value.int IntKind.u8 128) w fun t15 w =>
  xBuildSlice P 22 1 [(0, t15)] w fun t16 w =>
  xBuiltin P .append #[22, 22] 22 [false, false] [v4, t16] w fun t17 w =>
  xBin P .shr 123 v3 (Value.int IntKind.u64 7) w fun t18 w =>
  X0 [t18, t17] w)
  (ref1_Int_j1 R v3 v4 w)
def ref1_Int_j0 (R : VCont) (v3 : Value) (w : World) : Prop :=
  Lp (fun X s w => ref1_Int_l2 R X (s.getD 0 undef) (s.getD 1 undef) w) [v3, (Value.slice none 0 0)] w
def ref1_Int_main (R : VCont) (a0 : Value) (w : World) : Prop :=
  xConvK P .pure 2 123 a0 w fun t1 w =>
  xBin P .shl 123 t1 (Value.int IntKind.u64 1) w fun t2 w =>
  xBin P .lss 2 a0 (Value.int IntKind.i64 0) w fun t19 w =>
  xIf t19
  (xUn P .xor t2 w fun t20 w =>
  ref1_Int_j0 R t20 w)
  (ref1_Int_j0 R t2 w)
def ref1_Int_es (R : VCont) : List Ent := [
  .join fun Xs e w => ref1_Int_j0 R (e 3) w,
  .join fun Xs e w => ref1_Int_j1 R (e 3) (e 4) w,
  .loop [] [3, 4] fun Xs fx X s w => ref1_Int_l2 R X (s.getD 0 undef) (s.getD 1 undef) w]
theorem ref1_Int_ok {R : VCont} {a0 : Value} {w : World} (h : ref1_Int_main R a0 w) : Calls P nr.ref1_Int [a0].toArray w (Ret R) :=
  calls_of_sx (P := P) (fn := Try.f60) (Os := (fun _ => .no)) (Es := (ref1_Int_es R)) (args := [a0]) mixed (by kernel_rfl) (by kernel_rfl) (by kernel_rfl) (by kernel_rfl) (by kernel_rfl) (by kernel_rfl) (by kernel_rfl)
    (Eq.mp (show ref1_Int_main R a0 w = sxh P (fun _ => .no) (ref1_Int_es R) [] 0 (bodyOf Try.f60) (retQ P Try.f60.results.toList R) (envOf [a0]) w by kernel_rfl) h)
theorem ref1_Int_call {R : VCont} {a0 : Value} {w : World} (h : ref1_Int_main R a0 w) : xCall P nr.ref1_Int [a0] w R :=
  xCall_of (P := P) (fn := Try.f60) (by kernel_rfl) (by kernel_rfl) (by kernel_rfl) (ref1_Int_ok h)

/-! sojourn/sojournref1.One: function 69 -/
def ref1_One_main (R : VCont) (a0 a1 : Value) (w : World) : Prop :=
  xBin P .lss 3 a1 (Value.int IntKind.i64 0) w fun t1 w =>
  xWhen t1 false (fun K => K a1 w) w fun t2 w =>
  xWhen t1 false (fun K => K a0 w) w fun t3 w =>
  xWhen t1 false (fun K => xLen P .pure #[9] t3 w K) w fun t4 w =>
  xWhen t1 false (fun K => xBin P .gtr 3 t2 t4 w K) w fun t5 w =>
  xPick t1 (Value.bool true) t5 w fun t6 w =>
  xWhen t6 false (fun K => K a0 w) w fun t7 w =>
  xWhen t6 false (fun K => xLen P .pure #[9] t7 w K) w fun t8 w =>
  xWhen t6 false (fun K => K a1 w) w fun t9 w =>
  xWhen t6 false (fun K => xBin P .sub 3 t8 t9 w K) w fun t10 w =>
  xWhen t6 false (fun K => xBin P .lss 3 t10 (Value.int IntKind.i64 6) w K) w fun t11 w =>
  xPick t6 (Value.bool true) t11 w fun t12 w =>
  xIf t12
  (R (Value.tuple #[(Value.string { data := #[] }), (Value.int IntKind.i64 (-1))]) w)
  (Sx.dr w fun w =>
  xBin P .add 3 a1 (Value.int IntKind.i64 4) w fun t13 _ =>
  xIndex P 9 a0 t13 w fun t14 _ =>
  xConvK P .pure 5 3 t14 w fun t15 _ =>
  xBin P .add 3 a1 (Value.int IntKind.i64 5) w fun t16 _ =>
  xIndex P 9 a0 t16 w fun t17 _ =>
  xConvK P .pure 5 3 t17 w fun t18 _ =>
  xBin P .shl 3 t18 (Value.int IntKind.u64 8) w fun t19 _ =>
  xBin P .or 3 t15 t19 w fun t20 _ =>
  xBin P .lss 3 t20 (Value.int IntKind.i64 1) w fun t21 w =>
  xWhen t21 false (fun K => K t20 w) w fun t22 w =>
  xWhen t21 false (fun K => xBin P .gtr 3 t22 (Value.int IntKind.i64 1000) w K) w fun t23 w =>
  xPick t21 (Value.bool true) t23 w fun t24 w =>
  xWhen t24 false (fun K => K a0 w) w fun t25 w =>
  xWhen t24 false (fun K => xLen P .pure #[9] t25 w K) w fun t26 w =>
  xWhen t24 false (fun K => K a1 w) w fun t27 w =>
  xWhen t24 false (fun K => xBin P .sub 3 t26 t27 w K) w fun t28 w =>
  xWhen t24 false (fun K => xBin P .sub 3 t28 (Value.int IntKind.i64 6) w K) w fun t29 w =>
  xWhen t24 false (fun K => K t20 w) w fun t30 w =>
  xWhen t24 false (fun K => xBin P .lss 3 t29 t30 w K) w fun t31 w =>
  xPick t24 (Value.bool true) t31 w fun t32 w =>
  xIf t32
  (R (Value.tuple #[(Value.string { data := #[] }), (Value.int IntKind.i64 (-1))]) w)
  (xBin P .add 3 a1 (Value.int IntKind.i64 6) w fun t33 w =>
  xBin P .add 3 a1 (Value.int IntKind.i64 6) w fun t34 w =>
  xBin P .add 3 t34 t20 w fun t35 w =>
  xSlice P 9 a0 (some t33) (some t35) none w fun t36 w =>
  Sx.dr w fun w =>
  xBin P .add 3 a1 (Value.int IntKind.i64 6) w fun t37 _ =>
  xBin P .add 3 t37 t20 w fun t38 _ =>
  xSlice P 9 a0 (some a1) (some t38) none w fun t39 _ =>
  xCall P nr.ref1_Frame [t36] w fun t40 w =>
  xEq P .neq 9 false false t40 t39 w fun t41 _ =>
  xIf t41
  (R (Value.tuple #[(Value.string { data := #[] }), (Value.int IntKind.i64 (-1))]) w)
  (xBin P .add 3 a1 (Value.int IntKind.i64 6) w fun t42 w =>
  xBin P .add 3 t42 t20 w fun t43 w =>
  R (Value.tuple #[t36, t43]) w)))
def ref1_One_os (i : Nat) : OT := cond (Nat.beq i 3) (.fl 0 (.fl 1 (.fl 2 (.fl 3 (.fl 4 (.fl 5 (.fl 6 (.fl 7 (.fl 8 (.fl 9 (.fl 10 (.fl 11 (.fl 12 .done))))))))))))) (cond (Nat.beq i 7) (.fl 0 (.fl 2 (.fl 3 (.fl 4 (.fl 5 (.fl 6 (.fl 7 (.fl 8 (.an 1 (.fl 9 .done) .no))))))))) (.no))
theorem ref1_One_ok {R : VCont} {a0 a1 : Value} {w : World} (h : ref1_One_main R a0 a1 w) : Calls P nr.ref1_One [a0, a1].toArray w (Ret R) :=
  calls_of_sx (P := P) (fn := Try.f69) (Os := ref1_One_os) (Es := []) (args := [a0, a1]) mixed (by kernel_rfl) (by kernel_rfl) (by kernel_rfl) (by kernel_rfl) (by kernel_rfl) (by kernel_rfl) (by kernel_rfl)
    (Eq.mp (show ref1_One_main R a0 a1 w = sxh P ref1_One_os [] [] 0 (bodyOf Try.f69) (retQ P Try.f69.results.toList R) (envOf [a0, a1]) w by kernel_rfl) h)
theorem ref1_One_call {R : VCont} {a0 a1 : Value} {w : World} (h : ref1_One_main R a0 a1 w) : xCall P nr.ref1_One [a0, a1] w R :=
  xCall_of (P := P) (fn := Try.f69) (by kernel_rfl) (by kernel_rfl) (by kernel_rfl) (ref1_One_ok h)

/-! (*sojourn/sojournref1.R).Int: function 70 -/
def ref1_R_Int_j0 (R : VCont) (v0 : Value) (w : World) : Prop :=
  xCall P nr.ref1_R_wrong [v0] w fun t1 w =>
  R (Value.int IntKind.i64 0) w
def ref1_R_Int_j2 (R : VCont) (X0 : LX) (v0 v1 v2 v8 v10 : Value) (w : World) : Prop :=
  Sx.dr w fun w =>
  xBin P .lss 2 v10 v1 w fun t95 _ =>
  xWhen t95 false (fun K => K v10 w) w fun t96 _ =>
  xWhen t95 false (fun K => K v2 w) w fun t97 _ =>
  xWhen t95 false (fun K => xBin P .gtr 2 t96 t97 w K) w fun t98 _ =>
  xPick t95 (Value.bool true) t98 w fun t99 _ =>
  xWhen t99 false (fun K => K v10 w) w fun t100 _ =>
  xWhen t99 false (fun K => K v0 w) w fun t101 _ =>
  xWhen t99 false (fun K => xNil t101 w K) w fun t102 _ =>
  xWhen t99 false (fun K => xOff (some 0) t102 w K) w fun t103 _ =>
  xWhen t99 false (fun K => xLoad1 t103 w K) w fun t104 w' =>
  w' = w ∧
  xWhen t99 false (fun K => K v8 w) w fun t105 _ =>
  xWhen t99 false (fun K => xBin P .add 3 t105 (Value.int IntKind.i64 1) w K) w fun t106 _ =>
  xWhen t99 false (fun K => xSlice P 9 t104 none (some t106) none w K) w fun t107 _ =>
  xWhen t99 false (fun K => xCall P nr.ref1_Int [t100] w K) w fun t108 w =>
  (xWhen t99 false (fun K => xLoad1 t103 w K) w fun t109 w' =>
  w' = w ∧ t109 = t104) ∧
  xWhen t99 false (fun K => xEq P .neq 9 false false t108 t107 w K) w fun t110 _ =>
  xPick t99 (Value.bool true) t110 w fun t111 _ =>
  xIf t111
  (ref1_R_Int_j0 R v0 w)
  (xNil v0 w fun t112 w =>
  xOff (some 0) t112 w fun t113 w =>
  xLoad1 t113 w fun t114 w =>
  xBin P .add 3 v8 (Value.int IntKind.i64 1) w fun t115 w =>
  xSlice P 9 t114 (some t115) none none w fun t116 w =>
  xNil v0 w fun t117 w =>
  xOff (some 0) t117 w fun t118 w =>
  xStore P 9 t118 t116 w fun _ w =>
  R v10 w)
def ref1_R_Int_l1 (R : VCont) (X0 : LX) (v0 v1 v2 v7 v8 : Value) (w : World) : Prop :=
  xBin P .lss 3 v8 (Value.int IntKind.i64 10) w fun t62 w =>
  xWhen t62 true (fun K => K v8 w) w fun t63 w =>
  xWhen t62 true (fun K => K v0 w) w fun t64 w =>
  xWhen t62 true (fun K => xNil t64 w K) w fun t65 w =>
  xWhen t62 true (fun K => xOff (some 0) t65 w K) w fun t66 w =>
  xWhen t62 true (fun K => xLoad1 t66 w K) w fun t67 w =>
  xWhen t62 true (fun K => xLen P .pure #[9] t67 w K) w fun t68 w =>
  xWhen t62 true (fun K => xBin P .lss 3 t63 t68 w K) w fun t69 w =>
  xPick t62 t69 (Value.bool false) w fun t70 w =>
  xWhen t70 true (fun K => K v0 w) w fun t71 w =>
  xWhen t70 true (fun K => xNil t71 w K) w fun t72 w =>
  xWhen t70 true (fun K => xOff (some 1) t72 w K) w fun t73 w =>
  xWhen t70 true (fun K => xLoad1 t73 w K) w fun t74 w =>
  xWhen t70 true (fun K => xUn P .not t74 w K) w fun t75 w =>
  xPick t70 t75 (Value.bool false) w fun t76 w =>
  xIf t76
  (xNil v0 w fun t77 w =>
  xOff (some 0) t77 w fun t78 w =>
  xLoad1 t78 w fun t79 w =>
  xIndex P 9 t79 v8 w fun t80 w =>
  xConvK P .pure 5 123 t80 w fun t81 w =>
  xEq P .eql 3 false true v8 (Value.int IntKind.i64 9) w fun t82 w =>
  xWhen t82 true (fun K => K t81 w) w fun t83 w =>
  xWhen t82 true (fun K => xBin P .gtr 123 t83 (Value.int IntKind.u64 1) w K) w fun t84 w =>
  xPick t82 t84 (Value.bool false) w fun t85 w =>
  xIf t85
  (ref1_R_Int_j0 R v0 w)
  (xBin P .and 123 t81 (Value.int IntKind.u64 127) w fun t86 w =>
  xBin P .mul 3 (Value.int IntKind.i64 7) v8 w fun t87 w =>
  xConvK P .pure 3 35 t87 w fun t88 w =>
  xBin P .shl 123 t86 t88 w fun t89 w =>
  xBin P .or 123 v7 t89 w fun t90 w =>
  xBin P .geq 123 t81 (Value.int IntKind.u64 128) w fun t91 w =>
  xIf t91
  (xBin P .add 3 v8 (Value.int IntKind.i64 1) w fun t92 w =>
  X0 [t90, t92] w)
  (xBin P .shr 123 t90 (Value.int IntKind.u64 1) w fun t93 w =>
  xConvK P .pure 123 2 t93 w fun t94 w =>
  xBin P .and 123 t90 (Value.int IntKind.u64 1) w fun t119 w =>
  xEq P .eql 123 false true t119 (Value.int IntKind.u64 1) w fun t120 w =>
  xIf t120
  (xUn P .xor t94 w fun t121 w =>
  ref1_R_Int_j2 R X0 v0 v1 v2 v8 t121 w)
  (ref1_R_Int_j2 R X0 v0 v1 v2 v8 t94 w))))
  (ref1_R_Int_j0 R v0 w)
def ref1_R_Int_main (R : VCont) (a0 a1 a2 : Value) (w : World) : Prop :=
  Lp (fun X s w => ref1_R_Int_l1 R X a0 a1 a2 (s.getD 0 undef) (s.getD 1 undef) w) [(Value.int IntKind.u64 0), (Value.int IntKind.i64 0)] w
def ref1_R_Int_os (i : Nat) : OT := cond (Nat.beq i 12) (.fl 0 (.fl 1 (.fl 2 (.fl 3 (.fl 4 (.fl 5 (.fl 6 (.fl 7 (.fl 8 (.fl 9 (.fl 11 (.fl 12 (.fl 13 (.fl 14 (.fl 15 (.fl 16 (.fl 17 (.an 10 (.fl 18 (.fl 19 .done)) .no)))))))))))))))))) (.no)
def ref1_R_Int_es (R : VCont) : List Ent := [
  .join fun Xs e w => ref1_R_Int_j0 R (e 0) w,
  .loop [0, 1, 2] [7, 8] fun Xs fx X s w => ref1_R_Int_l1 R X (fx.getD 0 undef) (fx.getD 1 undef) (fx.getD 2 undef) (s.getD 0 undef) (s.getD 1 undef) w,
  .join fun Xs e w => ref1_R_Int_j2 R (hx Xs) (e 0) (e 1) (e 2) (e 8) (e 10) w]
theorem ref1_R_Int_ok {R : VCont} {a0 a1 a2 : Value} {w : World} (h : ref1_R_Int_main R a0 a1 a2 w) : Calls P nr.ref1_R_Int [a0, a1, a2].toArray w (Ret R) :=
  calls_of_sx (P := P) (fn := Try.f70) (Os := ref1_R_Int_os) (Es := (ref1_R_Int_es R)) (args := [a0, a1, a2]) mixed (by kernel_rfl) (by kernel_rfl) (by kernel_rfl) (by kernel_rfl) (by kernel_rfl) (by kernel_rfl) (by kernel_rfl)
    (Eq.mp (show ref1_R_Int_main R a0 a1 a2 w = sxh P ref1_R_Int_os (ref1_R_Int_es R) [] 0 (bodyOf Try.f70) (retQ P Try.f70.results.toList R) (envOf [a0, a1, a2]) w by kernel_rfl) h)
theorem ref1_R_Int_call {R : VCont} {a0 a1 a2 : Value} {w : World} (h : ref1_R_Int_main R a0 a1 a2 w) : xCall P nr.ref1_R_Int [a0, a1, a2] w R :=
  xCall_of (P := P) (fn := Try.f70) (by kernel_rfl) (by kernel_rfl) (by kernel_rfl) (ref1_R_Int_ok h)

/-! (*sojourn/sojournref1.R).End: function 71 -/
def ref1_R_End_main (R : VCont) (a0 : Value) (w : World) : Prop :=
  xNil a0 w fun t1 w =>
  xOff (some 1) t1 w fun t2 w =>
  xLoad1 t2 w fun t3 w =>
  xIf t3
  (R (Value.int IntKind.i64 2) w)
  (xNil a0 w fun t4 w =>
  xOff (some 0) t4 w fun t5 w =>
  xLoad1 t5 w fun t6 w =>
  xLen P .pure #[9] t6 w fun t7 w =>
  xBin P .gtr 3 t7 (Value.int IntKind.i64 0) w fun t8 w =>
  xIf t8
  (R (Value.int IntKind.i64 3) w)
  (R (Value.int IntKind.i64 0) w))
theorem ref1_R_End_ok {R : VCont} {a0 : Value} {w : World} (h : ref1_R_End_main R a0 w) : Calls P nr.ref1_R_End [a0].toArray w (Ret R) :=
  calls_of_sx (P := P) (fn := Try.f71) (Os := (fun _ => .no)) (Es := []) (args := [a0]) mixed (by kernel_rfl) (by kernel_rfl) (by kernel_rfl) (by kernel_rfl) (by kernel_rfl) (by kernel_rfl) (by kernel_rfl)
    (Eq.mp (show ref1_R_End_main R a0 w = sxh P (fun _ => .no) [] [] 0 (bodyOf Try.f71) (retQ P Try.f71.results.toList R) (envOf [a0]) w by kernel_rfl) h)
theorem ref1_R_End_call {R : VCont} {a0 : Value} {w : World} (h : ref1_R_End_main R a0 w) : xCall P nr.ref1_R_End [a0] w R :=
  xCall_of (P := P) (fn := Try.f71) (by kernel_rfl) (by kernel_rfl) (by kernel_rfl) (ref1_R_End_ok h)

/-! (*sojourn/sojournref1.R).wrong: function 81 -/
def ref1_R_wrong_main (R : VCont) (a0 : Value) (w : World) : Prop :=
  xNil a0 w fun t1 w =>
  xOff (some 1) t1 w fun t2 w =>
  xStore P 4 t2 (Value.bool true) w fun _ w =>
  xNil a0 w fun t3 w =>
  xOff (some 0) t3 w fun t4 w =>
  xStore P 9 t4 (Value.string { data := #[] }) w fun _ w =>
  R (Value.tuple #[]) w
theorem ref1_R_wrong_ok {R : VCont} {a0 : Value} {w : World} (h : ref1_R_wrong_main R a0 w) : Calls P nr.ref1_R_wrong [a0].toArray w (Ret R) :=
  calls_of_sx (P := P) (fn := Try.f81) (Os := (fun _ => .no)) (Es := []) (args := [a0]) mixed (by kernel_rfl) (by kernel_rfl) (by kernel_rfl) (by kernel_rfl) (by kernel_rfl) (by kernel_rfl) (by kernel_rfl)
    (Eq.mp (show ref1_R_wrong_main R a0 w = sxh P (fun _ => .no) [] [] 0 (bodyOf Try.f81) (retQ P Try.f81.results.toList R) (envOf [a0]) w by kernel_rfl) h)
theorem ref1_R_wrong_call {R : VCont} {a0 : Value} {w : World} (h : ref1_R_wrong_main R a0 w) : xCall P nr.ref1_R_wrong [a0] w R :=
  xCall_of (P := P) (fn := Try.f81) (by kernel_rfl) (by kernel_rfl) (by kernel_rfl) (ref1_R_wrong_ok h)

/-! sojourn/sojournref1.Sum: function 72 -/
def ref1_Sum_j0 (R : VCont) (v3 : Value) (w : World) : Prop :=
  xUn P .xor v3 w fun t1 w =>
  R t1 w
def ref1_Sum_j2 (R : VCont) (X0 : LX) (v3 v4 : Value) (w : World) : Prop :=
  xBin P .add 3 v4 (Value.int IntKind.i64 1) w fun t24 w =>
  X0 [v3, t24] w
def ref1_Sum_j4 (R : VCont) (X1 X0 : LX) (v3 v5 : Value) (w : World) : Prop :=
  xBin P .add 3 v5 (Value.int IntKind.i64 1) w fun t36 w =>
  X1 [v3, t36] w
def ref1_Sum_l3 (R : VCont) (X1 X0 : LX) (v4 v3 v5 : Value) (w : World) : Prop :=
  xBin P .lss 3 v5 (Value.int IntKind.i64 8) w fun t35 w =>
  xIf t35
  (xBin P .and 111 v3 (Value.int IntKind.u32 1) w fun t37 w =>
  xEq P .eql 111 false true t37 (Value.int IntKind.u32 1) w fun t38 w =>
  xIf t38
  (xBin P .shr 111 v3 (Value.int IntKind.u64 1) w fun t39 w =>
  xBin P .xor 111 t39 (Value.int IntKind.u32 3988292384) w fun t40 w =>
  ref1_Sum_j4 R X1 X0 t40 v5 w)
  (xBin P .shr 111 v3 (Value.int IntKind.u64 1) w fun t41 w =>
  ref1_Sum_j4 R X1 X0 t41 v5 w))
  (ref1_Sum_j2 R X0 v3 v4 w)
def ref1_Sum_l1 (R : VCont) (X0 : LX) (v0 v3 v4 : Value) (w : World) : Prop :=
  xLen P .pure #[9] v0 w fun t22 w =>
  xBin P .lss 3 v4 t22 w fun t23 w =>
  xIf t23
  (xIndex P 9 v0 v4 w fun t25 w =>
  xConvK P .pure 5 111 t25 w fun t26 w =>
  xBin P .xor 111 v3 t26 w fun t27 w =>
  Lp (fun X s w => ref1_Sum_l3 R X X0 v4 (s.getD 0 undef) (s.getD 1 undef) w) [t27, (Value.int IntKind.i64 0)] w)
  (ref1_Sum_j0 R v3 w)
def ref1_Sum_main (R : VCont) (a0 : Value) (w : World) : Prop :=
  Lp (fun X s w => ref1_Sum_l1 R X a0 (s.getD 0 undef) (s.getD 1 undef) w) [(Value.int IntKind.u32 4294967295), (Value.int IntKind.i64 0)] w
def ref1_Sum_es (R : VCont) : List Ent := [
  .join fun Xs e w => ref1_Sum_j0 R (e 3) w,
  .loop [0] [3, 4] fun Xs fx X s w => ref1_Sum_l1 R X (fx.getD 0 undef) (s.getD 0 undef) (s.getD 1 undef) w,
  .join fun Xs e w => ref1_Sum_j2 R (hx Xs) (e 3) (e 4) w,
  .loop [4] [3, 5] fun Xs fx X s w => ref1_Sum_l3 R X (hx Xs) (fx.getD 0 undef) (s.getD 0 undef) (s.getD 1 undef) w,
  .join fun Xs e w => ref1_Sum_j4 R (hx Xs) (hx (Xs.drop 1)) (e 3) (e 5) w]
theorem ref1_Sum_ok {R : VCont} {a0 : Value} {w : World} (h : ref1_Sum_main R a0 w) : Calls P nr.ref1_Sum [a0].toArray w (Ret R) :=
  calls_of_sx (P := P) (fn := Try.f72) (Os := (fun _ => .no)) (Es := (ref1_Sum_es R)) (args := [a0]) mixed (by kernel_rfl) (by kernel_rfl) (by kernel_rfl) (by kernel_rfl) (by kernel_rfl) (by kernel_rfl) (by kernel_rfl)
    (Eq.mp (show ref1_Sum_main R a0 w = sxh P (fun _ => .no) (ref1_Sum_es R) [] 0 (bodyOf Try.f72) (retQ P Try.f72.results.toList R) (envOf [a0]) w by kernel_rfl) h)
theorem ref1_Sum_call {R : VCont} {a0 : Value} {w : World} (h : ref1_Sum_main R a0 w) : xCall P nr.ref1_Sum [a0] w R :=
  xCall_of (P := P) (fn := Try.f72) (by kernel_rfl) (by kernel_rfl) (by kernel_rfl) (ref1_Sum_ok h)

end Go.Proofs.Ytamejkogghpbhaa
end
