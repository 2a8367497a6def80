/- Printed by wip/gen/gen.py: the shallow texts of some functions. -/
import Derived.Test.YtamejkogghpbhaaNames
set_option linter.unusedVariables false
namespace Go.Proofs.Ytamejkogghpbhaa
open Go.Sx

/-! sojourn/sojournlaw5.DiskPlays: function 5 -/
def law5_DiskPlays_j0 (R : VCont) (w : World) : Prop :=
  xCall P nr.law5_told [] w fun t21 w =>
  R t21 w
def law5_DiskPlays_j2 (R : VCont) (X0 : LX) (v5 v7 v8 v9 v10 v11 : Value) (w : World) : Prop :=
  xEq P .neq 3 false false v10 v11 w fun t158 w =>
  xWhen t158 false (fun K => K v5 w) w fun t159 w =>
  xWhen t158 false (fun K => K v7 w) w fun t160 w =>
  xWhen t158 false (fun K => xCall P nr.law5_same [t159, t160] w K) w fun t161 w =>
  xWhen t158 false (fun K => xUn P .not t161 w K) w fun t162 w =>
  xPick t158 (Value.bool true) t162 w fun t163 w =>
  xIf t163
  (R (Value.bool false) w)
  (xOff (some 2) v9 w fun t164 w =>
  xLoad1 t164 w fun t165 w =>
  xCall P nr.disk_Disk_Read [v5, t165] w fun t166 w =>
  xExtract t166 0 w fun t167 w =>
  xExtract t166 1 w fun t168 w =>
  xOff (some 2) v9 w fun t169 w =>
  xLoad1 t169 w fun t170 w =>
  xCall P nr.ref5_D_Read [v7, t170] w fun t171 w =>
  xExtract t171 0 w fun t172 w =>
  xExtract t171 1 w fun t173 w =>
  xEq P .neq 3 false false t168 t173 w fun t174 w =>
  xIf t174
  (R (Value.bool false) w)
  (xBin P .add 3 v8 (Value.int IntKind.i64 1) w fun t175 w =>
  X0 [v5, t175] w))
def law5_DiskPlays_l1 (R : VCont) (X0 : LX) (v1 v7 v5 v8 : Value) (w : World) : Prop :=
  xLen P .pure #[39] v1 w fun t135 w =>
  xBin P .lss 3 v8 t135 w fun t136 w =>
  xWhen t136 true (fun K => K v8 w) w fun t137 w =>
  xWhen t136 true (fun K => xBin P .lss 3 t137 (Value.int IntKind.i64 60) w K) w fun t138 w =>
  xPick t136 t138 (Value.bool false) w fun t139 w =>
  xIf t139
  (xIndexAddr P 39 v1 v8 w fun t140 w =>
  xLoadN 5 t140 w fun t141 w =>
  xAlloc P 45 w fun t142 w =>
  xStore P 45 t142 t141 w fun _ w =>
  xOff (some 2) t142 w fun t143 w =>
  xLoad1 t143 w fun t144 w =>
  xLen P .pure #[9] t144 w fun t145 w =>
  xBin P .gtr 3 t145 (Value.int IntKind.i64 30) w fun t146 w =>
  xWhen t146 false (fun K => xOff (some 3) t142 w K) w fun t147 w =>
  xWhen t146 false (fun K => xLoad1 t147 w K) w fun t148 w =>
  xWhen t146 false (fun K => xLen P .pure #[9] t148 w K) w fun t149 w =>
  xWhen t146 false (fun K => xBin P .gtr 3 t149 (Value.int IntKind.i64 30) w K) w fun t150 w =>
  xPick t146 (Value.bool true) t150 w fun t151 w =>
  xWhen t151 false (fun K => xOff (some 4) t142 w K) w fun t152 w =>
  xWhen t151 false (fun K => xLoad1 t152 w K) w fun t153 w =>
  xWhen t151 false (fun K => xLen P .pure #[22] t153 w K) w fun t154 w =>
  xWhen t151 false (fun K => xBin P .gtr 3 t154 (Value.int IntKind.i64 60) w K) w fun t155 w =>
  xPick t151 (Value.bool true) t155 w fun t156 w =>
  xIf t156
  (xCall P nr.law5_told [] w fun t157 w =>
  R t157 w)
  (xOff (some 0) t142 w fun t176 w =>
  xLoad1 t176 w fun t177 w =>
  xEq P .eql 3 false true t177 (Value.int IntKind.i64 0) w fun t178 w =>
  xIf t178
  (Sx.dr w fun w =>
  xOff (some 2) t142 w fun t179 _ =>
  xLoad1 t179 w fun t180 w' =>
  w' = w ∧
  xOff (some 4) t142 w fun t181 _ =>
  xLoad1 t181 w fun t182 w' =>
  w' = w ∧
  xOff (some 2) t142 w fun t183 _ =>
  xLoad1 t183 w fun t184 w' =>
  w' = w ∧
  xOff (some 4) t142 w fun t185 _ =>
  xLoad1 t185 w fun t186 w' =>
  w' = w ∧
  xConvK P .read 22 9 t186 w fun t187 w' =>
  w' = w ∧
  xCall P nr.disk_Disk_Append [v5, t180, t182] w fun t188 w =>
  (xConvK P .read 22 9 t186 w fun t189 w' =>
  w' = w ∧ t189 = t187) ∧
  (xLoad1 t185 w fun t190 w' =>
  w' = w ∧ t190 = t186) ∧
  (xLoad1 t183 w fun t191 w' =>
  w' = w ∧ t191 = t184) ∧
  xCall P nr.ref5_D_Append [v7, t184, t187] w fun t192 w =>
  law5_DiskPlays_j2 R X0 v5 v7 v8 t142 t188 t192 w)
  (xEq P .eql 3 false true t177 (Value.int IntKind.i64 1) w fun t193 w =>
  xIf t193
  (Sx.dr w fun w =>
  xOff (some 2) t142 w fun t194 _ =>
  xLoad1 t194 w fun t195 w' =>
  w' = w ∧
  xOff (some 2) t142 w fun t196 _ =>
  xLoad1 t196 w fun t197 w' =>
  w' = w ∧
  xCall P nr.disk_Disk_Sync [v5, t195] w fun t198 w =>
  (xLoad1 t196 w fun t199 w' =>
  w' = w ∧ t199 = t197) ∧
  xCall P nr.ref5_D_Sync [v7, t197] w fun t200 w =>
  law5_DiskPlays_j2 R X0 v5 v7 v8 t142 t198 t200 w)
  (xEq P .eql 3 false true t177 (Value.int IntKind.i64 2) w fun t201 w =>
  xIf t201
  (Sx.dr w fun w =>
  xOff (some 2) t142 w fun t202 _ =>
  xLoad1 t202 w fun t203 w' =>
  w' = w ∧
  xOff (some 1) t142 w fun t204 _ =>
  xLoad1 t204 w fun t205 w' =>
  w' = w ∧
  xOff (some 2) t142 w fun t206 _ =>
  xLoad1 t206 w fun t207 w' =>
  w' = w ∧
  xOff (some 1) t142 w fun t208 _ =>
  xLoad1 t208 w fun t209 w' =>
  w' = w ∧
  xCall P nr.disk_Disk_Cut [v5, t203, t205] w fun t210 w =>
  (xLoad1 t208 w fun t211 w' =>
  w' = w ∧ t211 = t209) ∧
  (xLoad1 t206 w fun t212 w' =>
  w' = w ∧ t212 = t207) ∧
  xCall P nr.ref5_D_Cut [v7, t207, t209] w fun t213 w =>
  law5_DiskPlays_j2 R X0 v5 v7 v8 t142 t210 t213 w)
  (xEq P .eql 3 false true t177 (Value.int IntKind.i64 3) w fun t214 w =>
  xIf t214
  (Sx.dr w fun w =>
  xOff (some 2) t142 w fun t215 _ =>
  xLoad1 t215 w fun t216 w' =>
  w' = w ∧
  xOff (some 3) t142 w fun t217 _ =>
  xLoad1 t217 w fun t218 w' =>
  w' = w ∧
  xOff (some 2) t142 w fun t219 _ =>
  xLoad1 t219 w fun t220 w' =>
  w' = w ∧
  xOff (some 3) t142 w fun t221 _ =>
  xLoad1 t221 w fun t222 w' =>
  w' = w ∧
  xCall P nr.disk_Disk_Rename [v5, t216, t218] w fun t223 w =>
  (xLoad1 t221 w fun t224 w' =>
  w' = w ∧ t224 = t222) ∧
  (xLoad1 t219 w fun t225 w' =>
  w' = w ∧ t225 = t220) ∧
  xCall P nr.ref5_D_Rename [v7, t220, t222] w fun t226 w =>
  law5_DiskPlays_j2 R X0 v5 v7 v8 t142 t223 t226 w)
  (xEq P .eql 3 false true t177 (Value.int IntKind.i64 4) w fun t227 w =>
  xIf t227
  (Sx.dr w fun w =>
  xOff (some 2) t142 w fun t228 _ =>
  xLoad1 t228 w fun t229 w' =>
  w' = w ∧
  xOff (some 2) t142 w fun t230 _ =>
  xLoad1 t230 w fun t231 w' =>
  w' = w ∧
  xCall P nr.disk_Disk_Remove [v5, t229] w fun t232 w =>
  (xLoad1 t230 w fun t233 w' =>
  w' = w ∧ t233 = t231) ∧
  xCall P nr.ref5_D_Remove [v7, t231] w fun t234 w =>
  law5_DiskPlays_j2 R X0 v5 v7 v8 t142 t232 t234 w)
  (xEq P .eql 3 false true t177 (Value.int IntKind.i64 5) w fun t235 w =>
  xIf t235
  (xOff (some 1) t142 w fun t236 w =>
  xLoad1 t236 w fun t237 w =>
  xCall P nr.disk_Disk_Crash [v5, t237] w fun t238 w =>
  xOff (some 1) t142 w fun t239 w =>
  xLoad1 t239 w fun t240 w =>
  xCall P nr.ref5_D_Crash [v7, t240] w fun t241 w =>
  law5_DiskPlays_j2 R X0 v5 v7 v8 t142 (Value.int IntKind.i64 0) (Value.int IntKind.i64 0) w)
  (xCall P nr.disk_Disk_Copy [v5] w fun t242 w =>
  xEq P .eql 23 false true t242 (Value.pointer none) w fun t243 w =>
  xIf t243
  (R (Value.bool false) w)
  (xBuildSlice P 22 4 [(0, (Value.int IntKind.u8 103)), (1, (Value.int IntKind.u8 111)), (2, (Value.int IntKind.u8 110)), (3, (Value.int IntKind.u8 101))] w fun t244 w =>
  xConvK P .more 22 22 t244 w fun t245 w =>
  xCall P nr.disk_Disk_Append [v5, (Value.string { data := #[103, 111, 110, 101] }), t245] w fun t246 w =>
  xCall P nr.disk_Disk_Crash [v5, (Value.int IntKind.i64 0)] w fun t247 w =>
  law5_DiskPlays_j2 R X0 t242 v7 v8 t142 (Value.int IntKind.i64 0) (Value.int IntKind.i64 0) w)))))))))
  (law5_DiskPlays_j0 R w)
def law5_DiskPlays_main (R : VCont) (a0 a1 : Value) (w : World) : Prop :=
  xCall P nr.disk_New [a0] w fun t1 w =>
  xExtract t1 0 w fun t2 w =>
  xExtract t1 1 w fun t3 w =>
  xBin P .lss 3 a0 (Value.int IntKind.i64 0) w fun t4 w =>
  xWhen t4 false (fun K => K a0 w) w fun t5 w =>
  xWhen t4 false (fun K => xBin P .gtr 3 t5 (Value.int IntKind.i64 1000000) w K) w fun t6 w =>
  xPick t4 (Value.bool true) t6 w fun t7 w =>
  xIf t7
  (xCall P nr.law5_told [] w fun t8 w =>
  xWhen t8 true (fun K => K t3 w) w fun t9 w =>
  xWhen t8 true (fun K => xEq P .eql 3 false true t9 (Value.int IntKind.i64 1) w K) w fun t10 w =>
  xPick t8 t10 (Value.bool false) w fun t11 w =>
  xWhen t11 true (fun K => K t2 w) w fun t12 w =>
  xWhen t11 true (fun K => xEq P .eql 23 false true t12 (Value.pointer none) w K) w fun t13 w =>
  xPick t11 t13 (Value.bool false) w fun t14 w =>
  R t14 w)
  (xEq P .neq 3 false true t3 (Value.int IntKind.i64 0) w fun t15 w =>
  xWhen t15 false (fun K => K t2 w) w fun t16 w =>
  xWhen t15 false (fun K => xEq P .eql 23 false true t16 (Value.pointer none) w K) w fun t17 w =>
  xPick t15 (Value.bool true) t17 w fun t18 w =>
  xIf t18
  (R (Value.bool false) w)
  (xBuild P 43 [(0, a0)] w fun t19 w =>
  xBox P 43 t19 w fun t20 w =>
  Lp (fun X s w => law5_DiskPlays_l1 R X a1 t20 (s.getD 0 undef) (s.getD 1 undef) w) [t2, (Value.int IntKind.i64 0)] w))
def law5_DiskPlays_os (i : Nat) : OT := cond (Nat.beq i 22) (.fl 0 (.fl 1 (.fl 2 (.fl 3 (.fl 4 (.fl 6 (.fl 7 (.fl 8 (.fl 9 (.fl 10 (.fl 11 (.an 5 (.an 12 (.fl 13 (.fl 14 .done)) .no) .no)))))))))))) (cond (Nat.beq i 24) (.fl 0 (.fl 1 (.fl 2 (.fl 4 (.fl 5 (.fl 6 (.an 3 (.an 7 (.fl 8 (.fl 9 .done)) .no) .no))))))) (cond (Nat.beq i 26) (.fl 0 (.fl 1 (.fl 2 (.fl 3 (.fl 4 (.fl 6 (.fl 7 (.fl 8 (.fl 9 (.fl 10 (.an 5 (.an 11 (.fl 12 (.fl 13 .done)) .no) .no))))))))))) (cond (Nat.beq i 28) (.fl 0 (.fl 1 (.fl 2 (.fl 3 (.fl 4 (.fl 6 (.fl 7 (.fl 8 (.fl 9 (.fl 10 (.an 5 (.an 11 (.fl 12 (.fl 13 .done)) .no) .no))))))))))) (cond (Nat.beq i 30) (.fl 0 (.fl 1 (.fl 2 (.fl 4 (.fl 5 (.fl 6 (.an 3 (.an 7 (.fl 8 (.fl 9 .done)) .no) .no))))))) (.no)))))
def law5_DiskPlays_es (R : VCont) : List Ent := [
  .join fun Xs e w => law5_DiskPlays_j0 R  w,
  .loop [1, 7] [5, 8] fun Xs fx X s w => law5_DiskPlays_l1 R X (fx.getD 0 undef) (fx.getD 1 undef) (s.getD 0 undef) (s.getD 1 undef) w,
  .join fun Xs e w => law5_DiskPlays_j2 R (hx Xs) (e 5) (e 7) (e 8) (e 9) (e 10) (e 11) w]
theorem law5_DiskPlays_ok {R : VCont} {a0 a1 : Value} {w : World} (h : law5_DiskPlays_main R a0 a1 w) : Calls P nr.law5_DiskPlays [a0, a1].toArray w (Ret R) :=
  calls_of_sx (P := P) (fn := Try.f5) (Os := law5_DiskPlays_os) (Es := (law5_DiskPlays_es R)) (args := [a0, a1]) mixed (by kernel_rfl) (by kernel_rfl) (by kernel_rfl) (by kernel_rfl) (by kernel_rfl) (by kernel_rfl) (by kernel_rfl)
    (Eq.mp (show law5_DiskPlays_main R a0 a1 w = sxh P law5_DiskPlays_os (law5_DiskPlays_es R) [] 0 (bodyOf Try.f5) (retQ P Try.f5.results.toList R) (envOf [a0, a1]) w by kernel_rfl) h)
theorem law5_DiskPlays_call {R : VCont} {a0 a1 : Value} {w : World} (h : law5_DiskPlays_main R a0 a1 w) : xCall P nr.law5_DiskPlays [a0, a1] w R :=
  xCall_of (P := P) (fn := Try.f5) (by kernel_rfl) (by kernel_rfl) (by kernel_rfl) (law5_DiskPlays_ok h)

/-! sojourn/sojournlaw5.same: function 30 -/
def law5_same_j0 (R : VCont) (w : World) : Prop :=
  R (Value.bool true) w
def law5_same_l1 (R : VCont) (X0 : LX) (v0 v1 v5 v6 : Value) (w : World) : Prop :=
  xLen P .pure #[34] v5 w fun t64 w =>
  xBin P .lss 3 v6 t64 w fun t65 w =>
  xIf t65
  (xIndexAddr P 34 v5 v6 w fun t66 w =>
  xLoad1 t66 w fun t67 w =>
  xCall P nr.disk_Disk_Read [v0, t67] w fun t68 w =>
  xExtract t68 0 w fun t69 w =>
  xExtract t68 1 w fun t70 w =>
  Sx.dr w fun w =>
  xIndexAddr P 34 v5 v6 w fun t71 _ =>
  xLoad1 t71 w fun t72 w' =>
  w' = w ∧
  xNil v1 w fun t73 _ =>
  xOff (some 1) t73 w fun t74 _ =>
  xLoad1 t74 w fun t75 w' =>
  w' = w ∧
  xIndexAddr P 41 t75 v6 w fun t76 _ =>
  xOff (some 0) t76 w fun t77 _ =>
  xLoad1 t77 w fun t78 w' =>
  w' = w ∧
  xEq P .neq 9 false false t72 t78 w fun t79 _ =>
  xWhen t79 false (fun K => K t70 w) w fun t80 _ =>
  xWhen t79 false (fun K => xEq P .neq 3 false true t80 (Value.int IntKind.i64 0) w K) w fun t81 _ =>
  xPick t79 (Value.bool true) t81 w fun t82 _ =>
  xWhen t82 false (fun K => K t69 w) w fun t83 _ =>
  xWhen t82 false (fun K => xConvK P .read 22 9 t83 w K) w fun t84 w' =>
  w' = w ∧
  xWhen t82 false (fun K => K v1 w) w fun t85 _ =>
  xWhen t82 false (fun K => xNil t85 w K) w fun t86 _ =>
  xWhen t82 false (fun K => xOff (some 1) t86 w K) w fun t87 _ =>
  xWhen t82 false (fun K => xLoad1 t87 w K) w fun t88 w' =>
  w' = w ∧
  xWhen t82 false (fun K => K v6 w) w fun t89 _ =>
  xWhen t82 false (fun K => xIndexAddr P 41 t88 t89 w K) w fun t90 _ =>
  xWhen t82 false (fun K => xOff (some 1) t90 w K) w fun t91 _ =>
  xWhen t82 false (fun K => xLoad1 t91 w K) w fun t92 w' =>
  w' = w ∧
  xWhen t82 false (fun K => xEq P .neq 9 false false t84 t92 w K) w fun t93 _ =>
  xPick t82 (Value.bool true) t93 w fun t94 _ =>
  xWhen t94 false (fun K => K v0 w) w fun t95 _ =>
  xWhen t94 false (fun K => K v5 w) w fun t96 _ =>
  xWhen t94 false (fun K => K v6 w) w fun t97 _ =>
  xWhen t94 false (fun K => xIndexAddr P 34 t96 t97 w K) w fun t98 _ =>
  xWhen t94 false (fun K => xLoad1 t98 w K) w fun t99 w' =>
  w' = w ∧
  xWhen t94 false (fun K => K v1 w) w fun t100 _ =>
  xWhen t94 false (fun K => xNil t100 w K) w fun t101 _ =>
  xWhen t94 false (fun K => xOff (some 1) t101 w K) w fun t102 _ =>
  xWhen t94 false (fun K => xLoad1 t102 w K) w fun t103 w' =>
  w' = w ∧
  xWhen t94 false (fun K => K v6 w) w fun t104 _ =>
  xWhen t94 false (fun K => xIndexAddr P 41 t103 t104 w K) w fun t105 _ =>
  xWhen t94 false (fun K => xOff (some 2) t105 w K) w fun t106 _ =>
  xWhen t94 false (fun K => xLoad1 t106 w K) w fun t107 w' =>
  w' = w ∧
  xWhen t94 false (fun K => xCall P nr.disk_Disk_Synced [t95, t99] w K) w fun t108 w =>
  (xWhen t94 false (fun K => xLoad1 t106 w K) w fun t109 w' =>
  w' = w ∧ t109 = t107) ∧
  (xWhen t94 false (fun K => xLoad1 t102 w K) w fun t110 w' =>
  w' = w ∧ t110 = t103) ∧
  xWhen t94 false (fun K => xEq P .neq 3 false false t108 t107 w K) w fun t111 _ =>
  xPick t94 (Value.bool true) t111 w fun t112 _ =>
  xIf t112
  (R (Value.bool false) w)
  (xBin P .add 3 v6 (Value.int IntKind.i64 1) w fun t113 w =>
  X0 [t113] w))
  (law5_same_j0 R w)
def law5_same_main (R : VCont) (a0 a1 : Value) (w : World) : Prop :=
  xCall P nr.disk_Disk_Names [a0] w fun t1 w =>
  xLen P .pure #[34] t1 w fun t2 w =>
  xNil a1 w fun t3 w =>
  xOff (some 1) t3 w fun t4 w =>
  xLoad1 t4 w fun t5 w =>
  xLen P .pure #[41] t5 w fun t6 w =>
  xEq P .neq 3 false false t2 t6 w fun t7 w =>
  xWhen t7 false (fun K => K a0 w) w fun t8 w =>
  xWhen t7 false (fun K => xCall P nr.disk_Disk_Used [t8] w K) w fun t9 w =>
  xWhen t7 false (fun K => K a1 w) w fun t10 w =>
  xWhen t7 false (fun K => xCall P nr.ref5_D_Used [t10] w K) w fun t11 w =>
  xWhen t7 false (fun K => xEq P .neq 3 false false t9 t11 w K) w fun t12 w =>
  xPick t7 (Value.bool true) t12 w fun t13 w =>
  xIf t13
  (R (Value.bool false) w)
  (Lp (fun X s w => law5_same_l1 R X a0 a1 t1 (s.getD 0 undef) w) [(Value.int IntKind.i64 0)] w)
def law5_same_os (i : Nat) : OT := cond (Nat.beq i 8) (.fl 0 (.fl 1 (.fl 2 (.fl 3 (.fl 4 (.fl 5 (.fl 6 (.fl 7 (.fl 8 (.fl 9 (.fl 10 (.fl 11 (.fl 12 (.fl 13 (.fl 14 (.fl 15 (.fl 16 (.fl 17 (.fl 18 (.fl 19 (.fl 20 (.fl 21 (.fl 22 (.fl 23 (.fl 24 (.fl 25 (.fl 26 (.fl 27 (.fl 28 (.fl 29 (.fl 30 (.fl 31 (.fl 32 (.fl 33 (.fl 34 (.fl 35 (.fl 37 (.fl 38 (.fl 39 (.fl 40 (.fl 41 (.fl 42 (.fl 43 (.fl 44 (.an 36 (.fl 45 (.fl 46 .done)) .no))))))))))))))))))))))))))))))))))))))))))))) (.no)
def law5_same_es (R : VCont) : List Ent := [
  .join fun Xs e w => law5_same_j0 R  w,
  .loop [0, 1, 5] [6] fun Xs fx X s w => law5_same_l1 R X (fx.getD 0 undef) (fx.getD 1 undef) (fx.getD 2 undef) (s.getD 0 undef) w]
theorem law5_same_ok {R : VCont} {a0 a1 : Value} {w : World} (h : law5_same_main R a0 a1 w) : Calls P nr.law5_same [a0, a1].toArray w (Ret R) :=
  calls_of_sx (P := P) (fn := Try.f30) (Os := law5_same_os) (Es := (law5_same_es R)) (args := [a0, a1]) mixed (by kernel_rfl) (by kernel_rfl) (by kernel_rfl) (by kernel_rfl) (by kernel_rfl) (by kernel_rfl) (by kernel_rfl)
    (Eq.mp (show law5_same_main R a0 a1 w = sxh P law5_same_os (law5_same_es R) [] 0 (bodyOf Try.f30) (retQ P Try.f30.results.toList R) (envOf [a0, a1]) w by kernel_rfl) h)
theorem law5_same_call {R : VCont} {a0 a1 : Value} {w : World} (h : law5_same_main R a0 a1 w) : xCall P nr.law5_same [a0, a1] w R :=
  xCall_of (P := P) (fn := Try.f30) (by kernel_rfl) (by kernel_rfl) (by kernel_rfl) (law5_same_ok h)

end Go.Proofs.Ytamejkogghpbhaa
