import Derived.Test.YtamejkogghpbhaaMg10
import Derived.Test.YtamejkogghpbhaaMg19
import Derived.Test.YtamejkogghpbhaaMg14
section
/- Printed by wip/gen/gen.py: the shallow texts of some functions. -/
set_option linter.unusedVariables false
namespace Go.Proofs.Ytamejkogghpbhaa
open Go.Sx

/-! sojourn/sojournlaw6.SealElder: function 7 -/
def law6_SealElder_j3 (R : VCont) (v1 v5 v7 : Value) (w : World) : Prop :=
  xCall P nr.seal_Log_Sync [v7] w fun t24 w =>
  xEq P .neq 3 false true t24 (Value.int IntKind.i64 0) w fun t25 w =>
  xIf t25
  (R (Value.bool false) w)
  (xCall P nr.disk_Disk_Read [v5, (Value.string { data := #[108, 111, 103] })] w fun t26 w =>
  xExtract t26 0 w fun t27 w =>
  xExtract t26 1 w fun t28 w =>
  xCall P nr.seal_Log_Save [v7, v1] w fun t29 w =>
  xEq P .neq 3 false true t29 (Value.int IntKind.i64 0) w fun t30 w =>
  xIf t30
  (R (Value.bool false) w)
  (xCall P nr.disk_Disk_Append [v5, (Value.string { data := #[108, 111, 103] }), t27] w fun t31 w =>
  xCall P nr.disk_Disk_Sync [v5, (Value.string { data := #[108, 111, 103] })] w fun t32 w =>
  xCall P nr.seal_Open [v5] w fun t33 w =>
  xExtract t33 0 w fun t34 w =>
  xExtract t33 1 w fun t35 w =>
  xExtract t33 2 w fun t36 w =>
  xExtract t33 3 w fun t37 w =>
  xEq P .neq 3 false true t37 (Value.int IntKind.i64 0) w fun t38 w =>
  xWhen t38 false (fun K => K t34 w) w fun t39 w =>
  xWhen t38 false (fun K => xEq P .eql 53 false true t39 (Value.pointer none) w K) w fun t40 w =>
  xPick t38 (Value.bool true) t40 w fun t41 w =>
  xIf t41
  (R (Value.bool false) w)
  (xBuildSlice P 22 1 [(0, (Value.int IntKind.u8 122))] w fun t42 w =>
  xConvK P .more 22 22 t42 w fun t43 w =>
  xCall P nr.seal_Log_Put [t34, t43] w fun t44 w =>
  xCall P nr.seal_Open [v5] w fun t45 w =>
  xExtract t45 0 w fun t46 w =>
  xExtract t45 1 w fun t47 w =>
  xExtract t45 2 w fun t48 w =>
  xExtract t45 3 w fun t49 w =>
  xCall P nr.law6_told [] w fun t50 w =>
  xWhen t50 true (fun K => K t35 w) w fun t51 w =>
  xWhen t50 true (fun K => K v1 w) w fun t52 w =>
  xWhen t50 true (fun K => xCall P nr.law6_texts [t52] w K) w fun t53 w =>
  xWhen t50 true (fun K => xCall P nr.law4_Texts [t51, t53] w K) w fun t54 w =>
  xPick t50 t54 (Value.bool false) w fun t55 w =>
  xWhen t55 true (fun K => K t36 w) w fun t56 w =>
  xWhen t55 true (fun K => xLen P .pure #[54] t56 w K) w fun t57 w =>
  xWhen t55 true (fun K => xEq P .eql 3 false true t57 (Value.int IntKind.i64 0) w K) w fun t58 w =>
  xPick t55 t58 (Value.bool false) w fun t59 w =>
  xWhen t59 true (fun K => K t44 w) w fun t60 w =>
  xWhen t59 true (fun K => xEq P .eql 3 false true t60 (Value.int IntKind.i64 0) w K) w fun t61 w =>
  xPick t59 t61 (Value.bool false) w fun t62 w =>
  xWhen t62 true (fun K => K t49 w) w fun t63 w =>
  xWhen t62 true (fun K => xEq P .eql 3 false true t63 (Value.int IntKind.i64 0) w K) w fun t64 w =>
  xPick t62 t64 (Value.bool false) w fun t65 w =>
  xWhen t65 true (fun K => K t47 w) w fun t66 w =>
  xWhen t65 true (fun K => K v1 w) w fun t67 w =>
  xWhen t65 true (fun K => xCall P nr.law6_texts [t67] w K) w fun t68 w =>
  xWhen t65 true (fun K => xCall P nr.law4_Texts [t66, t68] w K) w fun t69 w =>
  xPick t65 t69 (Value.bool false) w fun t70 w =>
  xWhen t70 true (fun K => K t48 w) w fun t71 w =>
  xWhen t70 true (fun K => xLen P .pure #[54] t71 w K) w fun t72 w =>
  xWhen t70 true (fun K => xEq P .eql 3 false true t72 (Value.int IntKind.i64 1) w K) w fun t73 w =>
  xPick t70 t73 (Value.bool false) w fun t74 w =>
  xWhen t74 true (fun K => K t48 w) w fun t75 w =>
  xWhen t74 true (fun K => xIndexAddr P 54 t75 (Value.int IntKind.i64 0) w K) w fun t76 w =>
  xWhen t74 true (fun K => xLoad1 t76 w K) w fun t77 w =>
  xWhen t74 true (fun K => xConvK P .read 22 9 t77 w K) w fun t78 w =>
  xWhen t74 true (fun K => xEq P .eql 9 false true t78 (Value.string { data := #[122] }) w K) w fun t79 w =>
  xPick t74 t79 (Value.bool false) w fun t80 w =>
  R t80 w)))
def law6_SealElder_l4 (R : VCont) (X0 : LX) (v0 v1 v5 v7 v14 : Value) (w : World) : Prop :=
  xLen P .pure #[54] v0 w fun t88 w =>
  xBin P .lss 3 v14 t88 w fun t89 w =>
  xIf t89
  (xIndexAddr P 54 v0 v14 w fun t90 w =>
  xLoad1 t90 w fun t91 w =>
  xCall P nr.seal_Log_Put [v7, t91] w fun t92 w =>
  xEq P .neq 3 false true t92 (Value.int IntKind.i64 0) w fun t93 w =>
  xIf t93
  (R (Value.bool false) w)
  (xBin P .add 3 v14 (Value.int IntKind.i64 1) w fun t94 w =>
  X0 [t94] w))
  (law6_SealElder_j3 R v1 v5 v7 w)
def law6_SealElder_j0 (R : VCont) (v0 v1 v5 v7 : Value) (w : World) : Prop :=
  Lp (fun X s w => law6_SealElder_l4 R X v0 v1 v5 v7 (s.getD 0 undef) w) [(Value.int IntKind.i64 0)] w
def law6_SealElder_j2 (R : VCont) (X0 : LX) (v11 v12 v13 : Value) (w : World) : Prop :=
  xIndexAddr P 54 v12 v13 w fun t120 w =>
  xLoad1 t120 w fun t121 w =>
  xLen P .pure #[22] t121 w fun t122 w =>
  xBin P .lss 3 t122 (Value.int IntKind.i64 1) w fun t123 w =>
  xWhen t123 false (fun K => K v12 w) w fun t124 w =>
  xWhen t123 false (fun K => K v13 w) w fun t125 w =>
  xWhen t123 false (fun K => xIndexAddr P 54 t124 t125 w K) w fun t126 w =>
  xWhen t123 false (fun K => xLoad1 t126 w K) w fun t127 w =>
  xWhen t123 false (fun K => xLen P .pure #[22] t127 w K) w fun t128 w =>
  xWhen t123 false (fun K => xBin P .gtr 3 t128 (Value.int IntKind.i64 40) w K) w fun t129 w =>
  xPick t123 (Value.bool true) t129 w fun t130 w =>
  xIf t130
  (xCall P nr.law6_told [] w fun t131 w =>
  R t131 w)
  (xBin P .add 3 v11 (Value.int IntKind.i64 1) w fun t132 w =>
  X0 [t132] w)
def law6_SealElder_l1 (R : VCont) (X0 : LX) (v0 v1 v5 v7 v11 : Value) (w : World) : Prop :=
  xLen P .pure #[54] v0 w fun t116 w =>
  xLen P .pure #[54] v1 w fun t117 w =>
  xBin P .add 3 t116 t117 w fun t118 w =>
  xBin P .lss 3 v11 t118 w fun t119 w =>
  xIf t119
  (xLen P .pure #[54] v0 w fun t133 w =>
  xBin P .geq 3 v11 t133 w fun t134 w =>
  xIf t134
  (xLen P .pure #[54] v0 w fun t135 w =>
  xBin P .sub 3 v11 t135 w fun t136 w =>
  law6_SealElder_j2 R X0 v11 v1 t136 w)
  (law6_SealElder_j2 R X0 v11 v0 v11 w))
  (law6_SealElder_j0 R v0 v1 v5 v7 w)
def law6_SealElder_main (R : VCont) (a0 a1 : Value) (w : World) : Prop :=
  xCall P nr.disk_New [(Value.int IntKind.i64 1000000)] w fun t1 w =>
  xExtract t1 0 w fun t2 w =>
  xExtract t1 1 w fun t3 w =>
  xEq P .neq 3 false true t3 (Value.int IntKind.i64 0) w fun t4 w =>
  xWhen t4 false (fun K => K t2 w) w fun t5 w =>
  xWhen t4 false (fun K => xEq P .eql 23 false true t5 (Value.pointer none) w K) w fun t6 w =>
  xPick t4 (Value.bool true) t6 w fun t7 w =>
  xIf t7
  (R (Value.bool false) w)
  (xLen P .pure #[54] a0 w fun t8 w =>
  xBin P .gtr 3 t8 (Value.int IntKind.i64 8) w fun t9 w =>
  xWhen t9 false (fun K => K a1 w) w fun t10 w =>
  xWhen t9 false (fun K => xLen P .pure #[54] t10 w K) w fun t11 w =>
  xWhen t9 false (fun K => xBin P .gtr 3 t11 (Value.int IntKind.i64 4) w K) w fun t12 w =>
  xPick t9 (Value.bool true) t12 w fun t13 w =>
  xIf t13
  (xCall P nr.law6_told [] w fun t14 w =>
  R t14 w)
  (xCall P nr.seal_Open [t2] w fun t15 w =>
  xExtract t15 0 w fun t16 w =>
  xExtract t15 1 w fun t17 w =>
  xExtract t15 2 w fun t18 w =>
  xExtract t15 3 w fun t19 w =>
  xEq P .neq 3 false true t19 (Value.int IntKind.i64 0) w fun t20 w =>
  xWhen t20 false (fun K => K t16 w) w fun t21 w =>
  xWhen t20 false (fun K => xEq P .eql 53 false true t21 (Value.pointer none) w K) w fun t22 w =>
  xPick t20 (Value.bool true) t22 w fun t23 w =>
  xIf t23
  (R (Value.bool false) w)
  (Lp (fun X s w => law6_SealElder_l1 R X a0 a1 t2 t16 (s.getD 0 undef) w) [(Value.int IntKind.i64 0)] w)))
def law6_SealElder_es (R : VCont) : List Ent := [
  .join fun Xs e w => law6_SealElder_j0 R (e 0) (e 1) (e 5) (e 7) w,
  .loop [0, 1, 5, 7] [11] fun Xs fx X s w => law6_SealElder_l1 R X (fx.getD 0 undef) (fx.getD 1 undef) (fx.getD 2 undef) (fx.getD 3 undef) (s.getD 0 undef) w,
  .join fun Xs e w => law6_SealElder_j2 R (hx Xs) (e 11) (e 12) (e 13) w,
  .join fun Xs e w => law6_SealElder_j3 R (e 1) (e 5) (e 7) w,
  .loop [0, 1, 5, 7] [14] fun Xs fx X s w => law6_SealElder_l4 R X (fx.getD 0 undef) (fx.getD 1 undef) (fx.getD 2 undef) (fx.getD 3 undef) (s.getD 0 undef) w]
theorem law6_SealElder_ok {R : VCont} {a0 a1 : Value} {w : World} (h : law6_SealElder_main R a0 a1 w) : Calls P nr.law6_SealElder [a0, a1].toArray w (Ret R) :=
  calls_of_sx (P := P) (fn := Try.f7) (Os := (fun _ => .no)) (Es := (law6_SealElder_es R)) (args := [a0, a1]) mixed (by kernel_rfl) (by kernel_rfl) (by kernel_rfl) (by kernel_rfl) (by kernel_rfl) (by kernel_rfl) (by kernel_rfl)
    (Eq.mp (show law6_SealElder_main R a0 a1 w = sxh P (fun _ => .no) (law6_SealElder_es R) [] 0 (bodyOf Try.f7) (retQ P Try.f7.results.toList R) (envOf [a0, a1]) w by kernel_rfl) h)
theorem law6_SealElder_call {R : VCont} {a0 a1 : Value} {w : World} (h : law6_SealElder_main R a0 a1 w) : xCall P nr.law6_SealElder [a0, a1] w R :=
  xCall_of (P := P) (fn := Try.f7) (by kernel_rfl) (by kernel_rfl) (by kernel_rfl) (law6_SealElder_ok h)

end Go.Proofs.Ytamejkogghpbhaa
end
section
/- SealElder: the law. -/
set_option linter.unusedVariables false
set_option linter.unusedSimpArgs false
namespace Go.Proofs.Ytamejkogghpbhaa
open Go.Sx
def sm (x : List UInt8) : Prop := 1 ≤ x.length ∧ x.length ≤ 40
theorem sm_fits {x : List UInt8} (h : sm x) : fits x := ⟨h.1, by have := h.2; omega⟩
theorem seven {A : Prop} (h : A) : A := h
section
variable {W w : World} {K : VCont} {d p : Nat} {D : Ab} {S R L : List (List UInt8)} {y : Nat} {v0 v1 : Value}
theorem SealElder_j3 (hK : ∀ w', Hp w' [InpA W] → K (.bool true) w') (h1 : RdBs W v1 S) (hS : S.length ≤ 4) (hs : ∀ x ∈ S, sm x) (hL : L.length ≤ 8) (hLs : ∀ x ∈ L, sm x)
    (h : Hp w [LogA p d 0 L.length, DiskA d 1000000 D, InpA W]) (ls : LS D 0 [] L 0) : law6_SealElder_j3 K v1 (ptr d) (ptr p) w := by
  have hSf : (frames S).length ≤ 4 * 46 := Nat.le_trans (frames_le (m := 40) fun x hx => (hs x hx).2) (Nat.mul_le_mul_right _ hS)
  have hLf : (frames L).length ≤ 8 * 46 := Nat.le_trans (frames_le (m := 40) fun x hx => (hLs x hx).2) (Nat.mul_le_mul_right _ hL)
  have hg := genf_len 1
  unfold law6_SealElder_j3
  refine Sync_ls h ls ?_
  intro w1 D1 ls1 h
  simp only [xs, xb, xd]
  have hu := ls1.used
  simp only [frames_nil, List.length_nil] at hu
  refine Read_hp1 h.pick1 _ ?_
  intro t27 w2 _ _ _ h
  simp only [xs]
  refine Save_ls (S' := S) h.pick1.pick2 ls1 (by omega) (fun w h => h1.inp h (by simp)) (by omega) (fun x hx => by have := (hs x hx).2; omega) ?_ ?_ ?_
  · rintro ⟨x, hx, hn⟩; exact absurd (sm_fits (hs x hx)) hn
  · intro _ hroom
    rw [List.length_append] at hroom
    have : (genf (0 + 1)).length = (genf 1).length := rfl
    omega
  intro _ w3 D2 ls2 hc2 h
  simp only [xs, xb, xd]
  have hu2 := ls2.used
  simp only [frames_nil, List.length_nil] at hu2
  have ht2 := ls2.two.len
  have hb : (acont D1 nlog).length ≤ 10000 := by
    have := ls1.two.used; omega
  -- the elder file behind the cut
  refine Append_hp h.pick1 (by omega) _ h.pick2.ro (show (acont D1 nlog).length ≤ 1000000 by omega) ?_
  intro w4 h
  have happ : (aapp 1000000 D2 nlog (acont D1 nlog)).1 = aput D2 nlog ((aold D2 nlog).1 ++ acont D1 nlog, (aold D2 nlog).2) := by
    rw [aapp_log, if_neg (by omega)]
  have hold : (aold D2 nlog).1 = [] := by
    unfold aold acont at *
    cases hg : aget D2 nlog with
    | none => rfl
    | some x => rw [hg] at hc2; exact hc2
  rw [happ, hold, List.nil_append] at h
  generalize hx : (aold D2 nlog).2 = sy at h
  generalize hD3 : aput D2 nlog (acont D1 nlog, sy) = D3 at h
  have ht3 : Two D3 := by rw [← hD3]; exact ls2.two.put (.inr rfl) _
  have hs3 : SnapOk D3 1 S := ls2.snap.of_aget (by rw [← hD3, aget_aput, if_neg (by decide)])
  have hc3 : acont D3 nlog = acont D1 nlog := by rw [← hD3, acont_aput, if_pos rfl]
  refine Sync_hp h _ ?_
  intro w5 h
  have ha4 : ∀ a, acont (async D3 nlog).1 a = acont D3 a := by
    intro a
    unfold async acont
    cases hg : aget D3 nlog with
    | none => simp only
    | some x =>
      simp only
      rw [aget_aset]
      by_cases ha : nlog = a
      · subst ha; rw [if_pos rfl, hg]; rfl
      · rw [if_neg ha]
  have ht4 : Two (async D3 nlog).1 := by
    unfold async
    split
    · exact ht3
    · exact ht3.set _ _
  have hs4 : SnapOk (async D3 nlog).1 1 S := by
    refine hs3.of_aget ?_
    unfold async
    split
    · rfl
    · rw [aget_aset, if_neg (by decide)]
  have hc4 := ha4 nlog
  rw [hc3] at hc4
  generalize (async D3 nlog).1 = D4 at h ht4 hs4 hc4
  -- Open: no elder record counts
  obtain ⟨a1, es, k1, e1⟩ := hs4.keeps (by omega) ls2.fS
  have k2 : ∃ a2 R er, Keeps (acont D4 nlog) a2 R er ∧ R.length ≤ 1000 ∧ (a2 = -1 ∧ R = [] ∧ er = 0 ∨ a2 = 0) := by
    rw [hc4]
    obtain ⟨c, s, hg, _, hc, _⟩ := ls1.log
    have hcc : acont D1 nlog = c := by
      unfold acont
      rcases hg with hg | ⟨hg, rfl, rfl⟩ <;> rw [hg] <;> rfl
    rw [hcc]
    rcases hc with ⟨rfl, _⟩ | rfl
    · exact ⟨-1, [], 0, keeps_nil one_nil, by simp, .inl ⟨rfl, rfl, rfl⟩⟩
    · refine ⟨0, L, (logc 0 L).length, ?_, by omega, .inr rfl⟩
      have := keeps_logc (age := 0) (R := L) (by omega) (by omega) ls1.fR (r := []) one_nil
      rw [List.append_nil] at this
      exact this
  obtain ⟨a2, Rx, er, k2, kl, kor⟩ := k2
  refine seal_Open_hp h k1 k2 (by omega) ?_
  intro q vs vr w6 R' e' he h
  have he' : R' = [] ∧ e' = 0 := by
    rcases kor with ⟨rfl, rfl, rfl⟩ | rfl
    · rw [if_pos (.inl rfl)] at he; cases he; exact ⟨rfl, rfl⟩
    · rw [if_neg (by rw [e1]; omega)] at he; cases he; exact ⟨rfl, rfl⟩
  obtain ⟨rfl, rfl⟩ := he'
  have ls5 := open_other ht4 (by omega) hs4 ls2.fS
  generalize lopen D4 0 = D5 at h ls5
  rw [e1] at h
  have hu5 := ls5.used
  simp only [frames_nil, List.length_nil] at hu5
  simp only [xs, xb, xd, xEq_ptr und.p_seal_Log, Option.isNone_some]
  refine lit_hp [122] h rfl (by kernel_rfl) (by omega) ?_
  intro v7 w7 h _
  refine Put_ls (R := []) (b := [122]) h.pick4.pick2 ls5 (by simp) h.ro (by simp) (fun hn => absurd (show fits [122] by decide) hn) (fun _ hroom => by simp at hroom; omega) ?_
  intro _ w8 D6 ls6 h
  refine Reopen_ls h.pick1 ls6 (by simp) ?_
  intro q2 vt vu w9 D7 ls7 h
  simp only [xs]
  refine told6_hp h ?_
  intro w10 h
  -- q2, vt, vu, disk, q, lit, vs, vr, ..
  simp only [xs, xd]
  refine texts_hp (S := S) h (fun w h => h1.inp h (by simp)) (by omega) ?_
  intro v11 w11 h
  refine Texts_spec (A := S) (B := S) h.pick7.ro h.own.rd (by omega) ?_
  intro w12 hc12
  have h := h.keep' hc12
  -- va, q2, vt, vu, disk, q, lit, vs, vr, t27
  have bvr : RdBs w12 vr [] := h.roAt 8 rfl
  have c0 : ((0 : Nat) : Int) = 0 := rfl
  simp only [xs, xb, xd, decide_true, bvr.len und.s_s_uint8, List.length_nil, c0]
  refine texts_hp (S := S) h (fun w h => h1.inp h (by simp)) (by omega) ?_
  intro v13 w13 h
  have bvt : RdBs w13 vt S := h.roAt 3 rfl
  refine Texts_spec (A := S) (B := S) bvt h.own.rd (by omega) ?_
  intro w14 hc14
  have h := h.keep' hc14
  have bvu : RdBs w14 vu ([] ++ [[122]]) := h.roAt 4 rfl
  have c1 : ((([] ++ [[122]] : List (List UInt8)).length : Nat) : Int) = 1 := rfl
  obtain ⟨p0, u0, i0, q0, r0⟩ := bvu.at und.s_s_uint8 inf.s_uint8 rfl (k := 0) (x := [122]) rfl
  have i0' : ∀ (w2 : World) (C : VCont), xIndexAddr P ty.s_s_uint8 vu (.int .i64 0) w2 C = C (.pointer (some p0)) w2 := i0
  simp only [xs, xb, xd, decide_true, bvu.len und.s_s_uint8, c1, i0', q0, bytes_string und.s_uint8 und.uint8 und.string r0, xEq_str]
  exact hK w14 (Hp_only h (by simp))
theorem i64_succ {i : Nat} (h : i ≤ 1000000000) : IntKind.i64.wrap ((i : Int) + 1) = ((i + 1 : Nat) : Int) := by rw [wrap_i64 (by omega) (by omega)]; omega
theorem SealElder_j0 (hK : ∀ w', Hp w' [InpA W] → K (.bool true) w') (h0 : RdBs W v0 L) (h1 : RdBs W v1 S) (hS : S.length ≤ 4) (hs : ∀ x ∈ S, sm x) (hL : L.length ≤ 8) (hLs : ∀ x ∈ L, sm x)
    (h : Hp w [LogA p d 0 0, DiskA d 1000000 D, InpA W]) (ls : LS D 0 [] [] 0) : law6_SealElder_j0 K v0 v1 (ptr d) (ptr p) w := by
  unfold law6_SealElder_j0
  refine Lp.gen (fun m s w' => ∃ (i : Nat) (D' : Ab), m + i = L.length ∧ s = [i64 i] ∧ LS D' 0 [] (L.take i) 0 ∧ Hp w' [LogA p d 0 (L.take i).length, DiskA d 1000000 D', InpA W]) L.length ⟨0, D, by omega, rfl, by simpa using ls, by simpa using h⟩ ?_
  rintro m s w1 ⟨i, D1, hm, rfl, ls1, h⟩ X hX
  unfold law6_SealElder_l4
  have hb0 : RdBs w1 v0 L := h0.inp h (by simp)
  simp only [List.getD_cons_zero, hb0.len und.s_s_uint8, xs, xb]
  by_cases hlt : i < L.length
  · have hlt' : (i : Int) < (L.length : Int) := by omega
    have hx := List.getElem?_eq_getElem hlt
    have hxm := hLs _ (List.getElem_mem hlt)
    have hA : L.take (i + 1) = L.take i ++ [L[i]] := by rw [List.take_add_one, hx]; rfl
    generalize L[i] = x at hx hA hxm
    obtain ⟨p0, u, i0, q0, hru⟩ := hb0.at und.s_s_uint8 inf.s_uint8 rfl hx
    simp only [hlt', xs, xd, i0, q0]
    have hu := ls1.used
    have hLf : (frames (L.take i)).length ≤ 8 * 46 := Nat.le_trans (frames_le (m := 40) fun x hx => (hLs x (List.mem_of_mem_take hx)).2) (Nat.mul_le_mul_right _ (by rw [List.length_take]; omega))
    simp only [frames_nil, List.length_nil] at hu
    have hx2 := hxm.2
    refine Put_ls h ls1 (by rw [List.length_take]; omega) hru (by omega) (fun hn => absurd (sm_fits hxm) hn) (fun _ hroom => by omega) ?_
    intro _ w2 D2 ls2 h
    simp only [xs, xb, xd]
    rw [i64_succ (by omega)]
    exact hX (m - 1) _ _ ⟨i + 1, D2, by omega, rfl, by rw [hA]; exact ls2, by rw [hA]; exact h⟩ (by omega)
  · have hlt' : ¬ (i : Int) < (L.length : Int) := by omega
    simp only [hlt', xs, xd]
    rw [List.take_of_length_le (by omega)] at ls1 h
    exact SealElder_j3 hK h1 hS hs hL hLs h ls1
theorem SealElder_law (hK : ∀ w', Hp w' [InpA W] → K (.bool true) w') (h0 : RdBs W v0 L) (h1 : RdBs W v1 S) (hLm : L.length ≤ 9223372036854775807) (hSm : S.length ≤ 9223372036854775807) : law6_SealElder_main K v0 v1 W := by
  unfold law6_SealElder_main
  refine New_hp (Hp.inp W) 1000000 (by omega) ?_
  intro d w1 h
  have hb0 : RdBs w1 v0 L := h0.inp h (by simp)
  have hb1 : RdBs w1 v1 S := h1.inp h (by simp)
  simp only [xs, xb, xd, xEq_ptr und.p_disk_Disk, Option.isNone_some, hb0.len und.s_s_uint8]
  have gone : ∀ {w : World} {l : List Asn}, Hp w l → InpA W ∈ l → xCall P nr.law6_told [] w K := fun h hm => told6_hp h fun w' h => hK w' (Hp_only h hm)
  by_cases hL : (8 : Int) < (L.length : Int)
  · simp only [hL, xs, xd]
    exact gone h (by simp)
  simp only [hL, xs, xb, xd, hb1.len und.s_s_uint8]
  by_cases hS : (4 : Int) < (S.length : Int)
  · simp only [hS, xs, xd]
    exact gone h (by simp)
  simp only [hS, xs, xd]
  refine Reopen_ls h LS.nil (by simp) ?_
  intro p vs vr w2 D1 ls1 h
  simp only [xs, xb, xd, xEq_ptr und.p_seal_Log, Option.isNone_some]
  have h : Hp w2 [LogA p d 0 0, DiskA d 1000000 D1, InpA W] := h.pick1.tail.pick1.tail
  refine Lp.gen (fun m s w' => ∃ i : Nat, m + i = L.length + S.length ∧ s = [i64 i] ∧ (∀ x ∈ (L ++ S).take i, sm x) ∧ Hp w' [LogA p d 0 0, DiskA d 1000000 D1, InpA W]) (L.length + S.length) ⟨0, by omega, rfl, by simp, h⟩ ?_
  rintro m s w3 ⟨i, hm, rfl, hsm, h⟩ X hX
  have hb0 : RdBs w3 v0 L := h0.inp h (by simp)
  have hb1 : RdBs w3 v1 S := h1.inp h (by simp)
  -- one more
  have step : ∀ (v : Value) (xss : List (List UInt8)) (k : Nat) (x : List UInt8), RdBs w3 v xss → xss[k]? = some x → (L ++ S)[i]? = some x → law6_SealElder_j2 K X (i64 i) v (i64 k) w3 := by
    intro v xss k x hb hx hi
    unfold law6_SealElder_j2
    obtain ⟨p0, u, i0, q0, hru⟩ := hb.at und.s_s_uint8 inf.s_uint8 rfl hx
    have hlen : ∀ (w : World) (K : VCont), xLen P .pure #[ty.s_uint8] u w K = K (i64 x.length) w := fun w K => by rw [rd_len hru und.s_uint8, List.length_map]
    simp only [i0, q0, xs, xb, hlen]
    by_cases h1 : (x.length : Int) < 1
    · simp only [h1, xs, xd]
      exact gone h (by simp)
    simp only [h1, xs, xb, xd, i0, q0, hlen]
    by_cases h2 : (40 : Int) < (x.length : Int)
    · simp only [h2, xs, xd]
      exact gone h (by simp)
    simp only [h2, xs, xd]
    have hil := (List.getElem?_eq_some_iff.1 hi).1
    rw [List.length_append] at hil
    rw [i64_succ (by omega)]
    refine hX (m - 1) _ _ ⟨i + 1, by omega, rfl, ?_, h⟩ (by omega)
    intro z hz
    rw [List.take_add_one, hi] at hz
    rcases List.mem_append.1 hz with hz | hz
    · exact hsm z hz
    · simp at hz; subst hz; exact ⟨by omega, by omega⟩
  unfold law6_SealElder_l1
  have hadd : IntKind.i64.wrap ((L.length : Int) + (S.length : Int)) = ((L.length + S.length : Nat) : Int) := by rw [wrap_i64 (by omega) (by omega)]; omega
  simp only [List.getD_cons_zero, hb0.len und.s_s_uint8, hb1.len und.s_s_uint8, xs, xb, hadd]
  by_cases hlt : i < L.length + S.length
  · have hlt' : (i : Int) < ((L.length + S.length : Nat) : Int) := by omega
    simp only [hlt', xs, xd]
    by_cases hge : L.length ≤ i
    · have hge' : (L.length : Int) ≤ (i : Int) := by omega
      have hsub : IntKind.i64.wrap ((i : Int) - (L.length : Int)) = ((i - L.length : Nat) : Int) := by rw [wrap_i64 (by omega) (by omega)]; omega
      simp only [hge', xs, xd, hsub]
      have hx := List.getElem?_eq_getElem (show i - L.length < S.length by omega)
      exact step v1 S (i - L.length) _ hb1 hx (by rw [List.getElem?_append_right hge]; exact hx)
    · have hge' : ¬ (L.length : Int) ≤ (i : Int) := by omega
      simp only [hge', xs, xd]
      have hx := List.getElem?_eq_getElem (show i < L.length by omega)
      exact step v0 L i _ hb0 hx (by rw [List.getElem?_append_left (by omega)]; exact hx)
  · have hlt' : ¬ (i : Int) < ((L.length + S.length : Nat) : Int) := by omega
    simp only [hlt', xs, xd]
    rw [List.take_of_length_le (by rw [List.length_append]; omega)] at hsm
    exact SealElder_j0 hK h0 h1 (by omega) (fun x hx => hsm x (by simp [hx])) (by omega) (fun x hx => hsm x (by simp [hx])) h ls1
end
end Go.Proofs.Ytamejkogghpbhaa
end
section
/- Printed by wip/gen/gen.py: the shallow texts of some functions. -/
set_option linter.unusedVariables false
namespace Go.Proofs.Ytamejkogghpbhaa
open Go.Sx

/-! sojourn/sojournlaw6.SealKeeps: function 6 -/
def law6_SealKeeps_j0 (R : VCont) (v1 v5 v11 v12 v13 : Value) (w : World) : Prop :=
  xCall P nr.disk_Disk_Crash [v5, v1] w fun t17 w =>
  xCall P nr.seal_Open [v5] w fun t18 w =>
  xExtract t18 0 w fun t19 w =>
  xExtract t18 1 w fun t20 w =>
  xExtract t18 2 w fun t21 w =>
  xExtract t18 3 w fun t22 w =>
  xEq P .neq 3 false true t22 (Value.int IntKind.i64 0) w fun t23 w =>
  xWhen t23 false (fun K => K t19 w) w fun t24 w =>
  xWhen t23 false (fun K => xEq P .eql 53 false true t24 (Value.pointer none) w K) w fun t25 w =>
  xPick t23 (Value.bool true) t25 w fun t26 w =>
  xWhen t26 false (fun K => K t20 w) w fun t27 w =>
  xWhen t26 false (fun K => K v11 w) w fun t28 w =>
  xWhen t26 false (fun K => xCall P nr.law4_Texts [t27, t28] w K) w fun t29 w =>
  xWhen t26 false (fun K => xUn P .not t29 w K) w fun t30 w =>
  xPick t26 (Value.bool true) t30 w fun t31 w =>
  xWhen t31 false (fun K => K t21 w) w fun t32 w =>
  xWhen t31 false (fun K => xLen P .pure #[54] t32 w K) w fun t33 w =>
  xWhen t31 false (fun K => K v13 w) w fun t34 w =>
  xWhen t31 false (fun K => xBin P .lss 3 t33 t34 w K) w fun t35 w =>
  xPick t31 (Value.bool true) t35 w fun t36 w =>
  xWhen t36 false (fun K => K t21 w) w fun t37 w =>
  xWhen t36 false (fun K => xLen P .pure #[54] t37 w K) w fun t38 w =>
  xWhen t36 false (fun K => K v12 w) w fun t39 w =>
  xWhen t36 false (fun K => xLen P .pure #[34] t39 w K) w fun t40 w =>
  xWhen t36 false (fun K => xBin P .gtr 3 t38 t40 w K) w fun t41 w =>
  xPick t36 (Value.bool true) t41 w fun t42 w =>
  xWhen t42 false (fun K => K t21 w) w fun t43 w =>
  xWhen t42 false (fun K => K v12 w) w fun t44 w =>
  xWhen t42 false (fun K => K t21 w) w fun t45 w =>
  xWhen t42 false (fun K => xLen P .pure #[54] t45 w K) w fun t46 w =>
  xWhen t42 false (fun K => xSlice P 34 t44 none (some t46) none w K) w fun t47 w =>
  xWhen t42 false (fun K => xCall P nr.law4_Texts [t43, t47] w K) w fun t48 w =>
  xWhen t42 false (fun K => xUn P .not t48 w K) w fun t49 w =>
  xPick t42 (Value.bool true) t49 w fun t50 w =>
  xIf t50
  (R (Value.bool false) w)
  (xBuildSlice P 22 4 [(0, (Value.int IntKind.u8 109)), (1, (Value.int IntKind.u8 111)), (2, (Value.int IntKind.u8 114)), (3, (Value.int IntKind.u8 101))] w fun t51 w =>
  xConvK P .more 22 22 t51 w fun t52 w =>
  xCall P nr.seal_Log_Put [t19, t52] w fun t53 w =>
  xEq P .neq 3 false true t53 (Value.int IntKind.i64 0) w fun t54 w =>
  xWhen t54 false (fun K => K t19 w) w fun t55 w =>
  xWhen t54 false (fun K => xCall P nr.seal_Log_Sync [t55] w K) w fun t56 w =>
  xWhen t54 false (fun K => xEq P .neq 3 false true t56 (Value.int IntKind.i64 0) w K) w fun t57 w =>
  xPick t54 (Value.bool true) t57 w fun t58 w =>
  xIf t58
  (R (Value.bool false) w)
  (xCall P nr.disk_Disk_Crash [v5, (Value.int IntKind.i64 0)] w fun t59 w =>
  xCall P nr.seal_Open [v5] w fun t60 w =>
  xExtract t60 0 w fun t61 w =>
  xExtract t60 1 w fun t62 w =>
  xExtract t60 2 w fun t63 w =>
  xExtract t60 3 w fun t64 w =>
  xCall P nr.law6_told [] w fun t65 w =>
  xWhen t65 true (fun K => K t64 w) w fun t66 w =>
  xWhen t65 true (fun K => xEq P .eql 3 false true t66 (Value.int IntKind.i64 0) w K) w fun t67 w =>
  xPick t65 t67 (Value.bool false) w fun t68 w =>
  xWhen t68 true (fun K => K t62 w) w fun t69 w =>
  xWhen t68 true (fun K => K v11 w) w fun t70 w =>
  xWhen t68 true (fun K => xCall P nr.law4_Texts [t69, t70] w K) w fun t71 w =>
  xPick t68 t71 (Value.bool false) w fun t72 w =>
  xWhen t72 true (fun K => K t63 w) w fun t73 w =>
  xWhen t72 true (fun K => xLen P .pure #[54] t73 w K) w fun t74 w =>
  xWhen t72 true (fun K => K t21 w) w fun t75 w =>
  xWhen t72 true (fun K => xLen P .pure #[54] t75 w K) w fun t76 w =>
  xWhen t72 true (fun K => xBin P .add 3 t76 (Value.int IntKind.i64 1) w K) w fun t77 w =>
  xWhen t72 true (fun K => xEq P .eql 3 false false t74 t77 w K) w fun t78 w =>
  xPick t72 t78 (Value.bool false) w fun t79 w =>
  xWhen t79 true (fun K => K t63 w) w fun t80 w =>
  xWhen t79 true (fun K => K t21 w) w fun t81 w =>
  xWhen t79 true (fun K => xLen P .pure #[54] t81 w K) w fun t82 w =>
  xWhen t79 true (fun K => xIndexAddr P 54 t80 t82 w K) w fun t83 w =>
  xWhen t79 true (fun K => xLoad1 t83 w K) w fun t84 w =>
  xWhen t79 true (fun K => xConvK P .read 22 9 t84 w K) w fun t85 w =>
  xWhen t79 true (fun K => xEq P .eql 9 false true t85 (Value.string { data := #[109, 111, 114, 101] }) w K) w fun t86 w =>
  xPick t79 t86 (Value.bool false) w fun t87 w =>
  R t87 w))
def law6_SealKeeps_j2 (R : VCont) (X0 : LX) (v11 v12 v13 v14 : Value) (w : World) : Prop :=
  xBin P .add 3 v14 (Value.int IntKind.i64 1) w fun t134 w =>
  X0 [v11, v12, v13, t134] w
def law6_SealKeeps_l1 (R : VCont) (X0 : LX) (v0 v1 v5 v7 v11 v12 v13 v14 : Value) (w : World) : Prop :=
  xLen P .pure #[52] v0 w fun t129 w =>
  xBin P .lss 3 v14 t129 w fun t130 w =>
  xWhen t130 true (fun K => K v14 w) w fun t131 w =>
  xWhen t130 true (fun K => xBin P .lss 3 t131 (Value.int IntKind.i64 40) w K) w fun t132 w =>
  xPick t130 t132 (Value.bool false) w fun t133 w =>
  xIf t133
  (xIndexAddr P 52 v0 v14 w fun t135 w =>
  xLoadN 4 t135 w fun t136 w =>
  xAlloc P 58 w fun t137 w =>
  xStore P 58 t137 t136 w fun _ w =>
  xLoadN 4 t137 w fun t138 w =>
  xCall P nr.law6_few [t138] w fun t139 w =>
  xUn P .not t139 w fun t140 w =>
  xIf t140
  (xCall P nr.law6_told [] w fun t141 w =>
  R t141 w)
  (xOff (some 0) t137 w fun t142 w =>
  xLoad1 t142 w fun t143 w =>
  xEq P .eql 3 false true t143 (Value.int IntKind.i64 0) w fun t144 w =>
  xIf t144
  (xOff (some 2) t137 w fun t145 w =>
  xLoad1 t145 w fun t146 w =>
  xCall P nr.seal_Log_Put [v7, t146] w fun t147 w =>
  xEq P .eql 3 false true t147 (Value.int IntKind.i64 0) w fun t148 w =>
  xIf t148
  (xOff (some 2) t137 w fun t149 w =>
  xLoad1 t149 w fun t150 w =>
  xConvK P .read 22 9 t150 w fun t151 w =>
  xBuildSlice P 34 1 [(0, t151)] w fun t152 w =>
  xBuiltin P .append #[34, 34] 34 [false, false] [v12, t152] w fun t153 w =>
  law6_SealKeeps_j2 R X0 v11 t153 v13 v14 w)
  (xOff (some 2) t137 w fun t154 w =>
  xLoad1 t154 w fun t155 w =>
  xLen P .pure #[22] t155 w fun t156 w =>
  xBin P .gtr 3 t156 (Value.int IntKind.i64 0) w fun t157 w =>
  xIf t157
  (R (Value.bool false) w)
  (law6_SealKeeps_j2 R X0 v11 v12 v13 v14 w)))
  (xEq P .eql 3 false true t143 (Value.int IntKind.i64 1) w fun t158 w =>
  xIf t158
  (xCall P nr.seal_Log_Sync [v7] w fun t159 w =>
  xEq P .neq 3 false true t159 (Value.int IntKind.i64 0) w fun t160 w =>
  xIf t160
  (R (Value.bool false) w)
  (xLen P .pure #[34] v12 w fun t161 w =>
  law6_SealKeeps_j2 R X0 v11 v12 t161 v14 w))
  (xEq P .eql 3 false true t143 (Value.int IntKind.i64 2) w fun t162 w =>
  xIf t162
  (xOff (some 3) t137 w fun t163 w =>
  xLoad1 t163 w fun t164 w =>
  xCall P nr.seal_Log_Save [v7, t164] w fun t165 w =>
  xEq P .eql 3 false true t165 (Value.int IntKind.i64 0) w fun t166 w =>
  xIf t166
  (xOff (some 3) t137 w fun t167 w =>
  xLoad1 t167 w fun t168 w =>
  xCall P nr.law6_texts [t168] w fun t169 w =>
  law6_SealKeeps_j2 R X0 t169 (Value.slice none 0 0) (Value.int IntKind.i64 0) v14 w)
  (law6_SealKeeps_j2 R X0 v11 v12 v13 v14 w))
  (law6_SealKeeps_j2 R X0 v11 v12 v13 v14 w)))))
  (law6_SealKeeps_j0 R v1 v5 v11 v12 v13 w)
def law6_SealKeeps_main (R : VCont) (a0 a1 : Value) (w : World) : Prop :=
  xCall P nr.disk_New [(Value.int IntKind.i64 1000000)] w fun t1 w =>
  xExtract t1 0 w fun t2 w =>
  xExtract t1 1 w fun t3 w =>
  xEq P .neq 3 false true t3 (Value.int IntKind.i64 0) w fun t4 w =>
  xWhen t4 false (fun K => K t2 w) w fun t5 w =>
  xWhen t4 false (fun K => xEq P .eql 23 false true t5 (Value.pointer none) w K) w fun t6 w =>
  xPick t4 (Value.bool true) t6 w fun t7 w =>
  xIf t7
  (R (Value.bool false) w)
  (xCall P nr.seal_Open [t2] w fun t8 w =>
  xExtract t8 0 w fun t9 w =>
  xExtract t8 1 w fun t10 w =>
  xExtract t8 2 w fun t11 w =>
  xExtract t8 3 w fun t12 w =>
  xEq P .neq 3 false true t12 (Value.int IntKind.i64 0) w fun t13 w =>
  xWhen t13 false (fun K => K t9 w) w fun t14 w =>
  xWhen t13 false (fun K => xEq P .eql 53 false true t14 (Value.pointer none) w K) w fun t15 w =>
  xPick t13 (Value.bool true) t15 w fun t16 w =>
  xIf t16
  (R (Value.bool false) w)
  (Lp (fun X s w => law6_SealKeeps_l1 R X a0 a1 t2 t9 (s.getD 0 undef) (s.getD 1 undef) (s.getD 2 undef) (s.getD 3 undef) w) [(Value.slice none 0 0), (Value.slice none 0 0), (Value.int IntKind.i64 0), (Value.int IntKind.i64 0)] w))
def law6_SealKeeps_es (R : VCont) : List Ent := [
  .join fun Xs e w => law6_SealKeeps_j0 R (e 1) (e 5) (e 11) (e 12) (e 13) w,
  .loop [0, 1, 5, 7] [11, 12, 13, 14] fun Xs fx X s w => law6_SealKeeps_l1 R X (fx.getD 0 undef) (fx.getD 1 undef) (fx.getD 2 undef) (fx.getD 3 undef) (s.getD 0 undef) (s.getD 1 undef) (s.getD 2 undef) (s.getD 3 undef) w,
  .join fun Xs e w => law6_SealKeeps_j2 R (hx Xs) (e 11) (e 12) (e 13) (e 14) w]
theorem law6_SealKeeps_ok {R : VCont} {a0 a1 : Value} {w : World} (h : law6_SealKeeps_main R a0 a1 w) : Calls P nr.law6_SealKeeps [a0, a1].toArray w (Ret R) :=
  calls_of_sx (P := P) (fn := Try.f6) (Os := (fun _ => .no)) (Es := (law6_SealKeeps_es R)) (args := [a0, a1]) mixed (by kernel_rfl) (by kernel_rfl) (by kernel_rfl) (by kernel_rfl) (by kernel_rfl) (by kernel_rfl) (by kernel_rfl)
    (Eq.mp (show law6_SealKeeps_main R a0 a1 w = sxh P (fun _ => .no) (law6_SealKeeps_es R) [] 0 (bodyOf Try.f6) (retQ P Try.f6.results.toList R) (envOf [a0, a1]) w by kernel_rfl) h)
theorem law6_SealKeeps_call {R : VCont} {a0 a1 : Value} {w : World} (h : law6_SealKeeps_main R a0 a1 w) : xCall P nr.law6_SealKeeps [a0, a1] w R :=
  xCall_of (P := P) (fn := Try.f6) (by kernel_rfl) (by kernel_rfl) (by kernel_rfl) (law6_SealKeeps_ok h)

end Go.Proofs.Ytamejkogghpbhaa
end
section
/- SealKeeps: the law. -/
set_option linter.unusedVariables false
set_option linter.unusedSimpArgs false
namespace Go.Proofs.Ytamejkogghpbhaa
open Go.Sx
structure Op6 where
  kind : Int
  n : Int
  bsv : Value
  bs : List UInt8
  lsv : Value
  ls : List (List UInt8)
def op6cell (o : Op6) : List Value := [i64 o.kind, i64 o.n, o.bsv, o.lsv]
structure Op6Ok (W : World) (o : Op6) : Prop where
  n : -9223372036854775808 ≤ o.n ∧ o.n ≤ 9223372036854775807
  rd : Rd W o.bsv (o.bs.map bv)
  rl : RdBs W o.lsv o.ls
  len : o.bs.length ≤ 9223372036854775807
  ll : o.ls.length ≤ 9223372036854775807
  le : ∀ x ∈ o.ls, x.length ≤ 9223372036854775807
theorem RdBs.one {w : World} {v : Value} {xss : List (List UInt8)} (h : RdBs w v xss) : v.oneCell' = true := by
  obtain ⟨vs, ⟨_, _, rfl, _⟩, _⟩ := h; rfl
theorem Rd.one {w : World} {v : Value} {xs : List Value} (h : Rd w v xs) : v.oneCell' = true := by
  obtain ⟨_, _, rfl, _⟩ := h; rfl
theorem op6_one {W : World} {o : Op6} (h : Op6Ok W o) : ∀ u ∈ op6cell o, u.oneCell' = true := by
  intro u hu
  simp only [op6cell, List.mem_cons, List.not_mem_nil, or_false] at hu
  rcases hu with rfl | rfl | rfl | rfl
  · rfl
  · rfl
  · exact Rd.one h.rd
  · exact RdBs.one h.rl
theorem op6_at {ops : List Op6} {i : Nat} {o : Op6} (h : ops[i]? = some o) (r : Nat) (hr : r < 4) : (ops.flatMap op6cell)[i * 4 + r]? = (op6cell o)[r]? := by
  rw [List.flatMap_def]
  exact flatten_get (size := 4) (fun es hes => by obtain ⟨o, _, rfl⟩ := List.mem_map.1 hes; rfl) (by rw [List.getElem?_map, h]; rfl) hr
def fewP (o : Op6) : Prop := o.bs.length ≤ 100 ∧ o.ls.length ≤ 6 ∧ ∀ x ∈ o.ls, x.length ≤ 100
instance (o : Op6) : Decidable (fewP o) := inferInstanceAs (Decidable (_ ∧ _ ∧ _))
section
variable {W w : World} {K : VCont} {l : List Asn} {d p : Nat} {D : Ab} {S R : List (List UInt8)} {y : Nat} {v0 : Value}
theorem head_rd' {t e : TypeId} {i : TypeInfo} (ht : P.underlying t = some (.slice e)) (hi : P.info? e = some i) (hs : i.size = 1) {v : Value} {xs : List Value} (h : Rd w v xs) {k : Nat} (h1 : k ≤ xs.length) :
    ∃ v', (∀ (w2 : World) (C : VCont), xSlice P t v none (some (.int .i64 k)) none w2 C = C v' w2) ∧ ∀ w', Rd w' v xs → Rd w' v' (xs.take k) := by
  obtain ⟨v', h2, h3⟩ := slice_rd (P := P) ht hi hs h (lo := 0) (hi' := k) (Nat.zero_le _) h1
  refine ⟨v', fun w2 C => ?_, fun w' hr => by have := h3 w' hr; rwa [List.drop_zero] at this⟩
  rw [← h2 w2 C]
  obtain ⟨a, cap, rfl, hl, _⟩ := h
  rw [xSlice_slice ht hi (bounds_hi (by omega) (by omega)), xSlice_slice ht hi (bounds_lohi (by omega) (by omega) (by omega))]
  simp
theorem few_hp {o : Op6} (h : Hp w l) (hm : InpA W ∈ l) (ho : Op6Ok W o) (hK : ∀ w', Hp w' l → K (.bool (decide (fewP o))) w') : xCall P nr.law6_few [.agg (op6cell o).toArray] w K := by
  refine law6_few_call ?_
  unfold law6_few_main
  refine Hp.box h (cs := op6cell o) rfl ?_
  intro b w1 h
  have no : ∀ w', Hp w' l → ¬ fewP o → K (.bool false) w' := fun w' h hn => by have := hK w' h; rwa [show decide (fewP o) = false by simpa using hn] at this
  have hlb : ∀ (w : World) (K : VCont), xLen P .pure #[ty.s_uint8] o.bsv w K = K (i64 o.bs.length) w := fun w K => by rw [rd_len ho.rd und.s_uint8, List.length_map]
  have hll : ∀ (w : World) (K : VCont), xLen P .pure #[ty.s_s_uint8] o.lsv w K = K (i64 o.ls.length) w := fun w K => ho.rl.len und.s_s_uint8 w K
  simp only [xs, xb, Nat.zero_add, h.c0, op6cell, List.getElem?_cons_zero, List.getElem?_cons_succ, hlb]
  by_cases h1 : (100 : Int) < (o.bs.length : Int)
  · simp only [h1, xs, xd]
    exact no w1 h.tail fun hf => by have := hf.1; omega
  simp only [h1, xs, xb, xd, Nat.zero_add, h.c0, op6cell, List.getElem?_cons_zero, List.getElem?_cons_succ, hll]
  by_cases h2 : (6 : Int) < (o.ls.length : Int)
  · simp only [h2, xs, xd]
    exact no w1 h.tail fun hf => by have := hf.2.1; omega
  simp only [h2, xs, xd]
  refine Lp.gen (fun m s w' => w' = w1 ∧ ∃ i : Nat, m + i = o.ls.length ∧ s = [i64 i] ∧ ∀ x ∈ o.ls.take i, x.length ≤ 100) o.ls.length ⟨rfl, 0, by omega, rfl, by simp⟩ ?_
  rintro m s w' ⟨rfl, i, hi, rfl, hle⟩ X hX
  unfold law6_few_l1
  simp only [List.getD_cons_zero, xs, xb, Nat.zero_add, h.c0, op6cell, List.getElem?_cons_zero, List.getElem?_cons_succ, hll]
  by_cases hlt : i < o.ls.length
  · have hlt' : (i : Int) < (o.ls.length : Int) := by omega
    have hx := List.getElem?_eq_getElem hlt
    have hxm := List.getElem_mem hlt
    generalize o.ls[i] = x at hx hxm
    obtain ⟨p0, u, i0, q0, hru⟩ := (ho.rl.inp h (by simp [hm])).at und.s_s_uint8 inf.s_uint8 rfl hx
    have hlen : ∀ (w : World) (K : VCont), xLen P .pure #[ty.s_uint8] u w K = K (i64 x.length) w := fun w K => by rw [rd_len hru und.s_uint8, List.length_map]
    simp only [hlt', xs, xb, xd, Nat.zero_add, h.c0, op6cell, List.getElem?_cons_zero, List.getElem?_cons_succ, i0, q0, hlen]
    by_cases h3 : (100 : Int) < (x.length : Int)
    · simp only [h3, xs, xd]
      exact no w' h.tail fun hf => by have := hf.2.2 x hxm; omega
    · simp only [h3, xs, xd]
      rw [i64_succ (by omega)]
      refine hX (m - 1) _ _ ⟨rfl, i + 1, by omega, rfl, ?_⟩ (by omega)
      intro z hz
      rw [List.take_add_one, hx] at hz
      rcases List.mem_append.1 hz with hz | hz
      · exact hle z hz
      · simp at hz; subst hz; omega
  · have hlt' : ¬ (i : Int) < (o.ls.length : Int) := by omega
    simp only [hlt', xs, xd]
    unfold law6_few_j0
    rw [List.take_of_length_le (by omega)] at hle
    have := hK w' h.tail
    rwa [decide_eq_true (p := fewP o) ⟨by omega, by omega, hle⟩] at this
/-- behind the steps -/
theorem SealKeeps_j0 (keep : Int) (hk : -9223372036854775808 ≤ keep ∧ keep ≤ 9223372036854775807) (hK : ∀ w', Hp w' [InpA W] → K (.bool true) w') {va vb : Value} {age : Nat} (hage : age ≤ 40) (hR : R.length ≤ 40) (hRs : ∀ x ∈ R, x.length ≤ 100) (hS : S.length ≤ 6) (hSs : ∀ x ∈ S, x.length ≤ 100)
    (h : Hp w [LogA p d age R.length, DiskA d 1000000 D, SlA ty.string 1 va S.length (strs S), SlA ty.string 1 vb R.length (strs R), InpA W]) (ls : LS D age S R y) : law6_SealKeeps_j0 K (i64 keep) (ptr d) va vb (i64 y) w := by
  unfold law6_SealKeeps_j0
  refine Crash_ls h.pick1 ls keep hk ?_
  intro w1 lc h
  refine Open_ls h lc (by omega) ?_
  intro q vs vr w2 D2 m hm1 hm2 ls2 _ h
  -- q, vs, vr, disk, p, va, vb, inp
  have bs := h.pick1.ro
  simp only [xs, xb, xd, xEq_ptr und.p_seal_Log, Option.isNone_some]
  refine Texts_spec (A := S) (B := S) bs h.pick5.own.rd (by omega) ?_
  intro w3 hc3
  have h := h.keep' hc3
  have br := h.pick2.ro
  have rb := h.pick6.own.rd
  have hml : (R.take m).length = m := by rw [List.length_take]; omega
  have hmy : ¬ (m : Int) < (y : Int) := by omega
  have hmR : ¬ (R.length : Int) < (m : Int) := by omega
  obtain ⟨vh, ih, hh⟩ := head_rd' und.s_string inf.string rfl rb (k := m) (by rw [strs_len']; omega)
  simp only [xs, xb, xd, decide_true, br.len und.s_s_uint8, hml, hmy, rd_len rb und.s_string, strs_len', hmR, ih]
  have hst : strs (R.take m) = (strs R).take m := by simp [strs]
  refine Texts_spec (A := R.take m) (B := R.take m) br (by rw [hst]; exact hh w3 rb) (by omega) ?_
  intro w4 hc4
  have h := h.keep' hc4
  simp only [xs, xb, xd, decide_true]
  refine lit_hp [109, 111, 114, 101] h rfl (by kernel_rfl) (by omega) ?_
  intro v5 w5 h _
  have hu := ls2.used
  have hSf : (frames S).length ≤ 6 * 106 := Nat.le_trans (frames_le hSs) (Nat.mul_le_mul_right _ hS)
  have hRf : (frames (R.take m)).length ≤ 40 * 106 := Nat.le_trans (frames_le fun x hx => hRs x (List.mem_of_mem_take hx)) (Nat.mul_le_mul_right _ (by omega))
  have hfit : fits [109, 111, 114, 101] := by decide
  -- lit, q, vs, vr, disk, p, ..
  rw [show LogA q d (age : Int) m = LogA q d age (R.take m).length by rw [hml]] at h
  refine Put_ls (b := [109, 111, 114, 101]) h.pick4.pick2 ls2 (by omega) h.ro (by simp) (fun hn => absurd hfit hn) (fun _ hroom => by simp at hroom; omega) ?_
  intro _ w6 D3 ls3 h
  simp only [xs, xb, xd]
  refine Sync_ls h ls3 ?_
  intro w7 D4 ls4 h
  simp only [xs, xb, xd]
  refine Crash_ls h.pick1 ls4 0 (by omega) ?_
  intro w8 lc4 h
  refine Open_ls h lc4 (by simp; omega) ?_
  intro q2 vt vu w9 D5 m2 hm3 hm4 ls5 _ h
  have hm5 : m2 = (R.take m ++ [[109, 111, 114, 101]]).length := by omega
  subst hm5
  rw [List.take_length] at h
  simp only [xs]
  refine told6_hp h ?_
  intro w10 h
  -- q2, vt, vu, disk, q, lit, vs, vr, p, va, vb, inp
  have bt : RdBs w10 vt S := h.roAt 1 rfl
  have bu : RdBs w10 vu (R.take m ++ [[109, 111, 114, 101]]) := h.roAt 2 rfl
  have br : RdBs w10 vr (R.take m) := h.roAt 7 rfl
  have ra : Rd w10 va (strs S) := by
    obtain ⟨F, hF⟩ := h.mem (A := SlA ty.string 1 va S.length (strs S)) (by simp)
    exact hF.1.rd
  simp only [xs, xb, xd]
  refine Texts_spec (A := S) (B := S) bt ra (by omega) ?_
  intro w11 hc11
  have bu := bu.keep' hc11
  obtain ⟨p0, u0, i0, q0, r0⟩ := bu.at und.s_s_uint8 inf.s_uint8 rfl (k := m) (x := [109, 111, 114, 101]) (by rw [List.getElem?_append_right (by omega), hml]; simp)
  have hlu : (((R.take m ++ [[109, 111, 114, 101]]).length : Nat) : Int) = ((m + 1 : Nat) : Int) := by rw [List.length_append, hml]; rfl
  have hs1 : IntKind.i64.wrap ((m : Int) + 1) = ((m + 1 : Nat) : Int) := i64_succ (by omega)
  simp only [xs, xb, xd, decide_true, bu.len und.s_s_uint8, br.len und.s_s_uint8, hml, hlu, hs1, i0, q0, bytes_string und.s_uint8 und.uint8 und.string r0, xEq_str]
  exact hK w11 (Hp_only (h.keep' hc11) (by simp))
end
end Go.Proofs.Ytamejkogghpbhaa
end
section
/- Steps of a log that came in. -/
set_option linter.unusedVariables false
set_option linter.unusedSimpArgs false
namespace Go.Proofs.Ytamejkogghpbhaa
open Go.Sx Go.ChangeShapes Go.WideShapes Go.ChangeAt Go.RowKit
theorem four {α : Type} {cs : List α} (h : cs.length = 4) : ∃ a b c d, cs = [a, b, c, d] := by
  match cs, h with
  | [a, b, c, d], _ => exact ⟨a, b, c, d, rfl⟩
theorem open_op6 {W : World} {cs : List Value} (h : Rdt P W ty.law6_Op cs) : ∃ o, cs = op6cell o ∧ Op6Ok W o := by
  obtain ⟨a, b, c, d, rfl⟩ := four (h.len (n := 4) (by kernel_rfl))
  obtain ⟨k, hk, _⟩ := Rdt.i64 und.int (h.field (i := 0) (ft := ty.int) (off := 0) (sz := 1) (by kernel_rfl))
  obtain ⟨n, hn, hn2⟩ := Rdt.i64 und.int (h.field (i := 1) (ft := ty.int) (off := 1) (sz := 1) (by kernel_rfl))
  obtain ⟨v, bs, hv, hr, hl⟩ := Rdt.bytes und.s_uint8 und.uint8 (by kernel_rfl) (h.field (i := 2) (ft := ty.s_uint8) (off := 2) (sz := 1) (by kernel_rfl))
  have h3 := h.field (i := 3) (ft := ty.s_s_uint8) (off := 3) (sz := 1) (by kernel_rfl)
  simp at hk hn hv
  obtain ⟨xss, r1, r2, r3⟩ := open_bss (v := d) h3
  subst hk; subst hn; subst hv
  exact ⟨⟨k, n, c, bs, d, xss⟩, rfl, hn2, hr, r1, hl, r2, r3⟩
theorem open_ops6 {W : World} {v : Value} (h : Rdt P W ty.s_law6_Op [v]) : ∃ ops : List Op6, RdN W 4 v ops.length (ops.flatMap op6cell) ∧ ∀ o ∈ ops, Op6Ok W o := by
  obtain ⟨v', n, hv, _, ess, hl, hr, hes⟩ := h.slice (size := 4) und.s_law6_Op (by kernel_rfl)
  cases hv
  obtain ⟨ops, h1, h2⟩ := exists_list (n := ess.length) (p := fun i o => ess[i]? = some (op6cell o) ∧ Op6Ok W o) fun i hi => by
    obtain ⟨o, ho, hok⟩ := open_op6 (hes _ (List.getElem_mem hi)).2
    exact ⟨o, by rw [List.getElem?_eq_getElem hi, ho], hok⟩
  have he : ess = ops.map op6cell := by
    refine List.ext_getElem? fun i => ?_
    rw [List.getElem?_map]
    by_cases hi : i < ops.length
    · rw [(h2 i _ (List.getElem?_eq_getElem hi)).1, List.getElem?_eq_getElem hi]; rfl
    · rw [List.getElem?_eq_none (by omega), List.getElem?_eq_none (by omega)]; rfl
  refine ⟨ops, ?_, fun o ho => ?_⟩
  · rw [List.flatMap_def, ← he, h1, hl]; exact hr
  · obtain ⟨i, hi, rfl⟩ := List.getElem_of_mem ho
    exact (h2 i _ (List.getElem?_eq_getElem hi)).2
end Go.Proofs.Ytamejkogghpbhaa
end
