import Derived.Test.YtamejkogghpbhaaMg24
import Derived.Test.YtamejkogghpbhaaMg10
import Derived.Test.YtamejkogghpbhaaMg20
section
/- The document's log: Open. -/
set_option linter.unusedVariables false
set_option linter.unusedSimpArgs false
namespace Go.Proofs.Ytamejkogghpbhaa
open Go.Sx
section
variable {w : World} {K : VCont} {l : List Asn} {x room q n : Nat} {D : Ab} {age : Int}
theorem L_Open_j2_hp {vs vr : Value} {n0 : Int} {e0 : Bool} {U : List (List UInt8)} (h : Hp w (BlkA q ty.ref5_L [ptr x, i64 age, i64 n0, .bool e0] :: RoA (fun w => Rd w vr (strs U)) :: l)) (hU : U.length ≤ 10000000)
    (hK : ∀ vr' w', Hp w' (LB q x age (U.drop 1).length (decide (U = [])) :: RoA (fun w => Rd w vr' (strs (U.drop 1))) :: l) → K (.tuple #[ptr q, vs, vr']) w') : ref5_Open_j2 K (ptr q) vs vr w := by
  unfold ref5_Open_j2
  have hr := h.pick1.ro
  simp only [rd_len hr und.s_string, strs_len', xs, xb]
  have he : decide ((U.length : Int) = 0) = decide (U = []) := decide_eq_decide.2 ⟨fun h => List.eq_nil_of_length_eq_zero (by omega), fun h => by subst h; rfl⟩
  rw [he]
  refine Hp.st h inf.bool rfl rfl (by simp) ?_
  intro w1 h
  by_cases hpos : (0 : Int) < (U.length : Int)
  · obtain ⟨v', ex, hv'⟩ := tail_rd (P := P) und.s_string inf.string rfl hr (lo := 1) (by rw [strs_len']; omega)
    have ex' : ∀ (w2 : World) (C : VCont), xSlice P ty.s_string vr (some (.int .i64 1)) none none w2 C = C v' w2 := ex
    have h := (h.pick1.roMono (q := fun w => Rd w v' (strs (U.drop 1))) fun w hw => by have := hv' w hw; rwa [show (strs U).drop 1 = strs (U.drop 1) by simp [strs]] at this).pick1
    have hr2 := h.pick1.ro
    simp only [hpos, xs, xd, ex']
    unfold ref5_Open_j3
    simp only [rd_len hr2 und.s_string, strs_len', xs]
    refine Hp.st h inf.int rfl rfl (by simp) ?_
    intro w2 h
    exact hK v' w2 h
  · have hU0 : U = [] := List.eq_nil_of_length_eq_zero (by omega)
    subst hU0
    have hr2 := h.pick1.ro
    simp only [hpos, xs, xd]
    unfold ref5_Open_j3
    simp only [rd_len hr2 und.s_string, strs_len', xs]
    refine Hp.st h inf.int rfl rfl (by simp) ?_
    intro w2 h
    exact hK vr w2 h
theorem L_Open_j0_hp {vs : Value} {a2 : Int} {R : List (List UInt8)} {er : Nat} (h : Hp w (BlkA q ty.ref5_L [ptr x, i64 age, i64 0, .bool false] :: RA x room D :: l)) (hD : D.length ≤ 100000) (hage : 0 ≤ age) (hr : Keeps (acont D nlog) a2 R er) (hcl : (acont D nlog).length ≤ 1000000) (hRl : R.length ≤ 1000000)
    (hK : ∀ vr w' R' e', (R', e') = (if a2 = -1 ∨ a2 = age then (R, er) else ([], 0)) → Hp w' (LB q x age R'.length (decide (e' = 0)) :: RoA (fun w => Rd w vr (strs R')) :: RA x room (acut D nlog e').1 :: l) → K (.tuple #[ptr q, vs, vr]) w') : ref5_Open_j0 K (ptr x) (ptr q) vs w := by
  unfold ref5_Open_j0
  refine RA_Read h.pick1 hD _ ?_
  intro w1 c hc h
  simp only [xs]
  refine ref1_Read_hp h (Nat.le_trans hcl (by omega)) ?_
  intro vu w2 h
  have h := (SlA.ro h).drew
  -- ro vu, RA, q, l
  have hru := h.ro
  have hblk := h.pick2
  obtain ⟨g1, g2, g3, g4⟩ := keeps_fits hr
  simp only [xs, rd_len hru und.s_string, strs_len', xb]
  -- behind the choice
  have j1 : ∀ (w : World) (v : Value) (U : List (List UInt8)) (e' : Nat) (R' : List (List UInt8)), U.drop 1 = R' → (U = [] ↔ e' = 0) → U.length ≤ 10000000 → (R', e') = (if a2 = -1 ∨ a2 = age then (R, er) else ([], 0)) →
      Hp w (BlkA q ty.ref5_L [ptr x, i64 age, i64 0, .bool false] :: RoA (fun w => Rd w v (strs U)) :: RA x room D :: l) → ref5_Open_j1 K (ptr x) (ptr q) vs (i64 c) v (i64 e') w := by
    intro w v U e' R' hUR hUe hUl he h
    unfold ref5_Open_j1
    have fin : ∀ w, Hp w (BlkA q ty.ref5_L [ptr x, i64 age, i64 0, .bool false] :: RoA (fun w => Rd w v (strs U)) :: RA x room (acut D nlog e').1 :: l) → ref5_Open_j2 K (ptr q) vs v w := by
      intro w h
      refine L_Open_j2_hp h hUl ?_
      intro vr' w' h
      have hdec : decide (U = []) = decide (e' = 0) := decide_eq_decide.2 hUe
      rw [hUR, hdec] at h
      exact hK vr' w' R' e' he h
    cases hg : aget D nlog with
    | none =>
      have : c = 5 := by rw [hg] at hc; exact hc
      subst this
      simp only [xb, xs, xd, show ¬ (5 : Int) = 0 by omega]
      have eD : (acut D nlog e').1 = D := by unfold acut; rw [hg]
      exact fin w (by rw [eD]; exact h)
    | some z =>
      have : c = 0 := by rw [hg] at hc; exact hc
      subst this
      simp only [xb, xs, xd]
      refine RA_Cut h.pick2 hD _ _ ?_
      intro w' h
      exact fin w' h.put2
  cases hr with
  | no hu =>
    have hu' : unf ((acont D ⟨#[108, 111, 103]⟩).length + 1) (acont D ⟨#[108, 111, 103]⟩) = [] := hu
    rw [hu'] at h hru ⊢
    have hng : ¬ (0 : Int) < (([] : List (List UInt8)).length : Int) := by simp
    simp only [hng, xs, xb, xd, true_and]
    refine j1 _ vu [] 0 [] rfl (by simp) (by simp) (by rw [if_pos (.inl rfl)]) ?_
    exact h.pick2
  | is hu h0 h1 =>
    have hu' : unf ((acont D ⟨#[108, 111, 103]⟩).length + 1) (acont D ⟨#[108, 111, 103]⟩) = vint (zig a2) :: R := hu
    rw [hu'] at h hru ⊢
    have hpos : (0 : Int) < (((vint (zig a2) :: R).length : Nat) : Int) := by simp
    obtain ⟨p0, i0, q0⟩ := at_rd' und.s_string inf.string rfl hru (k := 0) (x := .string (bstr (vint (zig a2)))) rfl
    have i0' : ∀ (w2 : World) (C : VCont), xIndexAddr P ty.s_string vu (.int .i64 0) w2 C = C (.pointer (some p0)) w2 := i0
    simp only [hpos, xs, xb, xd, i0', q0 _ hru, Nat.zero_add, hblk.c0, List.getElem?_cons_zero, List.getElem?_cons_succ, true_and]
    refine gen_hp h a2 h0 h1 ?_
    intro w3 h
    have hblk := h.pick2
    simp only [xs, xb, xd, hblk.c0, Nat.zero_add, List.getElem?_cons_zero, List.getElem?_cons_succ, true_and, and_self]
    by_cases ha : a2 = age
    · subst ha
      simp only [xs, xb, xd, decide_true]
      refine j1 _ vu (vint (zig a2) :: R) (frames (vint (zig a2) :: R)).length R rfl ?_ (by simp; omega) (by rw [if_pos (.inr rfl)]) ?_
      · constructor
        · intro h; cases h
        · intro h; have := g3.1 h; omega
      · exact h.pick2
    · simp only [ha, xs, xb, xd]
      refine j1 _ (.slice none 0 0) [] 0 [] rfl (by simp) (by simp) (by rw [if_neg (by omega)]) ?_
      exact (Hp.roTrue h.pick2.pick1.tail fun w => ⟨none, 0, rfl, Nat.le_refl _, rfl⟩).pick1
theorem L_Open_hp (h : Hp w (RA x room D :: l)) (hD : D.length ≤ 100000) {a1 a2 : Int} {S R : List (List UInt8)} {es er : Nat} (hs : Keeps (acont D nsnap) a1 S es) (hr : Keeps (acont D nlog) a2 R er) (hc1 : (acont D nsnap).length ≤ 1000000) (hc2 : (acont D nlog).length ≤ 1000000) (hRl : R.length ≤ 1000000)
    (hK : ∀ q vs vr w' R' e', (R', e') = (if a2 = -1 ∨ a2 = max a1 0 then (R, er) else ([], 0)) → Hp w' (LB q x (max a1 0) R'.length (decide (e' = 0)) :: RoA (fun w => Rd w vs (strs S)) :: RoA (fun w => Rd w vr (strs R')) :: RA x room (lopen D e') :: l) → K (.tuple #[ptr q, vs, vr]) w') : xCall P nr.ref5_Open [ptr x] w K := by
  refine ref5_Open_call ?_
  unfold ref5_Open_main
  refine RA_Remove h hD _ ?_
  intro w1 h
  have hl1 := adel_len D nnext
  have e1 := acont_adel D nnext nsnap (by decide)
  have e2 := acont_adel D nnext nlog (by decide)
  rw [← e1] at hs hc1
  rw [← e2] at hr hc2
  have hE : ∀ e : Nat, (acut (adel D nnext).1 nlog e).1 = lopen D e := fun e => rfl
  replace h : Hp w1 (RA x room (adel D nnext).1 :: l) := h
  generalize hE' : (adel D nnext).1 = E at h hl1 hs hr hc1 hc2 hE
  have hb : ∀ K : VCont, xBuild P ty.ref5_L [(0, ptr x)] w1 K = K (.agg #[ptr x, i64 0, i64 0, .bool false]) w1 := fun K => by
    unfold xBuild
    exact xp_iff fun w' => by kernel_rfl
  rw [hb]
  refine Hp.box h (cs := [ptr x, i64 0, i64 0, .bool false]) rfl ?_
  intro q w2 h
  refine RA_Read h.pick1 (by omega) _ ?_
  intro w3 c _ h
  simp only [xs]
  refine ref1_Read_hp h (Nat.le_trans hc1 (by omega)) ?_
  intro vu w4 h
  have h := SlA.ro h
  have hru := h.ro
  simp only [xs, rd_len hru und.s_string, strs_len', xb]
  obtain ⟨f1, f2, f3, f4⟩ := keeps_fits hs
  cases hs with
  | no hu =>
    have hu' : unf ((acont E ⟨#[115, 110, 97, 112]⟩).length + 1) (acont E ⟨#[115, 110, 97, 112]⟩) = [] := hu
    rw [hu'] at h hru ⊢
    have hng : ¬ (0 : Int) < ((([] : List (List UInt8)).length : Nat) : Int) := by simp
    simp only [hng, xs, xd]
    have hm : max (-1 : Int) 0 = 0 := rfl
    rw [hm] at hK
    refine L_Open_j0_hp (l := RoA (fun w => Rd w vu (strs [])) :: l) h.pick1.pick2 (by omega) (by omega) hr hc2 hRl ?_
    intro vr w5 R' e' he h
    rw [hE] at h
    exact hK q vu vr w5 R' e' he h.pick3.pick1
  | is hu h0 h1 =>
    have hu' : unf ((acont E ⟨#[115, 110, 97, 112]⟩).length + 1) (acont E ⟨#[115, 110, 97, 112]⟩) = vint (zig a1) :: S := hu
    rw [hu'] at h hru ⊢
    have hpos : (0 : Int) < (((vint (zig a1) :: S).length : Nat) : Int) := by simp
    obtain ⟨p0, i0, q0⟩ := at_rd' und.s_string inf.string rfl hru (k := 0) (x := .string (bstr (vint (zig a1)))) rfl
    have i0' : ∀ (w2 : World) (C : VCont), xIndexAddr P ty.s_string vu (.int .i64 0) w2 C = C (.pointer (some p0)) w2 := i0
    obtain ⟨v', ex, hv'⟩ := tail_rd (P := P) und.s_string inf.string rfl hru (lo := 1) (by simp [strs])
    have ex' : ∀ (w2 : World) (C : VCont), xSlice P ty.s_string vu (some (.int .i64 1)) none none w2 C = C v' w2 := ex
    simp only [hpos, xs, xd, i0', q0 _ hru]
    refine gen_hp h a1 h0 h1 ?_
    intro w5 h
    simp only [xs, Nat.zero_add]
    refine Hp.st h.pick2 inf.int64 rfl rfl (by simp) ?_
    intro w6 h
    rw [ex']
    have hm : max a1 0 = a1 := by omega
    rw [hm] at hK
    have h := h.pick1.roMono (q := fun w => Rd w v' (strs S)) fun w hw => by have := hv' w hw; exact this
    -- ro, q, RA
    refine L_Open_j0_hp (l := RoA (fun w => Rd w v' (strs S)) :: l) h.put2.pick1.pick1 (by omega) h0 hr hc2 hRl ?_
    intro vr w7 R' e' he h
    rw [hE] at h
    exact hK q v' vr w7 R' e' he h.pick3.pick1
end
end Go.Proofs.Ytamejkogghpbhaa
end
section
/- Printed by wip/gen/gen.py: the shallow texts of some functions. -/
set_option linter.unusedVariables false
namespace Go.Proofs.Ytamejkogghpbhaa
open Go.Sx

/-! sojourn/sojournlaw6.SealPlays: function 10 -/
def law6_SealPlays_j0 (R : VCont) (w : World) : Prop :=
  xCall P nr.law6_told [] w fun t26 w =>
  R t26 w
def law6_SealPlays_j2 (R : VCont) (X0 : LX) (v9 v13 v16 : Value) (w : World) : Prop :=
  xBin P .add 3 v16 (Value.int IntKind.i64 1) w fun t218 w =>
  X0 [v9, v13, t218] w
def law6_SealPlays_l4 (R : VCont) (X1 X0 : LX) (v6 v8 v9 v13 v16 v171 v172 v173 : Value) (w : World) : Prop :=
  xBin P .lss 3 v173 v172 w fun t292 w =>
  xIf t292
  (xIndexAddr P 34 v171 v173 w fun t293 w =>
  xLoad1 t293 w fun t294 w =>
  xCall P nr.disk_Disk_Read [v6, t294] w fun t295 w =>
  xExtract t295 0 w fun t296 w =>
  xExtract t295 1 w fun t297 w =>
  xCall P nr.ref5_D_Read [v8, t294] w fun t298 w =>
  xExtract t298 0 w fun t299 w =>
  xExtract t298 1 w fun t300 w =>
  Sx.dr w fun w =>
  xEq P .neq 3 false false t297 t300 w fun t301 _ =>
  xWhen t301 false (fun K => K t296 w) w fun t302 _ =>
  xWhen t301 false (fun K => xConvK P .read 22 9 t302 w K) w fun t303 w' =>
  w' = w ∧
  xWhen t301 false (fun K => K t299 w) w fun t304 _ =>
  xWhen t301 false (fun K => xEq P .neq 9 false false t303 t304 w K) w fun t305 _ =>
  xPick t301 (Value.bool true) t305 w fun t306 _ =>
  xWhen t306 false (fun K => K t297 w) w fun t307 _ =>
  xWhen t306 false (fun K => xEq P .eql 3 false true t307 (Value.int IntKind.i64 0) w K) w fun t308 _ =>
  xWhen t306 false (fun K => K t308 w) w fun t309 _ =>
  xWhen t309 true (fun K => K v6 w) w fun t310 _ =>
  xWhen t309 true (fun K => K t294 w) w fun t311 _ =>
  xWhen t309 true (fun K => K v8 w) w fun t312 _ =>
  xWhen t309 true (fun K => xNil t312 w K) w fun t313 _ =>
  xWhen t309 true (fun K => xOff (some 1) t313 w K) w fun t314 _ =>
  xWhen t309 true (fun K => xLoad1 t314 w K) w fun t315 w' =>
  w' = w ∧
  xWhen t309 true (fun K => K v8 w) w fun t316 _ =>
  xWhen t309 true (fun K => K t294 w) w fun t317 _ =>
  xWhen t309 true (fun K => K v8 w) w fun t318 _ =>
  xWhen t309 true (fun K => xNil t318 w K) w fun t319 _ =>
  xWhen t309 true (fun K => xOff (some 1) t319 w K) w fun t320 _ =>
  xWhen t309 true (fun K => xLoad1 t320 w K) w fun t321 w' =>
  w' = w ∧
  xWhen t309 true (fun K => K v8 w) w fun t322 _ =>
  xWhen t309 true (fun K => K t294 w) w fun t323 _ =>
  xWhen t309 true (fun K => xCall P nr.disk_Disk_Synced [t310, t311] w K) w fun t324 w =>
  (xWhen t309 true (fun K => xLoad1 t320 w K) w fun t325 w' =>
  w' = w ∧ t325 = t321) ∧
  (xWhen t309 true (fun K => xLoad1 t314 w K) w fun t326 w' =>
  w' = w ∧ t326 = t315) ∧
  xWhen t309 true (fun K => xCall P nr.law6_at [t316, t317] w K) w fun t327 w =>
  (xWhen t309 true (fun K => xLoad1 t320 w K) w fun t328 w' =>
  w' = w ∧ t328 = t321) ∧
  (xWhen t309 true (fun K => xLoad1 t314 w K) w fun t329 w' =>
  w' = w ∧ t329 = t315) ∧
  xWhen t309 true (fun K => xIndexAddr P 41 t315 t327 w K) w fun t330 _ =>
  xWhen t309 true (fun K => xOff (some 1) t330 w K) w fun t331 _ =>
  xWhen t309 true (fun K => xLoad1 t331 w K) w fun t332 w' =>
  w' = w ∧
  xWhen t309 true (fun K => xCall P nr.law6_at [t322, t323] w K) w fun t333 w =>
  (xWhen t309 true (fun K => xLoad1 t331 w K) w fun t334 w' =>
  w' = w ∧ t334 = t332) ∧
  (xWhen t309 true (fun K => xLoad1 t320 w K) w fun t335 w' =>
  w' = w ∧ t335 = t321) ∧
  (xWhen t309 true (fun K => xLoad1 t314 w K) w fun t336 w' =>
  w' = w ∧ t336 = t315) ∧
  xWhen t309 true (fun K => xIndexAddr P 41 t321 t333 w K) w fun t337 _ =>
  xWhen t309 true (fun K => xOff (some 2) t337 w K) w fun t338 _ =>
  xWhen t309 true (fun K => xLoad1 t338 w K) w fun t339 w' =>
  w' = w ∧
  xWhen t309 true (fun K => xSlice P 9 t332 none (some t339) none w K) w fun t340 _ =>
  xWhen t309 true (fun K => xLen P .pure #[9] t340 w K) w fun t341 _ =>
  xWhen t309 true (fun K => xEq P .neq 3 false false t324 t341 w K) w fun t342 _ =>
  xWhen t306 false (fun K => xPick t309 t342 (Value.bool false) w K) w fun t343 _ =>
  xPick t306 (Value.bool true) t343 w fun t344 _ =>
  xIf t344
  (R (Value.bool false) w)
  (xBin P .add 3 v173 (Value.int IntKind.i64 1) w fun t345 w =>
  X1 [t345] w))
  (law6_SealPlays_j2 R X0 v9 v13 v16 w)
def law6_SealPlays_j3 (R : VCont) (X0 : LX) (v6 v8 v9 v13 v16 v18 v19 : Value) (w : World) : Prop :=
  Sx.dr w fun w =>
  xEq P .neq 3 false false v18 v19 w fun t226 _ =>
  xWhen t226 false (fun K => K v9 w) w fun t227 _ =>
  xWhen t226 false (fun K => K v13 w) w fun t228 _ =>
  xWhen t226 false (fun K => xNil t228 w K) w fun t229 _ =>
  xWhen t226 false (fun K => xOff (some 2) t229 w K) w fun t230 _ =>
  xWhen t226 false (fun K => xLoad1 t230 w K) w fun t231 w' =>
  w' = w ∧
  xWhen t226 false (fun K => xCall P nr.seal_Log_Len [t227] w K) w fun t232 w =>
  (xWhen t226 false (fun K => xLoad1 t230 w K) w fun t233 w' =>
  w' = w ∧ t233 = t231) ∧
  xWhen t226 false (fun K => xEq P .neq 3 false false t232 t231 w K) w fun t234 _ =>
  xPick t226 (Value.bool true) t234 w fun t235 _ =>
  xIf t235
  (R (Value.bool false) w)
  (xBuildSlice P 34 3 [(0, (Value.string { data := #[115, 110, 97, 112] })), (1, (Value.string { data := #[108, 111, 103] })), (2, (Value.string { data := #[110, 101, 120, 116] }))] w fun t236 w =>
  xLen P .pure #[34] t236 w fun t237 w =>
  Lp (fun X s w => law6_SealPlays_l4 R X X0 v6 v8 v9 v13 v16 t236 t237 (s.getD 0 undef) w) [(Value.int IntKind.i64 0)] w)
def law6_SealPlays_l1 (R : VCont) (X0 : LX) (v1 v6 v8 v9 v13 v16 : Value) (w : World) : Prop :=
  xLen P .pure #[52] v1 w fun t213 w =>
  xBin P .lss 3 v16 t213 w fun t214 w =>
  xWhen t214 true (fun K => K v16 w) w fun t215 w =>
  xWhen t214 true (fun K => xBin P .lss 3 t215 (Value.int IntKind.i64 60) w K) w fun t216 w =>
  xPick t214 t216 (Value.bool false) w fun t217 w =>
  xIf t217
  (xIndexAddr P 52 v1 v16 w fun t219 w =>
  xLoadN 4 t219 w fun t220 w =>
  xAlloc P 58 w fun t221 w =>
  xStore P 58 t221 t220 w fun _ w =>
  xLoadN 4 t221 w fun t222 w =>
  xCall P nr.law6_few [t222] w fun t223 w =>
  xUn P .not t223 w fun t224 w =>
  xIf t224
  (xCall P nr.law6_told [] w fun t225 w =>
  R t225 w)
  (xOff (some 0) t221 w fun t346 w =>
  xLoad1 t346 w fun t347 w =>
  xEq P .eql 3 false true t347 (Value.int IntKind.i64 0) w fun t348 w =>
  xIf t348
  (Sx.dr w fun w =>
  xOff (some 2) t221 w fun t349 _ =>
  xLoad1 t349 w fun t350 w' =>
  w' = w ∧
  xOff (some 2) t221 w fun t351 _ =>
  xLoad1 t351 w fun t352 w' =>
  w' = w ∧
  xConvK P .read 22 9 t352 w fun t353 w' =>
  w' = w ∧
  xCall P nr.seal_Log_Put [v9, t350] w fun t354 w =>
  (xConvK P .read 22 9 t352 w fun t355 w' =>
  w' = w ∧ t355 = t353) ∧
  (xLoad1 t351 w fun t356 w' =>
  w' = w ∧ t356 = t352) ∧
  xCall P nr.ref5_L_Put [v13, t353] w fun t357 w =>
  law6_SealPlays_j3 R X0 v6 v8 v9 v13 v16 t354 t357 w)
  (xEq P .eql 3 false true t347 (Value.int IntKind.i64 1) w fun t358 w =>
  xIf t358
  (xCall P nr.seal_Log_Sync [v9] w fun t359 w =>
  xCall P nr.ref5_L_Sync [v13] w fun t360 w =>
  law6_SealPlays_j3 R X0 v6 v8 v9 v13 v16 t359 t360 w)
  (xEq P .eql 3 false true t347 (Value.int IntKind.i64 2) w fun t361 w =>
  xIf t361
  (Sx.dr w fun w =>
  xOff (some 3) t221 w fun t362 _ =>
  xLoad1 t362 w fun t363 w' =>
  w' = w ∧
  xOff (some 3) t221 w fun t364 _ =>
  xLoad1 t364 w fun t365 w' =>
  w' = w ∧
  xCall P nr.seal_Log_Save [v9, t363] w fun t366 w =>
  (xLoad1 t364 w fun t367 w' =>
  w' = w ∧ t367 = t365) ∧
  xCall P nr.law6_texts [t365] w fun t368 w =>
  xCall P nr.ref5_L_Save [v13, t368] w fun t369 w =>
  law6_SealPlays_j3 R X0 v6 v8 v9 v13 v16 t366 t369 w)
  (xOff (some 1) t221 w fun t370 w =>
  xLoad1 t370 w fun t371 w =>
  xCall P nr.disk_Disk_Crash [v6, t371] w fun t372 w =>
  xOff (some 1) t221 w fun t373 w =>
  xLoad1 t373 w fun t374 w =>
  xCall P nr.ref5_D_Crash [v8, t374] w fun t375 w =>
  xCall P nr.seal_Open [v6] w fun t376 w =>
  xExtract t376 0 w fun t377 w =>
  xExtract t376 1 w fun t378 w =>
  xExtract t376 2 w fun t379 w =>
  xExtract t376 3 w fun t380 w =>
  xCall P nr.ref5_Open [v8] w fun t381 w =>
  xExtract t381 0 w fun t382 w =>
  xExtract t381 1 w fun t383 w =>
  xExtract t381 2 w fun t384 w =>
  xEq P .neq 3 false true t380 (Value.int IntKind.i64 0) w fun t385 w =>
  xWhen t385 false (fun K => K t377 w) w fun t386 w =>
  xWhen t385 false (fun K => xEq P .eql 53 false true t386 (Value.pointer none) w K) w fun t387 w =>
  xPick t385 (Value.bool true) t387 w fun t388 w =>
  xWhen t388 false (fun K => K t378 w) w fun t389 w =>
  xWhen t388 false (fun K => K t383 w) w fun t390 w =>
  xWhen t388 false (fun K => xCall P nr.law4_Texts [t389, t390] w K) w fun t391 w =>
  xWhen t388 false (fun K => xUn P .not t391 w K) w fun t392 w =>
  xPick t388 (Value.bool true) t392 w fun t393 w =>
  xWhen t393 false (fun K => K t379 w) w fun t394 w =>
  xWhen t393 false (fun K => K t384 w) w fun t395 w =>
  xWhen t393 false (fun K => xCall P nr.law4_Texts [t394, t395] w K) w fun t396 w =>
  xWhen t393 false (fun K => xUn P .not t396 w K) w fun t397 w =>
  xPick t393 (Value.bool true) t397 w fun t398 w =>
  xIf t398
  (R (Value.bool false) w)
  (law6_SealPlays_j3 R X0 v6 v8 t377 t382 v16 (Value.int IntKind.i64 0) (Value.int IntKind.i64 0) w))))))
  (law6_SealPlays_j0 R w)
def law6_SealPlays_main (R : VCont) (a0 a1 : Value) (w : World) : Prop :=
  xConvK P .pure 3 35 a0 w fun t1 w =>
  xBin P .rem 35 t1 (Value.int IntKind.u64 3001) w fun t2 w =>
  xConvK P .pure 35 3 t2 w fun t3 w =>
  xCall P nr.disk_New [t3] w fun t4 w =>
  xExtract t4 0 w fun t5 w =>
  xExtract t4 1 w fun t6 w =>
  xEq P .neq 3 false true t6 (Value.int IntKind.i64 0) w fun t7 w =>
  xWhen t7 false (fun K => K t5 w) w fun t8 w =>
  xWhen t7 false (fun K => xEq P .eql 23 false true t8 (Value.pointer none) w K) w fun t9 w =>
  xPick t7 (Value.bool true) t9 w fun t10 w =>
  xIf t10
  (R (Value.bool false) w)
  (xBuild P 43 [(0, t3)] w fun t11 w =>
  xBox P 43 t11 w fun t12 w =>
  xCall P nr.seal_Open [t5] w fun t13 w =>
  xExtract t13 0 w fun t14 w =>
  xExtract t13 1 w fun t15 w =>
  xExtract t13 2 w fun t16 w =>
  xExtract t13 3 w fun t17 w =>
  xCall P nr.ref5_Open [t12] w fun t18 w =>
  xExtract t18 0 w fun t19 w =>
  xExtract t18 1 w fun t20 w =>
  xExtract t18 2 w fun t21 w =>
  xEq P .neq 3 false true t17 (Value.int IntKind.i64 0) w fun t22 w =>
  xWhen t22 false (fun K => K t14 w) w fun t23 w =>
  xWhen t22 false (fun K => xEq P .eql 53 false true t23 (Value.pointer none) w K) w fun t24 w =>
  xPick t22 (Value.bool true) t24 w fun t25 w =>
  xIf t25
  (R (Value.bool false) w)
  (Lp (fun X s w => law6_SealPlays_l1 R X a1 t5 t12 (s.getD 0 undef) (s.getD 1 undef) (s.getD 2 undef) w) [t14, t19, (Value.int IntKind.i64 0)] w))
def law6_SealPlays_os (i : Nat) : OT := cond (Nat.beq i 26) (.fl 0 (.fl 1 (.fl 2 (.fl 4 (.fl 5 (.fl 6 (.fl 7 (.an 3 (.an 8 (.fl 9 (.fl 10 .done)) .no) .no)))))))) (cond (Nat.beq i 30) (.fl 0 (.fl 1 (.fl 2 (.fl 4 (.fl 5 (.fl 6 (.an 3 (.an 7 (.an 8 (.fl 9 (.fl 10 .done)) .no) .no) .no))))))) (cond (Nat.beq i 31) (.fl 0 (.fl 1 (.fl 2 (.fl 3 (.fl 4 (.fl 6 (.fl 7 (.fl 8 (.fl 9 (.an 5 (.fl 10 (.fl 11 .done)) .no)))))))))) (cond (Nat.beq i 38) (.fl 0 (.fl 1 (.fl 2 (.fl 3 (.fl 4 (.fl 5 (.fl 6 (.fl 7 (.fl 8 (.fl 9 (.fl 10 (.fl 11 (.fl 12 (.fl 13 (.fl 14 (.fl 16 (.fl 17 (.fl 18 (.fl 19 (.fl 20 (.fl 21 (.fl 26 (.fl 27 (.fl 28 (.fl 29 (.fl 30 (.fl 31 (.an 15 (.an 22 (.fl 23 (.fl 24 (.fl 25 (.an 32 (.fl 33 (.fl 34 (.fl 35 (.fl 36 (.fl 37 (.fl 38 (.fl 39 (.fl 40 .done)))))))) .no)))) .no) .no)))))))))))))))))))))))))))) (.no))))
def law6_SealPlays_es (R : VCont) : List Ent := [
  .join fun Xs e w => law6_SealPlays_j0 R  w,
  .loop [1, 6, 8] [9, 13, 16] fun Xs fx X s w => law6_SealPlays_l1 R X (fx.getD 0 undef) (fx.getD 1 undef) (fx.getD 2 undef) (s.getD 0 undef) (s.getD 1 undef) (s.getD 2 undef) w,
  .join fun Xs e w => law6_SealPlays_j2 R (hx Xs) (e 9) (e 13) (e 16) w,
  .join fun Xs e w => law6_SealPlays_j3 R (hx Xs) (e 6) (e 8) (e 9) (e 13) (e 16) (e 18) (e 19) w,
  .loop [6, 8, 9, 13, 16, 171, 172] [173] fun Xs fx X s w => law6_SealPlays_l4 R X (hx Xs) (fx.getD 0 undef) (fx.getD 1 undef) (fx.getD 2 undef) (fx.getD 3 undef) (fx.getD 4 undef) (fx.getD 5 undef) (fx.getD 6 undef) (s.getD 0 undef) w]
theorem law6_SealPlays_ok {R : VCont} {a0 a1 : Value} {w : World} (h : law6_SealPlays_main R a0 a1 w) : Calls P nr.law6_SealPlays [a0, a1].toArray w (Ret R) :=
  calls_of_sx (P := P) (fn := Try.f10) (Os := law6_SealPlays_os) (Es := (law6_SealPlays_es R)) (args := [a0, a1]) mixed (by kernel_rfl) (by kernel_rfl) (by kernel_rfl) (by kernel_rfl) (by kernel_rfl) (by kernel_rfl) (by kernel_rfl)
    (Eq.mp (show law6_SealPlays_main R a0 a1 w = sxh P law6_SealPlays_os (law6_SealPlays_es R) [] 0 (bodyOf Try.f10) (retQ P Try.f10.results.toList R) (envOf [a0, a1]) w by kernel_rfl) h)
theorem law6_SealPlays_call {R : VCont} {a0 a1 : Value} {w : World} (h : law6_SealPlays_main R a0 a1 w) : xCall P nr.law6_SealPlays [a0, a1] w R :=
  xCall_of (P := P) (fn := Try.f10) (by kernel_rfl) (by kernel_rfl) (by kernel_rfl) (law6_SealPlays_ok h)

end Go.Proofs.Ytamejkogghpbhaa
end
section
/- SealPlays: what stands behind a step. -/
set_option linter.unusedVariables false
set_option linter.unusedSimpArgs false
namespace Go.Proofs.Ytamejkogghpbhaa
open Go.Sx
/-- what the log's cut leaves is empty only when it is cut to nothing -/
theorem lopen_cont {D : Ab} {a2 : Int} {R : List (List UInt8)} {er : Nat} (ht : Two D) (hr : Keeps (acont D nlog) a2 R er) : decide (er = 0) = decide (acont (lopen D er) nlog = []) := by
  refine decide_eq_decide.2 ?_
  unfold lopen
  rw [ht.del]
  unfold acut
  cases hg : aget D nlog with
  | none =>
    have hc : acont D nlog = [] := by unfold acont; rw [hg]; rfl
    simp only [hc]
    constructor
    · intro _; trivial
    · intro _
      rw [hc] at hr
      cases hr with
      | no _ => rfl
      | is h _ _ => cases h
  | some z =>
    have hc : acont D nlog = z.1 := by unfold acont; rw [hg]; rfl
    have hne : er ≠ 0 → z.1 ≠ [] := by
      intro h0 e
      rw [hc, e] at hr
      cases hr with
      | no _ => exact h0 rfl
      | is h _ _ => cases h
    simp only
    by_cases hlt : (er : Int) < 0 ∨ (z.1.length : Int) < er
    · rw [if_pos hlt]
      have : er ≠ 0 := by omega
      simp only [hc]
      exact ⟨fun h => absurd h this, fun h => absurd h (hne this)⟩
    · rw [if_neg hlt]
      have e : acont (aset D nlog (z.1.take (er : Int).toNat, (er : Int).toNat)) nlog = z.1.take er := by
        unfold acont; rw [aget_aset, if_pos rfl, hg]; simp
      simp only [e]
      constructor
      · intro h; subst h; rfl
      · intro h
        rcases Nat.eq_zero_or_pos er with h0 | h0
        · exact h0
        · have h1 := hne (by omega)
          have := congrArg List.length h
          rw [List.length_take, List.length_nil] at this
          have h2 : z.1.length ≠ 0 := fun e => h1 (List.eq_nil_of_length_eq_zero e)
          omega
theorem LS.cont {D : Ab} {age : Int} {S R : List (List UInt8)} {y : Nat} (h : LS D age S R y) (hR : R ≠ []) : acont D nlog ≠ [] := by
  obtain ⟨c, sy, hg, hs, hc, hy⟩ := h.log
  have hcont : acont D nlog = c := by
    unfold acont
    rcases hg with hg | ⟨hg, rfl, rfl⟩ <;> rw [hg] <;> rfl
  rw [hcont]
  rcases hc with ⟨_, hc⟩ | hc
  · exact absurd hc hR
  · rw [hc]; exact logc_ne age R
theorem acont_async (D : Ab) (a b : ByteArray) : acont (async D a).1 b = acont D b := by
  unfold async
  cases hg : aget D a with
  | none => rfl
  | some z =>
    simp only
    unfold acont
    rw [aget_aset]
    split
    · rename_i e; subst e; rw [hg]; rfl
    · rfl
section
variable {w : World} {K : VCont} {l : List Asn} {d p q x n room : Nat} {D : Ab} {age : Int} {R : List RF}
theorem RA_bd (h : Hp w (RA x room D :: l)) : Bd room D := (RA.op.1 h).choose_spec.1.2
theorem law6_at_hp {r0 sv : Value} (h : Hp w (BlkA x ty.ref5_D [r0, sv] :: SlA ty.ref5_File 3 sv R.length (flat R) :: l)) (hl : R.length ≤ 1000000) {a : ByteArray} (hat : isAt R a = true) (hK : K (i64 (idx R a)) w) : xCall P nr.law6_at [ptr x, .string a] w K := by
  refine law6_at_call ?_
  unfold law6_at_main
  obtain ⟨r, hr, hra⟩ := isAt_some hat
  have hlt := (List.getElem?_eq_some_iff.1 hr).1
  refine Lp.gen (fun m s w' => w' = w ∧ ∃ i : Nat, m + i = R.length ∧ s = [i64 i] ∧ i ≤ idx R a) R.length ⟨rfl, 0, by omega, rfl, by omega⟩ ?_
  rintro m s w' ⟨rfl, i, hm, rfl, hi⟩ X hX
  unfold law6_at_l1
  have hli : i < R.length := by omega
  have hli' : (i : Int) < (R.length : Int) := by omega
  obtain ⟨g, hg, ix, hc⟩ := own_at (size := 3) und.s_ref5_File inf.ref5_File rfl h.pick1.own hli
  have hf := flat_get (List.getElem?_eq_getElem hli)
  have hc0 := hc _ _ hf.1
  simp only [List.getD_cons_zero, xs, xb, xd, Nat.zero_add, h.c0, List.getElem?_cons_zero, List.getElem?_cons_succ, len_own_eq und.s_ref5_File h.pick1.own, hli', ix, Nat.add_zero, hc0]
  rw [xEq_str]
  rcases Nat.lt_or_ge i (idx R a) with h1 | h1
  · have hne : R[i].1 ≠ a := by
      intro e
      have := idx_take (R := R) (a := a) R[i] (by rw [List.mem_take_iff_getElem]; exact ⟨i, by omega, rfl⟩)
      rw [e, slt_irrefl] at this; cases this
    simp only [hne, xs, xb, xd, decide_false]
    rw [i64_succ (by omega)]
    exact hX (m - 1) _ _ ⟨rfl, i + 1, by omega, rfl, by omega⟩ (by omega)
  · have : i = idx R a := by omega
    subst this
    have he : R[idx R a].1 = a := by rw [List.getElem?_eq_getElem hlt] at hr; cases hr; exact hra
    simp only [he, xs, xb, xd, decide_true]
    exact hK
end
end Go.Proofs.Ytamejkogghpbhaa
end
section
/- SealPlays: the two logs and the two disks, behind a step. -/
set_option linter.unusedVariables false
set_option linter.unusedSimpArgs false
namespace Go.Proofs.Ytamejkogghpbhaa
open Go.Sx
section
variable {w : World} {K : VCont} {l : List Asn} {d p q x n room : Nat} {D : Ab} {age : Int}
def nm3 : List ByteArray := [⟨#[115, 110, 97, 112]⟩, ⟨#[108, 111, 103]⟩, ⟨#[110, 101, 120, 116]⟩]
theorem SPlays_l4 {X0 : LX} {v v9 v13 v16 : Value} (h : Hp w (SlA ty.string 1 v 3 (nm3.map .string) :: DiskA d room D :: RA x room D :: l)) (hD : D.length ≤ 100000) (hK : ∀ w', Hp w' (DiskA d room D :: RA x room D :: l) → law6_SealPlays_j2 K X0 v9 v13 v16 w') :
    Lp (fun X s w => law6_SealPlays_l4 K X X0 (ptr d) (ptr x) v9 v13 v16 v (i64 3) (s.getD 0 undef) w) [i64 0] w := by
  refine Lp.gen (fun m s w' => ∃ i : Nat, m + i = 3 ∧ s = [i64 i] ∧ Hp w' (SlA ty.string 1 v 3 (nm3.map .string) :: DiskA d room D :: RA x room D :: l)) 3 ⟨0, by omega, rfl, h⟩ ?_
  rintro m s w1 ⟨i, hm, rfl, h⟩ X hX
  unfold law6_SealPlays_l4
  simp only [List.getD_cons_zero, xs, xb]
  by_cases h3 : i < 3
  rotate_left
  · have h3' : ¬ (i : Int) < 3 := by omega
    simp only [h3', xs, xd]
    exact hK w1 h.tail
  have h3' : (i : Int) < 3 := by omega
  obtain ⟨a, ha⟩ : ∃ a, nm3[i]? = some a := ⟨nm3[i]'(by simp [nm3]; omega), List.getElem?_eq_getElem _⟩
  obtain ⟨p0, i0, q0⟩ := at_rd' und.s_string inf.string rfl h.own.rd (k := i) (x := .string a) (by rw [List.getElem?_map, ha]; rfl)
  simp only [h3', xs, xd, i0, q0 _ h.own.rd]
  refine Read_hp1 h.pick1 a ?_
  intro u w2 c hc hu1 h
  simp only [xs]
  -- u, disk, names, ref
  refine RA_Read h.pick3 hD a ?_
  intro w3 c' hc' h
  have hcc : c' = c := by rw [hc, hc']
  subst hcc
  have h := h.drew
  -- ref, u, disk, names
  have hru := h.pick1.ro
  have hcv : ∀ (C : VCont), xConvK P .read ty.s_uint8 ty.string u w3.drew C = C (.string (bstr (acont D a))) w3.drew := fun C => bytes_string und.s_uint8 und.uint8 und.string hru
  simp only [xs, xb, xd, hcv, xNe_str, decide_true, true_and]
  have next : ∀ w, Hp w (SlA ty.string 1 v 3 (nm3.map .string) :: DiskA d room D :: RA x room D :: l) → X [.int .i64 (IntKind.i64.wrap ((i : Int) + 1))] w := by
    intro w h
    rw [i64_succ (by omega)]
    exact hX (m - 1) _ _ ⟨i + 1, by omega, rfl, h⟩ (by omega)
  have hback : Hp w3.drew (SlA ty.string 1 v 3 (nm3.map .string) :: DiskA d room D :: RA x room D :: l) := (h.pick1.tail).pick1.pick2
  cases hg : aget D a with
  | none =>
    have : c' = 5 := by rw [hg] at hc'; exact hc'
    subst this
    simp only [xs, xb, xd, show ¬ (5 : Int) = 0 by omega, decide_false, true_and, and_self]
    exact next _ hback
  | some z =>
    have : c' = 0 := by rw [hg] at hc'; exact hc'
    subst this
    obtain ⟨R, ⟨hr, hb⟩, h⟩ := RA.op.1 h
    obtain ⟨sv, h⟩ := RefB.open'.1 h
    -- blk, sl, u, disk, names
    have hat : isAt R a = true := by rw [hr.at a, hg]; rfl
    obtain ⟨r, hri, hra⟩ := isAt_some hat
    have hlt := (List.getElem?_eq_some_iff.1 hri).1
    have hga := hr.getAt hri hra
    have hl := hr.length
    have hsyn := hb.syn _ (aget_some_mem hga)
    have hasyn : asyn D a = r.2.2 := by unfold asyn; rw [hga]; rfl
    obtain ⟨g, hgo, ix, hc⟩ := own_at (size := 3) und.s_ref5_File inf.ref5_File rfl h.pick1.own hlt
    have hf := flat_get hri
    have hc1 := hc _ _ hf.2.1
    have hc2 := hc _ _ hf.2.2
    have e2 : r.2.1 = bstr r.2.1.data.toList := by simp [bstr]
    simp only [xs, xb, xd, Nat.zero_add, h.c0, List.getElem?_cons_zero, List.getElem?_cons_succ, true_and, decide_true]
    refine Synced_hp h.pick3 a ?_
    simp only [xs, xb, xd, Nat.zero_add, h.c0, List.getElem?_cons_zero, List.getElem?_cons_succ, true_and, and_self]
    refine law6_at_hp h (by omega) hat ?_
    simp only [xs, xb, xd, Nat.zero_add, h.c0, List.getElem?_cons_zero, List.getElem?_cons_succ, true_and, and_self, ix, hc1]
    refine law6_at_hp h (by omega) hat ?_
    simp only [xs, xb, xd, Nat.zero_add, h.c0, List.getElem?_cons_zero, List.getElem?_cons_succ, true_and, and_self, ix, hc1, hc2]
    rw [e2, head_bstr _ hsyn]
    simp only [xs, xb, xd, len_bstr, hasyn, List.length_take, Nat.min_eq_left hsyn, decide_true]
    exact next _ hback
theorem SPlays_j3 {X0 : LX} {c : Int} {v16 : Value} {e : Bool} (h : Hp w (LogA p d age n :: DiskA d room D :: LB q x age n e :: RA x room D :: l)) (hD : D.length ≤ 100000) (hK : ∀ w', Hp w' (LogA p d age n :: DiskA d room D :: LB q x age n e :: RA x room D :: l) → law6_SealPlays_j2 K X0 (ptr p) (ptr q) v16 w') :
    law6_SealPlays_j3 K X0 (ptr d) (ptr x) (ptr p) (ptr q) v16 (i64 c) (i64 c) w := by
  unfold law6_SealPlays_j3
  have h := h.drew
  have hq : Hp w.drew (BlkA q ty.ref5_L [ptr x, i64 age, i64 n, .bool e] :: LogA p d age n :: DiskA d room D :: RA x room D :: l) := h.pick2
  simp only [xs, xb, xd, Nat.zero_add, hq.c0, List.getElem?_cons_zero, List.getElem?_cons_succ, true_and, decide_true]
  refine seal_Len_hp h ?_
  simp only [xs, xb, xd, Nat.zero_add, hq.c0, List.getElem?_cons_zero, List.getElem?_cons_succ, true_and, decide_true]
  refine Hp.sln und.s_string inf.string rfl rfl rfl h (vs := nm3.map .string) rfl rfl (by simp [nm3, Value.oneCell']) (by omega) ?_
  intro v w2 h
  have hlen : ∀ (w : World) (K : VCont), xLen P .pure #[ty.s_string] v w K = K (i64 3) w := fun w K => by rw [rd_len h.own.rd und.s_string]; rfl
  simp only [hlen]
  -- v, log, disk, LB, ref
  refine SPlays_l4 (l := LogA p d age n :: LB q x age n e :: l) h.pick3.pick2.pick4.pick4.pick4 hD ?_
  intro w3 h
  exact hK w3 h.pick1.pick3.pick2.pick3
end
end Go.Proofs.Ytamejkogghpbhaa
end
section
/- SealPlays: the law. -/
set_option linter.unusedVariables false
set_option linter.unusedSimpArgs false
namespace Go.Proofs.Ytamejkogghpbhaa
open Go.Sx
/-- the document's log beside the program's -/
def Inv6 (W : World) (p d q x room : Nat) (D : Ab) (age n : Nat) : List Asn := [LogA p d age n, DiskA d room D, LB q x age n (decide (acont D nlog = [])), RA x room D, InpA W]
section
variable {W w : World} {K : VCont} {l : List Asn} {d p q x n room : Nat} {D : Ab} {S R : List (List UInt8)} {y : Nat} {v0 : Value}
/-- both Opens -/
theorem Open_two {age : Nat} (h : Hp w (DiskA d room D :: RA x room D :: l)) (lc : LC D age S R y) (hS : S.length ≤ 6) (hR : R.length ≤ 60)
    (hK : ∀ p vs vr w1, (∀ K2 : VCont, (∀ q vs2 vr2 w2 m D', m ≤ R.length → LS D' age S (R.take m) m → (Hp w2 (LogA p d age m :: DiskA d room D' :: LB q x age m (decide (acont D' nlog = [])) :: RA x room D' :: l) ∧ RdBs w2 vs S ∧ RdBs w2 vr (R.take m) ∧ Rd w2 vs2 (strs S) ∧ Rd w2 vr2 (strs (R.take m))) → K2 (.tuple #[ptr q, vs2, vr2]) w2) → xCall P nr.ref5_Open [ptr x] w1 K2) → K (.tuple #[ptr p, vs, vr, i64 0]) w1) :
    xCall P nr.seal_Open [ptr d] w K := by
  obtain ⟨a1, a2, es, er, m, k1, e1, k2, hor, m1, m2, ls, hm⟩ := lc.open'
  have hml : (R.take m).length = m := by rw [List.length_take]; omega
  refine seal_Open_hp h k1 k2 (by omega) ?_
  intro p vs vr w1 R' e' he h
  rw [if_pos hor] at he
  cases he
  rw [e1, hml] at h
  refine hK p vs vr w1 ?_
  intro K2 hK2
  -- p, vs, vr, disk, ref, l
  have hb := RA_bd h.pick4
  have hu := lc.two.used
  have hub := hb.used
  have hro := hb.room
  have hlen := lc.two.len
  refine L_Open_hp h.pick4 (by omega) k1 k2 (by omega) (by omega) (by omega) ?_
  intro q vs2 vr2 w2 R2 e2 he2 h
  rw [if_pos hor] at he2
  cases he2
  rw [e1, hml, lopen_cont lc.two k2] at h
  -- q, vs2, vr2, ref, p, vs, vr, disk, l
  have b1 : Rd w2 vs2 (strs S) := h.roAt 1 rfl
  have b2 : Rd w2 vr2 (strs (R.take m)) := h.roAt 2 rfl
  have b3 : RdBs w2 vs S := h.roAt 5 rfl
  have b4 : RdBs w2 vr (R.take m) := h.roAt 6 rfl
  refine hK2 q vs2 vr2 w2 m _ m2 ls ⟨?_, b3, b4, b1, b2⟩
  have h := h.pick6.tail.pick5.tail.pick2.tail.pick1.tail
  -- q, ref, p, disk, l
  exact h.pick1.pick1.pick3.pick3
theorem SPlays_go {ops : List Op6} {rm : Nat} (hrm : room = rm) {i age : Nat} {m0 : Nat} {X : LX} (hm : m0 + i = 60) (hop : RdN W 4 v0 ops.length (ops.flatMap op6cell)) (hok : ∀ o ∈ ops, Op6Ok W o)
    (hK : ∀ w', Hp w' [InpA W] → K (.bool true) w')
    (hX : ∀ (p q age : Nat) (D : Ab) (S R : List (List UInt8)) (y : Nat) (w' : World), i < 60 → age ≤ i + 1 → R.length ≤ i + 1 → S.length ≤ 6 → LS D age S R y → Hp w' (Inv6 W p d q x room D age R.length) → X [ptr p, ptr q, i64 ((i + 1 : Nat) : Int)] w')
    (hage : age ≤ i) (hR : R.length ≤ i) (hS : S.length ≤ 6) (ls : LS D age S R y) (h : Hp w (Inv6 W p d q x room D age R.length)) :
    law6_SealPlays_l1 K X v0 (ptr d) (ptr x) (ptr p) (ptr q) (i64 i) w := by
  unfold Inv6 at h
  have hlen : ∀ (w : World) (K : VCont), xLen P .pure #[ty.s_law6_Op] v0 w K = K (i64 ops.length) w := fun w K => by
    obtain ⟨_, a, cap, rfl, _⟩ := hop
    rw [xLen_slice und.s_law6_Op]
  have told : ∀ {w : World}, Hp w [InpA W] → xCall P nr.law6_told [] w K := fun h => told6_hp h fun w' h => hK w' h
  have stop : law6_SealPlays_j0 K w := by
    unfold law6_SealPlays_j0
    exact told (Hp_only h (by simp))
  unfold law6_SealPlays_l1
  simp only [hlen, xs, xb]
  by_cases hlt : i < ops.length
  rotate_left
  · have : ¬ (i : Int) < (ops.length : Int) := by omega
    simp only [this, xs, xb, xd]
    exact stop
  have hlt' : (i : Int) < (ops.length : Int) := by omega
  by_cases h60 : i < 60
  rotate_left
  · have : ¬ (i : Int) < 60 := by omega
    simp only [hlt', this, xs, xb, xd]
    exact stop
  have h60' : (i : Int) < 60 := by omega
  have ho := List.getElem?_eq_getElem hlt
  have hoo := hok _ (List.getElem_mem hlt)
  generalize ops[i] = o at ho hoo
  obtain ⟨p0, ix0, hp0⟩ := rdN_at (size := 4) und.s_law6_Op inf.law6_Op rfl hop hlt
  simp only [hlt', h60', xs, xb, xd, ix0]
  refine ⟨p0, op6cell o, rfl, rfl, fun j hj => ?_, ?_⟩
  · rw [hp0 w (hop.inp h (by simp)) j hj, op6_at ho j hj]
  refine Hp.alloc (cs := [i64 0, i64 0, .slice none 0 0, .slice none 0 0]) h inf.law6_Op rfl rfl ?_
  intro b w4 h
  refine Hp.stN (n := 4) (new := op6cell o) h inf.law6_Op rfl rfl rfl (op6_one hoo) (by simp) ?_
  intro w5 h
  replace h : Hp w5 (BlkA b ty.law6_Op (op6cell o) :: [LogA p d age R.length, DiskA d room D, LB q x age R.length (decide (acont D nlog = [])), RA x room D, InpA W]) := h
  rw [xLoadN_blk (n := 4) h rfl]
  refine few_hp h (by simp) hoo ?_
  intro w6 h
  by_cases hf : fewP o
  rotate_left
  · simp only [hf, xs, xb, xd, decide_false]
    exact told (Hp_only h (by simp))
  obtain ⟨f1, f2, f3⟩ := hf
  simp only [show fewP o from ⟨f1, f2, f3⟩, xs, xb, xd, decide_true, Nat.zero_add, h.c0, op6cell, List.getElem?_cons_zero, List.getElem?_cons_succ]
  have rd : ∀ {w : World} {l : List Asn}, Hp w l → InpA W ∈ l → Rd w o.bsv (o.bs.map bv) := fun h hm => hoo.rd.inp h hm
  have rl : ∀ {w : World} {l : List Asn}, Hp w l → InpA W ∈ l → RdBs w o.lsv o.ls := fun h hm => hoo.rl.inp h hm
  have hDl := ls.two.len
  have ha0 := ls.age0
  -- behind a step
  have next : ∀ (p' q' age' y' : Nat) (D' : Ab) (S' R' : List (List UInt8)) (w' : World) (c : Int), age' ≤ i + 1 → R'.length ≤ i + 1 → S'.length ≤ 6 → LS D' age' S' R' y' →
      Hp w' (Inv6 W p' d q' x room D' age' R'.length) → law6_SealPlays_j3 K X (ptr d) (ptr x) (ptr p') (ptr q') (i64 i) (i64 c) (i64 c) w' := by
    intro p' q' age' y' D' S' R' w' c h1 h2 h3 ls' h
    refine SPlays_j3 h (by have := ls'.two.len; omega) ?_
    intro w2 h
    unfold law6_SealPlays_j2
    simp only [xb]
    rw [i64_succ (by omega)]
    exact hX p' q' age' D' S' R' y' w2 h60 h1 h2 h3 ls' h
  by_cases k0 : o.kind = 0
  · simp only [k0, xs, xb, xd, Nat.zero_add, h.c0, op6cell, List.getElem?_cons_zero, List.getElem?_cons_succ, true_and]
    have h := h.drew
    have hcv : ∀ {w : World} {l : List Asn}, Hp w l → InpA W ∈ l → ∀ (C : VCont), xConvK P .read ty.s_uint8 ty.string o.bsv w C = C (.string (bstr o.bs)) w := fun h hm C => bytes_string und.s_uint8 und.uint8 und.string (rd h hm)
    have hcv1 := hcv h (by simp)
    simp only [k0, xs, xb, xd, Nat.zero_add, h.c0, op6cell, List.getElem?_cons_zero, List.getElem?_cons_succ, true_and, hcv1]
    -- op, log, disk, LB, ref, inp
    have hpk := h.pick2.pick2
    refine seal_Put_hp hpk (by omega) (by omega) ha0.1 (by omega) (rd h (by simp)) (by omega) ?_
    intro w7 h
    -- log, disk, op, LB, ref, inp
    have hcv2 := hcv h (by simp)
    simp only [xs, xb, xd, Nat.zero_add, h.c2, op6cell, List.getElem?_cons_zero, List.getElem?_cons_succ, true_and, and_self, hcv2]
    have hpk := h.pick4.pick4
    -- LB, ref, log, disk, op, inp
    have fin : ∀ (D' : Ab) (R' : List (List UInt8)) (y' : Nat) (w' : World) (c : Int), R'.length ≤ i + 1 → LS D' age S R' y' → Hp w' [LB q x age R'.length (decide (acont D' nlog = [])), RA x room D', LogA p d age R'.length, DiskA d room D', BlkA b ty.law6_Op (op6cell o), InpA W] → law6_SealPlays_j3 K X (ptr d) (ptr x) (ptr p) (ptr q) (i64 i) (i64 c) (i64 c) w' := by
      intro D' R' y' w' c h1 ls' h
      refine next p q age y' D' S R' w' c (by omega) h1 hS ls' ?_
      have h := h.pick4.tail
      exact h.pick1.pick1.pick3.pick3
    refine L_Put_hp hpk (by omega) (by omega) ha0.1 (by omega) (by omega) ?_ ?_
    · intro hnf
      unfold lput at hpk ⊢
      simp only [hnf, if_false] at hpk ⊢
      exact fin D R y w7 1 (by omega) ls hpk
    · intro hfit w8 h
      unfold lput at h ⊢
      simp only [hfit, if_true] at h ⊢
      by_cases hc : (lapp room D age o.bs).2 = 0
      · have ls2 := ls.put hfit hc
        have hne : decide (acont (lapp room D age o.bs).1 nlog = []) = false := decide_eq_false (ls2.cont (by simp))
        simp only [hc, if_true] at h ⊢
        refine fin _ (R ++ [o.bs]) y w8 0 (by simp; omega) ls2 ?_
        rw [hne, List.length_append]
        exact h
      · simp only [hc, if_false] at h ⊢
        rw [lapp_no hc] at h ⊢
        exact fin D R y w8 4 (by omega) ls h
  by_cases k1 : o.kind = 1
  · simp only [k0, k1, xs, xb, xd, show ¬ (1 : Int) = 0 by omega]
    refine seal_Sync_hp h.pick2.pick2 ?_
    intro w7 h
    -- log, disk, op, LB, ref, inp
    refine L_Sync_hp h.pick4.pick4 (by omega) ?_
    intro w8 h
    refine next p q age R.length _ S R w8 0 (by omega) (by omega) hS ls.sync ?_
    unfold Inv6
    rw [acont_async]
    have h := h.pick4.tail
    exact h.pick1.pick1.pick3.pick3
  by_cases k2 : o.kind = 2
  · simp only [k0, k1, k2, xs, xb, xd, Nat.zero_add, h.c0, op6cell, List.getElem?_cons_zero, List.getElem?_cons_succ, show ¬ (2 : Int) = 0 by omega, show ¬ (2 : Int) = 1 by omega]
    have h := h.drew
    simp only [k0, xs, xb, xd, Nat.zero_add, h.c0, op6cell, List.getElem?_cons_zero, List.getElem?_cons_succ, true_and]
    have fin : ∀ (v : Value) (D' : Ab) (age' : Nat) (S' R' : List (List UInt8)) (y' : Nat) (w' : World) (c : Int), age' ≤ i + 1 → S'.length ≤ 6 → R'.length ≤ i + 1 → LS D' age' S' R' y' → Hp w' [LB q x age' R'.length (decide (acont D' nlog = [])), RA x room D', SlA ty.string 1 v o.ls.length (strs o.ls), LogA p d age' R'.length, DiskA d room D', BlkA b ty.law6_Op (op6cell o), InpA W] → law6_SealPlays_j3 K X (ptr d) (ptr x) (ptr p) (ptr q) (i64 i) (i64 c) (i64 c) w' := by
      intro v D' age' S' R' y' w' c h1 h2 h3 ls' h
      refine next p q age' y' D' S' R' w' c h1 h3 h2 ls' ?_
      have h := h.pick5.tail.pick2.tail
      exact h.pick1.pick1.pick3.pick3
    have fin2 : ∀ (w : World) (c : Int) (age' n' : Nat) (D' : Ab), (∀ v w', Hp w' [LB q x age R.length (decide (acont D nlog = [])), RA x room D, SlA ty.string 1 v o.ls.length (strs o.ls), LogA p d age' n', DiskA d room D', BlkA b ty.law6_Op (op6cell o), InpA W] → xCall P nr.ref5_L_Save [ptr q, v] w' fun t369 w => law6_SealPlays_j3 K X (ptr d) (ptr x) (ptr p) (ptr q) (i64 i) (i64 c) t369 w) →
        Hp w [LogA p d age' n', DiskA d room D', BlkA b ty.law6_Op (op6cell o), LB q x age R.length (decide (acont D nlog = [])), RA x room D, InpA W] →
        (xCall P nr.law6_texts [o.lsv] w fun t368 w => xCall P nr.ref5_L_Save [ptr q, t368] w fun t369 w => law6_SealPlays_j3 K X (ptr d) (ptr x) (ptr p) (ptr q) (i64 i) (i64 c) t369 w) := by
      intro w c age' n' D' hgo h
      refine texts_hp (S := o.ls) h (fun w h => rl h (by simp)) (by omega) ?_
      intro v w' h
      -- v, log, disk, op, LB, ref, inp
      exact hgo v w' h.pick5.pick5.put2.put2.put2
    refine seal_Save_hp (S := o.ls) h.pick2.pick2 (by omega) ha0.1 ha0.2 (fun w h => rl h (by simp)) (by omega) (fun x hx => by have := f3 x hx; omega) ?_ ?_
    · intro hnf w7 h
      simp only [xs, xb, xd, Nat.zero_add, h.c2, op6cell, List.getElem?_cons_zero, List.getElem?_cons_succ, true_and, and_self]
      refine fin2 w7 1 age R.length D (fun v w' h => ?_) h
      refine L_Save_hp (S := o.ls) h ls.two ha0.1 ha0.2 (fun w h => h.own.rd) (by omega) (fun x hx => by have := f3 x hx; omega) ?_ ?_
      · intro _ w8 h
        exact fin v D age S R y w8 1 (by omega) hS (by omega) ls h
      · intro hfit
        obtain ⟨x, hx, hn⟩ := hnf
        exact absurd (hfit x hx) hn
    · intro hfit w7 age' n' he h
      simp only [xs, xb, xd, Nat.zero_add, h.c2, op6cell, List.getElem?_cons_zero, List.getElem?_cons_succ, true_and, and_self]
      by_cases hc : (lsave room D age o.ls).2 = 0
      · have ls2 := ls.save hfit (by omega) hc
        have hcont := lsave_cont ls.two hc
        rw [if_pos hc] at he
        cases he
        refine fin2 w7 _ (age + 1) 0 _ (fun v w' h => ?_) h
        refine L_Save_hp (S := o.ls) h ls.two ha0.1 ha0.2 (fun w h => h.own.rd) (by omega) (fun x hx => by have := f3 x hx; omega) ?_ ?_
        · rintro ⟨x, hx, hn⟩
          exact absurd (hfit x hx) hn
        · intro _ w8 age2 n2 e2 he2 h
          rw [if_pos hc] at he2
          cases he2
          refine fin v _ (age + 1) o.ls [] 0 w8 _ (by omega) f2 (by simp) ls2 ?_
          rw [hcont]
          exact h
      · rw [if_neg hc] at he
        cases he
        refine fin2 w7 _ age R.length _ (fun v w' h => ?_) h
        refine L_Save_hp (S := o.ls) h ls.two ha0.1 ha0.2 (fun w h => h.own.rd) (by omega) (fun x hx => by have := f3 x hx; omega) ?_ ?_
        · rintro ⟨x, hx, hn⟩
          exact absurd (hfit x hx) hn
        · intro _ w8 age2 n2 e2 he2 h
          rw [if_neg hc] at he2
          cases he2
          rw [lsave_no ls.two hc] at h ⊢
          exact fin v D age S R y w8 4 (by omega) hS (by omega) ls h
  simp only [k0, k1, k2, xs, xb, xd, Nat.zero_add, h.c0, op6cell, List.getElem?_cons_zero, List.getElem?_cons_succ]
  have hlc := ls.crash o.n
  refine Crash_hp h.pick2 (by omega) o.n hoo.n ?_
  intro w7 h
  -- disk, op, log, LB, ref, inp
  simp only [xs, xb, xd, Nat.zero_add, h.c1, op6cell, List.getElem?_cons_zero, List.getElem?_cons_succ]
  refine RA_Crash h.pick4 (by omega) o.n hoo.n ?_
  intro w8 h
  -- ref, disk, op, log, LB, inp
  have h : Hp w8 [DiskA d room (acrash o.n D), RA x room (acrash o.n D), InpA W] := h.pick4.tail.pick3.tail.pick2.tail.pick1
  refine Open_two h hlc hS (by omega) ?_
  intro p2 vs vr w9 hop2
  simp only [xs]
  refine hop2 _ ?_
  rintro q2 vs2 vr2 w10 m D' hm' ls' ⟨h, b1, b2, b3, b4⟩
  simp only [xs, xb, xd, xEq_ptr und.p_seal_Log, Option.isNone_some]
  refine Texts_spec (A := S) (B := S) b1 b3 (by omega) ?_
  intro w11 hc11
  simp only [xs, xb, xd, decide_true]
  refine Texts_spec (A := R.take m) (B := R.take m) (b2.keep' hc11) (b4.keep' hc11) (by rw [List.length_take]; omega) ?_
  intro w12 hc12
  simp only [xs, xb, xd, decide_true]
  have hml : (R.take m).length = m := by rw [List.length_take]; omega
  refine next p2 q2 age m D' S (R.take m) w12 0 (by omega) (by omega) hS ls' ?_
  unfold Inv6
  rw [hml]
  exact (h.keep' hc11).keep' hc12
theorem SealPlays_law {ops : List Op6} (rm : Int) (hrm : -9223372036854775808 ≤ rm ∧ rm ≤ 9223372036854775807) (hops : RdN W 4 v0 ops.length (ops.flatMap op6cell)) (hok : ∀ o ∈ ops, Op6Ok W o)
    (hK : ∀ w', Hp w' [InpA W] → K (.bool true) w') : law6_SealPlays_main K (i64 rm) v0 W := by
  unfold law6_SealPlays_main
  rw [xConv_int _ _ .u64 .i64 _ und.int und.uint]
  have hu : 0 ≤ IntKind.u64.wrap rm ∧ IntKind.u64.wrap rm ≤ 18446744073709551615 := by simp [IntKind.wrap, IntKind.bits, IntKind.signed]; omega
  generalize IntKind.u64.wrap rm = u at hu
  rw [xBin_rem _ _ _ _ (by omega), xConv_int _ _ .i64 .u64 _ und.uint und.int, Int.tmod_eq_emod_of_nonneg hu.1, wrap_i64 (by omega) (by omega)]
  obtain ⟨room, hnn, hn5⟩ : ∃ n : Nat, u % 3001 = n ∧ n ≤ 3000 := ⟨(u % 3001).toNat, by omega, by omega⟩
  rw [hnn]
  refine New_hp (Hp.inp W) room (by omega) ?_
  intro d w1 h
  have hb : xBuild P ty.ref5_D [(0, i64 room)] w1 = fun K => K (.agg #[i64 room, .slice none 0 0]) w1 := by
    funext K
    unfold xBuild
    exact xp_iff fun w' => by kernel_rfl
  simp only [xs, xb, xd, xEq_ptr und.p_disk_Disk, Option.isNone_some, hb]
  refine Hp.box (cs := [i64 room, .slice none 0 0]) h rfl ?_
  intro x w2 h
  have h : Hp w2 [DiskA d room [], RA x room [], InpA W] := by
    have : Hp w2 (SlA ty.ref5_File 3 (.slice none 0 0) 0 [] :: BlkA x ty.ref5_D [i64 room, .slice none 0 0] :: DiskA d room [] :: [InpA W]) :=
      h.new (A := SlA ty.ref5_File 3 (.slice none 0 0) 0 []) (F := fun _ => False) ⟨Own.nil _ _ _, fun b => by simp [Value.ownBlock]⟩ (fun _ h => h.elim) (Chg.refl _ _)
    have h2 : Hp w2 (RefB x room [] :: DiskA d room [] :: [InpA W]) := RefB.open'.2 ⟨_, this.pick1⟩
    exact (RA.op.2 ⟨[], ⟨(show Rel [] [] from ⟨List.Pairwise.nil, List.Pairwise.nil, fun _ => rfl⟩), Bd.nil (by omega)⟩, h2⟩).pick1
  refine Open_two (age := 0) h LS.nil.toLC (by simp) (by simp) ?_
  intro p vs vr w3 hop2
  simp only [xs]
  refine hop2 _ ?_
  rintro q vs2 vr2 w4 m D' hm' ls' ⟨h, _⟩
  have : m = 0 := by simpa using hm'
  subst this
  simp only [xs, xb, xd, xEq_ptr und.p_seal_Log, Option.isNone_some]
  refine Lp.gen (fun m s w' => ∃ (i p q age : Nat) (D : Ab) (S R : List (List UInt8)) (y : Nat), m + i = 60 ∧ s = [ptr p, ptr q, i64 i] ∧ age ≤ i ∧ R.length ≤ i ∧ S.length ≤ 6 ∧ LS D age S R y ∧ Hp w' (Inv6 W p d q x room D age R.length)) 60
    ⟨0, p, q, 0, D', [], [], _, rfl, rfl, by omega, by simp, by simp, ls', h⟩ ?_
  rintro m s w5 ⟨i, p, q, age, D, S, R, y, hm, rfl, hage, hR, hS, ls, h⟩ X hX
  refine SPlays_go rfl hm hops hok hK ?_ hage hR hS ls h
  intro p q age D S R y w6 h0 h1 h2 h3 h4 h5
  exact hX (m - 1) _ _ ⟨i + 1, p, q, age, D, S, R, y, by omega, rfl, h1, h2, h3, h4, h5⟩ (by omega)
end
end Go.Proofs.Ytamejkogghpbhaa
end
