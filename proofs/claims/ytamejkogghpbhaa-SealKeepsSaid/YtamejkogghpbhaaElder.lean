/- SealElder: the law. -/
import Derived.Test.YtamejkogghpbhaaLogHp
import Derived.Test.YtamejkogghpbhaaTxtElder
set_option linter.unusedVariables false
set_option linter.unusedSimpArgs false
namespace Go.Proofs.Ytamejkogghpbhaa
open Go.Sx
def sm (x : List UInt8) : Prop := 1 ≤ x.length ∧ x.length ≤ 40
theorem sm_fits {x : List UInt8} (h : sm x) : fits x := ⟨h.1, by have := h.2; omega⟩
theorem seven {A : Prop} (h : A) : A := h
section
variable {W w : World} {K : VCont} {d p : Nat} {D : Ab} {S R L : List (List UInt8)} {y : Nat} {v0 v1 : Value}
theorem SealElder_j3 (hK : ∀ w', Hp w' [InpA W] → K (.bool true) w') (h1 : RdBs W v1 S) (hS : S.length ≤ 4) (hs : ∀ x ∈ S, sm x) (hL : L.length ≤ 8) (hLs : ∀ x ∈ L, sm x)
    (h : Hp w [LogA p d 0 L.length, DiskA d 1000000 D, InpA W]) (ls : LS D 0 [] L 0) : law6_SealElder_j3 K v1 (ptr d) (ptr p) w := by
  have hSf : (frames S).length ≤ 4 * 46 := Nat.le_trans (frames_le (m := 40) fun x hx => (hs x hx).2) (Nat.mul_le_mul_right _ hS)
  have hLf : (frames L).length ≤ 8 * 46 := Nat.le_trans (frames_le (m := 40) fun x hx => (hLs x hx).2) (Nat.mul_le_mul_right _ hL)
  have hg := genf_len 1
  unfold law6_SealElder_j3
  refine Sync_ls h ls ?_
  intro w1 D1 ls1 h
  simp only [xs, xb, xd]
  have hu := ls1.used
  simp only [frames_nil, List.length_nil] at hu
  refine Read_hp1 h.pick1 _ ?_
  intro t27 w2 _ _ _ h
  simp only [xs]
  refine Save_ls (S' := S) h.pick1.pick2 ls1 (by omega) (fun w h => h1.inp h (by simp)) (by omega) (fun x hx => by have := (hs x hx).2; omega) ?_ ?_ ?_
  · rintro ⟨x, hx, hn⟩; exact absurd (sm_fits (hs x hx)) hn
  · intro _ hroom
    rw [List.length_append] at hroom
    have : (genf (0 + 1)).length = (genf 1).length := rfl
    omega
  intro _ w3 D2 ls2 hc2 h
  simp only [xs, xb, xd]
  have hu2 := ls2.used
  simp only [frames_nil, List.length_nil] at hu2
  have ht2 := ls2.two.len
  have hb : (acont D1 nlog).length ≤ 10000 := by
    have := ls1.two.used; omega
  -- the elder file behind the cut
  refine Append_hp h.pick1 (by omega) _ h.pick2.ro (show (acont D1 nlog).length ≤ 1000000 by omega) ?_
  intro w4 h
  have happ : (aapp 1000000 D2 nlog (acont D1 nlog)).1 = aput D2 nlog ((aold D2 nlog).1 ++ acont D1 nlog, (aold D2 nlog).2) := by
    rw [aapp_log, if_neg (by omega)]
  have hold : (aold D2 nlog).1 = [] := by
    unfold aold acont at *
    cases hg : aget D2 nlog with
    | none => rfl
    | some x => rw [hg] at hc2; exact hc2
  rw [happ, hold, List.nil_append] at h
  generalize hx : (aold D2 nlog).2 = sy at h
  generalize hD3 : aput D2 nlog (acont D1 nlog, sy) = D3 at h
  have ht3 : Two D3 := by rw [← hD3]; exact ls2.two.put (.inr rfl) _
  have hs3 : SnapOk D3 1 S := ls2.snap.of_aget (by rw [← hD3, aget_aput, if_neg (by decide)])
  have hc3 : acont D3 nlog = acont D1 nlog := by rw [← hD3, acont_aput, if_pos rfl]
  refine Sync_hp h _ ?_
  intro w5 h
  have ha4 : ∀ a, acont (async D3 nlog).1 a = acont D3 a := by
    intro a
    unfold async acont
    cases hg : aget D3 nlog with
    | none => simp only
    | some x =>
      simp only
      rw [aget_aset]
      by_cases ha : nlog = a
      · subst ha; rw [if_pos rfl, hg]; rfl
      · rw [if_neg ha]
  have ht4 : Two (async D3 nlog).1 := by
    unfold async
    split
    · exact ht3
    · exact ht3.set _ _
  have hs4 : SnapOk (async D3 nlog).1 1 S := by
    refine hs3.of_aget ?_
    unfold async
    split
    · rfl
    · rw [aget_aset, if_neg (by decide)]
  have hc4 := ha4 nlog
  rw [hc3] at hc4
  generalize (async D3 nlog).1 = D4 at h ht4 hs4 hc4
  -- Open: no elder record counts
  obtain ⟨a1, es, k1, e1⟩ := hs4.keeps (by omega) ls2.fS
  have k2 : ∃ a2 R er, Keeps (acont D4 nlog) a2 R er ∧ R.length ≤ 1000 ∧ (a2 = -1 ∧ R = [] ∧ er = 0 ∨ a2 = 0) := by
    rw [hc4]
    obtain ⟨c, s, hg, _, hc, _⟩ := ls1.log
    have hcc : acont D1 nlog = c := by
      unfold acont
      rcases hg with hg | ⟨hg, rfl, rfl⟩ <;> rw [hg] <;> rfl
    rw [hcc]
    rcases hc with ⟨rfl, _⟩ | rfl
    · exact ⟨-1, [], 0, keeps_nil one_nil, by simp, .inl ⟨rfl, rfl, rfl⟩⟩
    · refine ⟨0, L, (logc 0 L).length, ?_, by omega, .inr rfl⟩
      have := keeps_logc (age := 0) (R := L) (by omega) (by omega) ls1.fR (r := []) one_nil
      rw [List.append_nil] at this
      exact this
  obtain ⟨a2, Rx, er, k2, kl, kor⟩ := k2
  refine seal_Open_hp h k1 k2 (by omega) ?_
  intro q vs vr w6 R' e' he h
  have he' : R' = [] ∧ e' = 0 := by
    rcases kor with ⟨rfl, rfl, rfl⟩ | rfl
    · rw [if_pos (.inl rfl)] at he; cases he; exact ⟨rfl, rfl⟩
    · rw [if_neg (by rw [e1]; omega)] at he; cases he; exact ⟨rfl, rfl⟩
  obtain ⟨rfl, rfl⟩ := he'
  have ls5 := open_other ht4 (by omega) hs4 ls2.fS
  generalize lopen D4 0 = D5 at h ls5
  rw [e1] at h
  have hu5 := ls5.used
  simp only [frames_nil, List.length_nil] at hu5
  simp only [xs, xb, xd, xEq_ptr und.p_seal_Log, Option.isNone_some]
  refine lit_hp [122] h rfl (by kernel_rfl) (by omega) ?_
  intro v7 w7 h _
  refine Put_ls (R := []) (b := [122]) h.pick4.pick2 ls5 (by simp) h.ro (by simp) (fun hn => absurd (show fits [122] by decide) hn) (fun _ hroom => by simp at hroom; omega) ?_
  intro _ w8 D6 ls6 h
  refine Reopen_ls h.pick1 ls6 (by simp) ?_
  intro q2 vt vu w9 D7 ls7 h
  simp only [xs]
  refine told6_hp h ?_
  intro w10 h
  -- q2, vt, vu, disk, q, lit, vs, vr, ..
  simp only [xs, xd]
  refine texts_hp (S := S) h (fun w h => h1.inp h (by simp)) (by omega) ?_
  intro v11 w11 h
  refine Texts_spec (A := S) (B := S) h.pick7.ro h.own.rd (by omega) ?_
  intro w12 hc12
  have h := h.keep' hc12
  -- va, q2, vt, vu, disk, q, lit, vs, vr, t27
  have bvr : RdBs w12 vr [] := h.roAt 8 rfl
  have c0 : ((0 : Nat) : Int) = 0 := rfl
  simp only [xs, xb, xd, decide_true, bvr.len und.s_s_uint8, List.length_nil, c0]
  refine texts_hp (S := S) h (fun w h => h1.inp h (by simp)) (by omega) ?_
  intro v13 w13 h
  have bvt : RdBs w13 vt S := h.roAt 3 rfl
  refine Texts_spec (A := S) (B := S) bvt h.own.rd (by omega) ?_
  intro w14 hc14
  have h := h.keep' hc14
  have bvu : RdBs w14 vu ([] ++ [[122]]) := h.roAt 4 rfl
  have c1 : ((([] ++ [[122]] : List (List UInt8)).length : Nat) : Int) = 1 := rfl
  obtain ⟨p0, u0, i0, q0, r0⟩ := bvu.at und.s_s_uint8 inf.s_uint8 rfl (k := 0) (x := [122]) rfl
  have i0' : ∀ (w2 : World) (C : VCont), xIndexAddr P ty.s_s_uint8 vu (.int .i64 0) w2 C = C (.pointer (some p0)) w2 := i0
  simp only [xs, xb, xd, decide_true, bvu.len und.s_s_uint8, c1, i0', q0, bytes_string und.s_uint8 und.uint8 und.string r0, xEq_str]
  exact hK w14 (Hp_only h (by simp))
theorem i64_succ {i : Nat} (h : i ≤ 1000000000) : IntKind.i64.wrap ((i : Int) + 1) = ((i + 1 : Nat) : Int) := by rw [wrap_i64 (by omega) (by omega)]; omega
theorem SealElder_j0 (hK : ∀ w', Hp w' [InpA W] → K (.bool true) w') (h0 : RdBs W v0 L) (h1 : RdBs W v1 S) (hS : S.length ≤ 4) (hs : ∀ x ∈ S, sm x) (hL : L.length ≤ 8) (hLs : ∀ x ∈ L, sm x)
    (h : Hp w [LogA p d 0 0, DiskA d 1000000 D, InpA W]) (ls : LS D 0 [] [] 0) : law6_SealElder_j0 K v0 v1 (ptr d) (ptr p) w := by
  unfold law6_SealElder_j0
  refine Lp.gen (fun m s w' => ∃ (i : Nat) (D' : Ab), m + i = L.length ∧ s = [i64 i] ∧ LS D' 0 [] (L.take i) 0 ∧ Hp w' [LogA p d 0 (L.take i).length, DiskA d 1000000 D', InpA W]) L.length ⟨0, D, by omega, rfl, by simpa using ls, by simpa using h⟩ ?_
  rintro m s w1 ⟨i, D1, hm, rfl, ls1, h⟩ X hX
  unfold law6_SealElder_l4
  have hb0 : RdBs w1 v0 L := h0.inp h (by simp)
  simp only [List.getD_cons_zero, hb0.len und.s_s_uint8, xs, xb]
  by_cases hlt : i < L.length
  · have hlt' : (i : Int) < (L.length : Int) := by omega
    have hx := List.getElem?_eq_getElem hlt
    have hxm := hLs _ (List.getElem_mem hlt)
    have hA : L.take (i + 1) = L.take i ++ [L[i]] := by rw [List.take_add_one, hx]; rfl
    generalize L[i] = x at hx hA hxm
    obtain ⟨p0, u, i0, q0, hru⟩ := hb0.at und.s_s_uint8 inf.s_uint8 rfl hx
    simp only [hlt', xs, xd, i0, q0]
    have hu := ls1.used
    have hLf : (frames (L.take i)).length ≤ 8 * 46 := Nat.le_trans (frames_le (m := 40) fun x hx => (hLs x (List.mem_of_mem_take hx)).2) (Nat.mul_le_mul_right _ (by rw [List.length_take]; omega))
    simp only [frames_nil, List.length_nil] at hu
    have hx2 := hxm.2
    refine Put_ls h ls1 (by rw [List.length_take]; omega) hru (by omega) (fun hn => absurd (sm_fits hxm) hn) (fun _ hroom => by omega) ?_
    intro _ w2 D2 ls2 h
    simp only [xs, xb, xd]
    rw [i64_succ (by omega)]
    exact hX (m - 1) _ _ ⟨i + 1, D2, by omega, rfl, by rw [hA]; exact ls2, by rw [hA]; exact h⟩ (by omega)
  · have hlt' : ¬ (i : Int) < (L.length : Int) := by omega
    simp only [hlt', xs, xd]
    rw [List.take_of_length_le (by omega)] at ls1 h
    exact SealElder_j3 hK h1 hS hs hL hLs h ls1
theorem SealElder_law (hK : ∀ w', Hp w' [InpA W] → K (.bool true) w') (h0 : RdBs W v0 L) (h1 : RdBs W v1 S) (hLm : L.length ≤ 9223372036854775807) (hSm : S.length ≤ 9223372036854775807) : law6_SealElder_main K v0 v1 W := by
  unfold law6_SealElder_main
  refine New_hp (Hp.inp W) 1000000 (by omega) ?_
  intro d w1 h
  have hb0 : RdBs w1 v0 L := h0.inp h (by simp)
  have hb1 : RdBs w1 v1 S := h1.inp h (by simp)
  simp only [xs, xb, xd, xEq_ptr und.p_disk_Disk, Option.isNone_some, hb0.len und.s_s_uint8]
  have gone : ∀ {w : World} {l : List Asn}, Hp w l → InpA W ∈ l → xCall P nr.law6_told [] w K := fun h hm => told6_hp h fun w' h => hK w' (Hp_only h hm)
  by_cases hL : (8 : Int) < (L.length : Int)
  · simp only [hL, xs, xd]
    exact gone h (by simp)
  simp only [hL, xs, xb, xd, hb1.len und.s_s_uint8]
  by_cases hS : (4 : Int) < (S.length : Int)
  · simp only [hS, xs, xd]
    exact gone h (by simp)
  simp only [hS, xs, xd]
  refine Reopen_ls h LS.nil (by simp) ?_
  intro p vs vr w2 D1 ls1 h
  simp only [xs, xb, xd, xEq_ptr und.p_seal_Log, Option.isNone_some]
  have h : Hp w2 [LogA p d 0 0, DiskA d 1000000 D1, InpA W] := h.pick1.tail.pick1.tail
  refine Lp.gen (fun m s w' => ∃ i : Nat, m + i = L.length + S.length ∧ s = [i64 i] ∧ (∀ x ∈ (L ++ S).take i, sm x) ∧ Hp w' [LogA p d 0 0, DiskA d 1000000 D1, InpA W]) (L.length + S.length) ⟨0, by omega, rfl, by simp, h⟩ ?_
  rintro m s w3 ⟨i, hm, rfl, hsm, h⟩ X hX
  have hb0 : RdBs w3 v0 L := h0.inp h (by simp)
  have hb1 : RdBs w3 v1 S := h1.inp h (by simp)
  -- one more
  have step : ∀ (v : Value) (xss : List (List UInt8)) (k : Nat) (x : List UInt8), RdBs w3 v xss → xss[k]? = some x → (L ++ S)[i]? = some x → law6_SealElder_j2 K X (i64 i) v (i64 k) w3 := by
    intro v xss k x hb hx hi
    unfold law6_SealElder_j2
    obtain ⟨p0, u, i0, q0, hru⟩ := hb.at und.s_s_uint8 inf.s_uint8 rfl hx
    have hlen : ∀ (w : World) (K : VCont), xLen P .pure #[ty.s_uint8] u w K = K (i64 x.length) w := fun w K => by rw [rd_len hru und.s_uint8, List.length_map]
    simp only [i0, q0, xs, xb, hlen]
    by_cases h1 : (x.length : Int) < 1
    · simp only [h1, xs, xd]
      exact gone h (by simp)
    simp only [h1, xs, xb, xd, i0, q0, hlen]
    by_cases h2 : (40 : Int) < (x.length : Int)
    · simp only [h2, xs, xd]
      exact gone h (by simp)
    simp only [h2, xs, xd]
    have hil := (List.getElem?_eq_some_iff.1 hi).1
    rw [List.length_append] at hil
    rw [i64_succ (by omega)]
    refine hX (m - 1) _ _ ⟨i + 1, by omega, rfl, ?_, h⟩ (by omega)
    intro z hz
    rw [List.take_add_one, hi] at hz
    rcases List.mem_append.1 hz with hz | hz
    · exact hsm z hz
    · simp at hz; subst hz; exact ⟨by omega, by omega⟩
  unfold law6_SealElder_l1
  have hadd : IntKind.i64.wrap ((L.length : Int) + (S.length : Int)) = ((L.length + S.length : Nat) : Int) := by rw [wrap_i64 (by omega) (by omega)]; omega
  simp only [List.getD_cons_zero, hb0.len und.s_s_uint8, hb1.len und.s_s_uint8, xs, xb, hadd]
  by_cases hlt : i < L.length + S.length
  · have hlt' : (i : Int) < ((L.length + S.length : Nat) : Int) := by omega
    simp only [hlt', xs, xd]
    by_cases hge : L.length ≤ i
    · have hge' : (L.length : Int) ≤ (i : Int) := by omega
      have hsub : IntKind.i64.wrap ((i : Int) - (L.length : Int)) = ((i - L.length : Nat) : Int) := by rw [wrap_i64 (by omega) (by omega)]; omega
      simp only [hge', xs, xd, hsub]
      have hx := List.getElem?_eq_getElem (show i - L.length < S.length by omega)
      exact step v1 S (i - L.length) _ hb1 hx (by rw [List.getElem?_append_right hge]; exact hx)
    · have hge' : ¬ (L.length : Int) ≤ (i : Int) := by omega
      simp only [hge', xs, xd]
      have hx := List.getElem?_eq_getElem (show i < L.length by omega)
      exact step v0 L i _ hb0 hx (by rw [List.getElem?_append_left (by omega)]; exact hx)
  · have hlt' : ¬ (i : Int) < ((L.length + S.length : Nat) : Int) := by omega
    simp only [hlt', xs, xd]
    rw [List.take_of_length_le (by rw [List.length_append]; omega)] at hsm
    exact SealElder_j0 hK h0 h1 (by omega) (fun x hx => hsm x (by simp [hx])) (by omega) (fun x hx => hsm x (by simp [hx])) h ls1
end
end Go.Proofs.Ytamejkogghpbhaa
