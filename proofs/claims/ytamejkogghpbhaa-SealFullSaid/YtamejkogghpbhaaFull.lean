/- SealFull: the law. -/
import Derived.Test.YtamejkogghpbhaaElder
import Derived.Test.YtamejkogghpbhaaTxtFull
set_option linter.unusedVariables false
set_option linter.unusedSimpArgs false
namespace Go.Proofs.Ytamejkogghpbhaa
open Go.Sx
section
variable {W w : World} {K : VCont} {d p room : Nat} {D : Ab} {S R L : List (List UInt8)} {y : Nat} {v1 v2 : Value}
theorem strs_len (R : List (List UInt8)) : (strs R).length = R.length := by simp [strs]
theorem SealFull_j3 (hK : ∀ w', Hp w' [InpA W] → K (.bool true) w') (h2 : RdBs W v2 S) (hS : S.length ≤ 6) (hs : ∀ x ∈ S, sm x) (hR : R.length ≤ 40) (hRs : ∀ x ∈ R, sm x) {va : Value}
    (h : Hp w [LogA p d 0 R.length, DiskA d room D, SlA ty.string 1 va R.length (strs R), InpA W]) (ls : LS D 0 [] R 0) : law6_SealFull_j3 K v2 (ptr d) (ptr p) va w := by
  unfold law6_SealFull_j3
  refine Sync_ls h ls ?_
  intro w1 D1 ls1 h
  simp only [xs, xb, xd]
  refine seal_Len_hp h ?_
  simp only [rd_len h.pick2.own.rd und.s_string, strs_len, xs, xb, xd, decide_true]
  refine Save_ls (l := [SlA ty.string 1 va R.length (strs R), InpA W]) (S' := S) h ls1 (by omega) (fun w h => h2.inp h (by simp)) (by omega) (fun x hx => by have := (hs x hx).2; omega) ?_ ?_ ?_
  · rintro ⟨x, hx, hn⟩; exact absurd (sm_fits (hs x hx)) hn
  · intro _ _ w2 h
    simp only [xs, xb, xd, show ¬ (4 : Int) = 0 by omega]
    refine Reopen_ls h.pick1 ls1 (by omega) ?_
    intro q vs vr w3 D3 ls3 h
    simp only [xs, xb, xd]
    refine Read_hp1 h.pick3 _ ?_
    intro vx w4 c hc _ h
    rw [ls3.two.next] at hc
    simp only [xs, xb, xd]
    refine told6_hp h ?_
    intro w5 h
    simp only [xs, xb, xd]
    -- ro, disk, q, vs, vr, p, va, inp
    have bvr : RdBs w5 vr R := h.roAt 4 rfl
    refine Texts_spec (A := R) (B := R) bvr h.pick6.own.rd (by omega) ?_
    intro w6 hc6
    have h := h.keep' hc6
    have bvs : RdBs w6 vs [] := h.roAt 3 rfl
    have c0 : ((0 : Nat) : Int) = 0 := rfl
    have hc5 : c = 5 := hc
    simp only [xs, xb, xd, decide_true, bvs.len und.s_s_uint8, List.length_nil, c0, hc5]
    exact hK w6 (Hp_only h (by simp))
  · intro _ w2 D2 ls2 _ h
    simp only [xs, xb, xd, show ¬ (0 : Int) = 4 by omega]
    refine Reopen_ls (R := []) h.pick1 ls2 (by simp) ?_
    intro q vs vr w3 D3 ls3 h
    simp only [xs, xb, xd]
    refine told6_hp h ?_
    intro w4 h
    have bvr : RdBs w4 vr [] := h.roAt 2 rfl
    have c0 : ((0 : Nat) : Int) = 0 := rfl
    simp only [xs, xb, xd, decide_true, bvr.len und.s_s_uint8, List.length_nil, c0]
    refine texts_hp (S := S) h (fun w h => h2.inp h (by simp)) (by omega) ?_
    intro v5 w5 h
    have bvs : RdBs w5 vs S := h.roAt 2 rfl
    refine Texts_spec (A := S) (B := S) bvs h.own.rd (by omega) ?_
    intro w6 hc6
    have h := h.keep' hc6
    simp only [xs, xb, xd, decide_true]
    exact hK w6 (Hp_only h (by simp))
theorem SealFull_j0 (hK : ∀ w', Hp w' [InpA W] → K (.bool true) w') (h1 : RdBs W v1 L) (h2 : RdBs W v2 S) (hS : S.length ≤ 6) (hs : ∀ x ∈ S, sm x) (hL : L.length ≤ 40) (hLs : ∀ x ∈ L, sm x) (hr : room ≤ 400)
    (h : Hp w [LogA p d 0 0, DiskA d room D, InpA W]) (ls : LS D 0 [] [] 0) : law6_SealFull_j0 K v1 v2 (i64 room) (ptr d) (ptr p) (.slice none 0 0) w := by
  unfold law6_SealFull_j0
  have h0 : Hp w [LogA p d 0 0, DiskA d room D, SlA ty.string 1 (.slice none 0 0) 0 [], InpA W] := by
    have := h.new (A := SlA ty.string 1 (.slice none 0 0) 0 []) (F := fun _ => False) ⟨Own.nil _ _ _, fun b => by simp [Value.ownBlock]⟩ (fun _ h => h.elim) (Chg.refl _ _)
    exact this.put2
  refine Lp.gen (fun m s w' => ∃ (i : Nat) (D' : Ab) (R : List (List UInt8)) (va : Value), m + i = L.length ∧ s = [va, i64 i] ∧ R.length ≤ i ∧ (∀ x ∈ R, sm x) ∧ LS D' 0 [] R 0 ∧ Hp w' [LogA p d 0 R.length, DiskA d room D', SlA ty.string 1 va R.length (strs R), InpA W]) L.length
    ⟨0, D, [], .slice none 0 0, by omega, rfl, by simp, by simp, ls, h0⟩ ?_
  rintro m s w1 ⟨i, D1, R, va, hm, rfl, hRi, hRs, ls1, h⟩ X hX
  unfold law6_SealFull_l4
  have hb1 : RdBs w1 v1 L := h1.inp h (by simp)
  simp only [List.getD_cons_zero, List.getD_cons_succ, hb1.len und.s_s_uint8, xs, xb]
  by_cases hlt : i < L.length
  · have hlt' : (i : Int) < (L.length : Int) := by omega
    have hx := List.getElem?_eq_getElem hlt
    have hxm := hLs _ (List.getElem_mem hlt)
    generalize L[i] = x at hx hxm
    obtain ⟨p0, u, i0, q0, hru⟩ := hb1.at und.s_s_uint8 inf.s_uint8 rfl hx
    have hx2 := hxm.2
    simp only [hlt', xs, xd, i0, q0]
    refine Put_ls h ls1 (by omega) hru (by omega) (fun hn => absurd (sm_fits hxm) hn) ?_ ?_
    · intro _ _ w2 h
      simp only [xs, xb, xd, show ¬ (4 : Int) = 0 by omega]
      have ht := ls1.two.len
      refine Used_hp h.pick1 (by omega) ?_
      intro w3 h
      have hfit : aused D1 ≤ room := by
        obtain ⟨F, hF⟩ : ∃ F, Disk w3 d room D1 F := h.head
        exact hF.fits.1
      have hng : ¬ (room : Int) < (aused D1 : Int) := by omega
      simp only [xs, xb, xd, hng]
      unfold law6_SealFull_j5
      simp only [xb]
      rw [i64_succ (by omega)]
      exact hX (m - 1) _ _ ⟨i + 1, D1, R, va, by omega, rfl, by omega, hRs, ls1, h.pick1⟩ (by omega)
    · intro _ w2 D2 ls2 h
      simp only [xs, xb, xd]
      have ht := ls2.two.len
      refine Used_hp h.pick1 (by omega) ?_
      intro w3 h
      have hfit : aused D2 ≤ room := by
        obtain ⟨F, hF⟩ : ∃ F, Disk w3 d room D2 F := h.head
        exact hF.fits.1
      have hng : ¬ (room : Int) < (aused D2 : Int) := by omega
      have hb3 : RdBs w3 v1 L := h1.inp h (by simp)
      obtain ⟨p1, u1, i1, q1, hru1⟩ := hb3.at und.s_s_uint8 inf.s_uint8 rfl hx
      have hpp : p1 = p0 := by
        have e1 := i1 w3 (fun v _ => v = .pointer (some p1))
        rw [i0] at e1
        have := cast e1.symm rfl
        cases this; rfl
      subst hpp
      simp only [xs, xb, xd, hng, i0, q1, bytes_string und.s_uint8 und.uint8 und.string hru1]
      refine Hp.sl1 (size := 1) und.s_string inf.string rfl (by omega) (by omega) rfl rfl h (cs := [.string (bstr x)]) rfl rfl ?_
      intro v4 w4 h
      refine Hp.app (size := 1) (bytes := 16) und.s_string inf.string rfl rfl rfl rfl h.pick3 h.own.rdN (by simp [Value.oneCell']) (by omega) (by omega) ?_
      intro v5 w5 h
      unfold law6_SealFull_j5
      simp only [xb]
      rw [i64_succ (by omega)]
      refine hX (m - 1) _ _ ⟨i + 1, D2, R ++ [x], v5, by omega, rfl, by simp; omega, ?_, ls2, ?_⟩ (by omega)
      · intro z hz
        rcases List.mem_append.1 hz with hz | hz
        · exact hRs z hz
        · simp at hz; subst hz; exact hxm
      · have e : strs (R ++ [x]) = strs R ++ [.string (bstr x)] := by simp [strs]
        rw [e, List.length_append]
        have h' := h.pick1.tail.pick1.pick2
        rw [List.length_append] at h'
        exact h'
  · have hlt' : ¬ (i : Int) < (L.length : Int) := by omega
    simp only [hlt', xs, xd]
    exact SealFull_j3 hK h2 hS hs (by omega) hRs h ls1
theorem SealFull_law (rm : Int) (hrm : -9223372036854775808 ≤ rm ∧ rm ≤ 9223372036854775807) (hK : ∀ w', Hp w' [InpA W] → K (.bool true) w') (h0 : RdBs W v1 L) (h1 : RdBs W v2 S) (hLm : L.length ≤ 9223372036854775807) (hSm : S.length ≤ 9223372036854775807) : law6_SealFull_main K (i64 rm) v1 v2 W := by
  unfold law6_SealFull_main
  rw [xConv_int _ _ .u64 .i64 _ und.int und.uint]
  have hu : 0 ≤ IntKind.u64.wrap rm ∧ IntKind.u64.wrap rm ≤ 18446744073709551615 := by simp [IntKind.wrap, IntKind.bits, IntKind.signed]; omega
  generalize IntKind.u64.wrap rm = u at hu
  rw [xBin_rem _ _ _ _ (by omega), xConv_int _ _ .i64 .u64 _ und.uint und.int]
  have hmod : u.tmod 341 = u % 341 := Int.tmod_eq_emod_of_nonneg hu.1
  rw [hmod, wrap_i64 (by omega) (by omega)]
  simp only [xb]
  rw [wrap_i64 (by omega) (by omega)]
  obtain ⟨room, hroom, hr⟩ : ∃ room : Nat, (60 : Int) + u % 341 = room ∧ room ≤ 400 := ⟨(60 + u % 341).toNat, by omega, by omega⟩
  rw [hroom]
  refine New_hp (Hp.inp W) room (by omega) ?_
  intro d w1 h
  have hb0 : RdBs w1 v1 L := h0.inp h (by simp)
  have hb1 : RdBs w1 v2 S := h1.inp h (by simp)
  simp only [xs, xb, xd, xEq_ptr und.p_disk_Disk, Option.isNone_some, hb0.len und.s_s_uint8]
  have gone : ∀ {w : World} {l : List Asn}, Hp w l → InpA W ∈ l → xCall P nr.law6_told [] w K := fun h hm => told6_hp h fun w' h => hK w' (Hp_only h hm)
  by_cases hL : (40 : Int) < (L.length : Int)
  · simp only [hL, xs, xd]
    exact gone h (by simp)
  simp only [hL, xs, xb, xd, hb1.len und.s_s_uint8]
  by_cases hS : (6 : Int) < (S.length : Int)
  · simp only [hS, xs, xd]
    exact gone h (by simp)
  simp only [hS, xs, xd]
  refine Reopen_ls h LS.nil (by simp) ?_
  intro p vs vr w2 D1 ls1 h
  simp only [xs, xb, xd, xEq_ptr und.p_seal_Log, Option.isNone_some]
  have h : Hp w2 [LogA p d 0 0, DiskA d room D1, InpA W] := h.pick1.tail.pick1.tail
  refine Lp.gen (fun m s w' => ∃ i : Nat, m + i = L.length + S.length ∧ s = [i64 i] ∧ (∀ x ∈ (L ++ S).take i, sm x) ∧ Hp w' [LogA p d 0 0, DiskA d room D1, InpA W]) (L.length + S.length) ⟨0, by omega, rfl, by simp, h⟩ ?_
  rintro m s w3 ⟨i, hm, rfl, hsm, h⟩ X hX
  have hb0 : RdBs w3 v1 L := h0.inp h (by simp)
  have hb1 : RdBs w3 v2 S := h1.inp h (by simp)
  have step : ∀ (v : Value) (xss : List (List UInt8)) (k : Nat) (x : List UInt8), RdBs w3 v xss → xss[k]? = some x → (L ++ S)[i]? = some x → law6_SealFull_j2 K X (i64 i) v (i64 k) w3 := by
    intro v xss k x hb hx hi
    unfold law6_SealFull_j2
    obtain ⟨p0, u, i0, q0, hru⟩ := hb.at und.s_s_uint8 inf.s_uint8 rfl hx
    have hlen : ∀ (w : World) (K : VCont), xLen P .pure #[ty.s_uint8] u w K = K (i64 x.length) w := fun w K => by rw [rd_len hru und.s_uint8, List.length_map]
    simp only [i0, q0, xs, xb, hlen]
    by_cases h1 : (x.length : Int) < 1
    · simp only [h1, xs, xd]
      exact gone h (by simp)
    simp only [h1, xs, xb, xd, i0, q0, hlen]
    by_cases h2 : (40 : Int) < (x.length : Int)
    · simp only [h2, xs, xd]
      exact gone h (by simp)
    simp only [h2, xs, xd]
    have hil := (List.getElem?_eq_some_iff.1 hi).1
    rw [List.length_append] at hil
    rw [i64_succ (by omega)]
    refine hX (m - 1) _ _ ⟨i + 1, by omega, rfl, ?_, h⟩ (by omega)
    intro z hz
    rw [List.take_add_one, hi] at hz
    rcases List.mem_append.1 hz with hz | hz
    · exact hsm z hz
    · simp at hz; subst hz; exact ⟨by omega, by omega⟩
  unfold law6_SealFull_l1
  have hadd : IntKind.i64.wrap ((L.length : Int) + (S.length : Int)) = ((L.length + S.length : Nat) : Int) := by rw [wrap_i64 (by omega) (by omega)]; omega
  simp only [List.getD_cons_zero, hb0.len und.s_s_uint8, hb1.len und.s_s_uint8, xs, xb, hadd]
  by_cases hlt : i < L.length + S.length
  · have hlt' : (i : Int) < ((L.length + S.length : Nat) : Int) := by omega
    simp only [hlt', xs, xd]
    by_cases hge : L.length ≤ i
    · have hge' : (L.length : Int) ≤ (i : Int) := by omega
      have hsub : IntKind.i64.wrap ((i : Int) - (L.length : Int)) = ((i - L.length : Nat) : Int) := by rw [wrap_i64 (by omega) (by omega)]; omega
      simp only [hge', xs, xd, hsub]
      have hx := List.getElem?_eq_getElem (show i - L.length < S.length by omega)
      exact step v2 S (i - L.length) _ hb1 hx (by rw [List.getElem?_append_right hge]; exact hx)
    · have hge' : ¬ (L.length : Int) ≤ (i : Int) := by omega
      simp only [hge', xs, xd]
      have hx := List.getElem?_eq_getElem (show i < L.length by omega)
      exact step v1 L i _ hb0 hx (by rw [List.getElem?_append_left (by omega)]; exact hx)
  · have hlt' : ¬ (i : Int) < ((L.length + S.length : Nat) : Int) := by omega
    simp only [hlt', xs, xd]
    rw [List.take_of_length_le (by rw [List.length_append]; omega)] at hsm
    exact SealFull_j0 hK h0 h1 (by omega) (fun x hx => hsm x (by simp [hx])) (by omega) (fun x hx => hsm x (by simp [hx])) hr h ls1
end
end Go.Proofs.Ytamejkogghpbhaa
