/- SealMany: the law. -/
import Derived.Test.YtamejkogghpbhaaElder
import Derived.Test.YtamejkogghpbhaaTxtMany
set_option linter.unusedVariables false
set_option linter.unusedSimpArgs false
namespace Go.Proofs.Ytamejkogghpbhaa
open Go.Sx
def recs (i k : Nat) : List (List UInt8) := (List.range k).map fun j => [UInt8.ofNat i, UInt8.ofNat j]
theorem recs_len (i k : Nat) : (recs i k).length = k := by simp [recs]
theorem recs_succ (i k : Nat) : recs i (k + 1) = recs i k ++ [[UInt8.ofNat i, UInt8.ofNat k]] := by simp [recs, List.range_succ]
theorem recs_get {i k j : Nat} (h : j < k) : (recs i k)[j]? = some [UInt8.ofNat i, UInt8.ofNat j] := by
  unfold recs; rw [List.getElem?_map, List.getElem?_range h]; rfl
theorem recs_mem {i k : Nat} {x : List UInt8} (h : x ∈ recs i k) : x.length = 2 := by
  unfold recs at h
  obtain ⟨j, _, rfl⟩ := List.mem_map.1 h; rfl
section
variable {W w : World} {K : VCont} {d p : Nat} {D : Ab} {S R L : List (List UInt8)} {y : Nat} {v0 : Value}
theorem ne_u8 {t : TypeId} {cx cy : Bool} (a b : UInt8) : xEq P .neq t cx cy (bv a) (bv b) w K = K (.bool (!decide (a = b))) w := by
  unfold bv
  rw [xNe_int]
  congr 3
  exact decide_eq_decide.2 ⟨fun h => UInt8.toNat_inj.1 (by omega), fun h => by rw [h]⟩
theorem and1_i64 {t : TypeId} (n : Nat) (h : n < 2 ^ 60) : xBin P .and t (i64 n) (.int .i64 1) w K = K (i64 ((n % 2 : Nat) : Int)) w := by
  rw [xBin_and]
  have h : ((BitVec.ofInt IntKind.i64.bits (n : Int) &&& BitVec.ofInt IntKind.i64.bits (1 : Int)).toNat : Nat) = n % 2 := by
    show (BitVec.ofInt 64 (n : Int) &&& BitVec.ofInt 64 ((1 : Nat) : Int)).toNat = n % 2
    rw [BitVec.ofInt_natCast, BitVec.ofInt_natCast, BitVec.toNat_and, BitVec.toNat_ofNat, BitVec.toNat_ofNat, Nat.mod_eq_of_lt (by omega)]
    exact Nat.and_two_pow_sub_one_eq_mod n 1
  rw [h, wrap_i64 (by omega) (by omega)]
theorem SealMany_law {ns : List Int} (hK : ∀ w', Hp w' [InpA W] → K (.bool true) w') (h0 : Rd W v0 (ns.map i64)) (hn : ∀ n ∈ ns, -9223372036854775808 ≤ n ∧ n ≤ 9223372036854775807) : law6_SealMany_main K v0 W := by
  unfold law6_SealMany_main
  refine New_hp (Hp.inp W) 1000000 (by omega) ?_
  intro d w1 h
  simp only [xs, xb, xd, xEq_ptr und.p_disk_Disk, Option.isNone_some]
  refine Reopen_ls h LS.nil (by simp) ?_
  intro p vs vr w2 D1 ls1 h
  simp only [xs, xb, xd, xEq_ptr und.p_seal_Log, Option.isNone_some]
  have h : Hp w2 [LogA p d 0 0, DiskA d 1000000 D1, InpA W] := h.pick1.tail.pick1.tail
  refine Lp.gen (fun m s w' => ∃ (i p : Nat) (D : Ab) (age : Nat) (S R : List (List UInt8)) (y : Nat), m + i = 10 ∧ s = [ptr p, i64 R.length, i64 i] ∧ age ≤ i ∧ R.length ≤ 5 ∧ (∀ x ∈ R, x.length = 2) ∧ (frames S).length ≤ 7 ∧ LS D age S R y ∧ Hp w' [LogA p d age R.length, DiskA d 1000000 D, InpA W]) 10
    ⟨0, p, D1, 0, [], [], 0, rfl, rfl, by omega, by simp, by simp, by simp [frames_nil], ls1, h⟩ ?_
  rintro m s w3 ⟨i, p, D, age, S, R, y, hm, rfl, hage, hR, hR2, hSf, ls, h⟩ X hX
  have stop : law6_SealMany_j0 K (ptr p) (i64 R.length) w3 := by
    unfold law6_SealMany_j0
    refine told6_hp h ?_
    intro w4 h
    simp only [xs, xd]
    refine seal_Len_hp h ?_
    simp only [xs, xb, xd, decide_true]
    exact hK w4 (Hp_only h (by simp))
  unfold law6_SealMany_l1
  have hrd0 : Rd w3 v0 (ns.map i64) := h0.inp h (by simp)
  simp only [List.getD_cons_zero, List.getD_cons_succ, rd_len hrd0 und.s_int, List.length_map, xs, xb]
  by_cases hlt : i < ns.length
  rotate_left
  · have : ¬ (i : Int) < (ns.length : Int) := by omega
    simp only [this, xs, xd]
    exact stop
  have hlt' : (i : Int) < (ns.length : Int) := by omega
  by_cases h10 : i < 10
  rotate_left
  · have : ¬ (i : Int) < 10 := by omega
    simp only [hlt', this, xs, xb, xd]
    exact stop
  have h10' : (i : Int) < 10 := by omega
  have hx := List.getElem?_eq_getElem hlt
  have hxn := hn _ (List.getElem_mem hlt)
  generalize ns[i] = z at hx hxn
  obtain ⟨p0, i0, q0⟩ := at_rd' und.s_int inf.int rfl hrd0 (k := i) (x := i64 z) (by rw [List.getElem?_map, hx]; rfl)
  simp only [hlt', h10', xs, xb, xd, i0, q0 _ hrd0]
  rw [xConv_int _ _ .u64 .i64 _ und.int und.uint]
  have hu : 0 ≤ IntKind.u64.wrap z ∧ IntKind.u64.wrap z ≤ 18446744073709551615 := by simp [IntKind.wrap, IntKind.bits, IntKind.signed]; omega
  generalize IntKind.u64.wrap z = u at hu
  rw [xBin_rem _ _ _ _ (by omega), xConv_int _ _ .i64 .u64 _ und.uint und.int, Int.tmod_eq_emod_of_nonneg hu.1, wrap_i64 (by omega) (by omega)]
  obtain ⟨n, hnn, hn5⟩ : ∃ n : Nat, u % 6 = n ∧ n ≤ 5 := ⟨(u % 6).toNat, by omega, by omega⟩
  rw [hnn, conv_i64_u8 und.int und.uint8]
  -- the state
  refine Hp.sl1 (size := 1) und.s_uint8 inf.uint8 rfl (by omega) (by omega) rfl rfl h (cs := [bv (UInt8.ofNat i)]) rfl rfl ?_
  intro v4 w4 h
  have hv4 := h.own.one
  refine lit1_hp (bs := [UInt8.ofNat i]) (SlA.ro h) hv4 ?_
  intro v5 w5 h
  have hge : (genf ((age : Int) + 1)).length ≤ 16 := (genf_len _).2
  have hRf : (frames R).length ≤ 5 * 8 := Nat.le_trans (frames_le (m := 2) fun x hx => by rw [hR2 x hx]; omega) (Nat.mul_le_mul_right _ hR)
  have hu1 := ls.used
  have hfi : (frames [[UInt8.ofNat i]]).length = 7 := by rw [frames_cons, List.length_append, frame_len]; rfl
  refine Save_ls (S' := [[UInt8.ofNat i]]) (l := [RoA fun w => RdBs w v5 [[UInt8.ofNat i]], InpA W]) h.pick2.pick2 ls (by omega) (fun w h => h.ro) (by simp) (by simp) ?_ ?_ ?_
  · rintro ⟨x, hx, hnf⟩
    simp at hx; subst hx
    exact absurd (show fits [UInt8.ofNat i] from ⟨by simp, by simp⟩) hnf
  · intro _ hroom
    rw [List.length_append, hfi] at hroom
    omega
  intro _ w6 D2 ls2 _ h
  simp only [xs, xb, xd]
  have h : Hp w6 [LogA p d ((age + 1 : Nat) : Int) 0, DiskA d 1000000 D2, InpA W] := h.pick2.tail.pick1.pick1
  replace ls2 : LS D2 ((age + 1 : Nat) : Int) [[UInt8.ofNat i]] [] 0 := ls2
  have hgo : ∀ (p : Nat) (D : Ab) (w : World), LS D ((age + 1 : Nat) : Int) [[UInt8.ofNat i]] (recs i n) n → Hp w [LogA p d ((age + 1 : Nat) : Int) n, DiskA d 1000000 D, InpA W] → law6_SealMany_j2 K X (ptr p) (i64 n) (i64 i) w := by
    intro p D w ls h
    unfold law6_SealMany_j2
    simp only [xb]
    rw [i64_succ (by omega)]
    refine hX (m - 1) _ _ ⟨i + 1, p, D, age + 1, _, recs i n, n, by omega, by rw [recs_len], by omega, by rw [recs_len]; exact hn5, fun x hx => recs_mem hx, by omega, ls, by rw [recs_len]; exact h⟩ (by omega)
  refine Lp.gen (fun m' s w' => ∃ (k : Nat) (D : Ab), m' + k = n ∧ s = [i64 k] ∧ LS D ((age + 1 : Nat) : Int) [[UInt8.ofNat i]] (recs i k) 0 ∧ Hp w' [LogA p d ((age + 1 : Nat) : Int) (recs i k).length, DiskA d 1000000 D, InpA W]) n
    ⟨0, D2, by omega, rfl, ls2, h⟩ ?_
  rintro m' s w7 ⟨k, D3, hk, rfl, ls3, h⟩ Y hY
  unfold law6_SealMany_l4
  simp only [List.getD_cons_zero, xb]
  by_cases hkn : k < n
  · have hkn' : (k : Int) < (n : Int) := by omega
    simp only [hkn', xs, xd]
    rw [conv_i64_u8 und.int und.uint8, conv_i64_u8 und.int und.uint8]
    refine Hp.sln und.s_uint8 inf.uint8 rfl rfl rfl h (vs := [UInt8.ofNat i, UInt8.ofNat k].map bv) rfl rfl (bv_one _) (by omega) ?_
    intro v8 w8 h
    have hu3 := ls3.used
    rw [hfi] at hu3
    have hrf : (frames (recs i k)).length ≤ 5 * 8 := Nat.le_trans (frames_le (m := 2) fun x hx => by rw [recs_mem hx]; omega) (Nat.mul_le_mul_right _ (by rw [recs_len]; omega))
    have hfit : fits [UInt8.ofNat i, UInt8.ofNat k] := ⟨by simp, by simp⟩
    refine Put_ls (b := [UInt8.ofNat i, UInt8.ofNat k]) (l := [SlA ty.uint8 1 v8 2 ([UInt8.ofNat i, UInt8.ofNat k].map bv), InpA W]) h.pick2.pick2 ls3 (by rw [recs_len]; omega) h.own.rd (by simp) (fun hn => absurd hfit hn) (fun _ hroom => by simp at hroom; omega) ?_
    intro _ w9 D4 ls4 h
    simp only [xs, xb, xd]
    rw [i64_succ (by omega)]
    rw [← recs_succ] at ls4 h
    exact hY (m' - 1) _ _ ⟨k + 1, D4, by omega, rfl, ls4, h.pick2.tail.pick1.pick1⟩ (by omega)
  · have hkn' : ¬ (k : Int) < (n : Int) := by omega
    have : k = n := by omega
    subst this
    simp only [hkn', xs, xd]
    unfold law6_SealMany_j3
    rw [recs_len] at h
    refine seal_Len_hp h ?_
    simp only [xs, xb, xd, decide_true]
    refine Sync_ls h ls3 ?_
    intro w8 D4 ls4 h
    simp only [xs, xb, xd]
    rw [and1_i64 _ (by omega)]
    rw [recs_len] at ls4
    by_cases hodd : i % 2 = 1
    · have hodd' : ((i % 2 : Nat) : Int) = 1 := by omega
      simp only [hodd', xs, xb, xd, decide_true]
      refine Crash_ls h.pick1 ls4 0 (by omega) ?_
      intro w9 lc h
      refine Open_ls h lc (by rw [recs_len]; omega) ?_
      intro p2 vs vr w10 D5 m2 hm1 hm2 ls5 _ h
      rw [recs_len] at hm2
      have : m2 = k := by omega
      subst this
      have htk : (recs i m2).take m2 = recs i m2 := List.take_of_length_le (by rw [recs_len]; omega)
      rw [htk] at ls5 h
      have bs := h.pick1.ro
      have br := h.pick2.ro
      have hk1 : (([[UInt8.ofNat i]].length : Nat) : Int) = 1 := rfl
      obtain ⟨p1, u1, i1, q1, r1⟩ := bs.at und.s_s_uint8 inf.s_uint8 rfl (k := 0) (x := [UInt8.ofNat i]) rfl
      obtain ⟨p3, i3, q3⟩ := at_rd' und.s_uint8 inf.uint8 rfl r1 (k := 0) (x := bv (UInt8.ofNat i)) rfl
      have i1' : ∀ (w2 : World) (C : VCont), xIndexAddr P ty.s_s_uint8 vs (.int .i64 0) w2 C = C (.pointer (some p1)) w2 := i1
      have i3' : ∀ (w2 : World) (C : VCont), xIndexAddr P ty.s_uint8 u1 (.int .i64 0) w2 C = C (.pointer (some p3)) w2 := i3
      have l1 : ∀ (w : World) (K : VCont), xLen P .pure #[ty.s_uint8] u1 w K = K (i64 1) w := fun w K => by rw [rd_len r1 und.s_uint8]; rfl
      simp only [xs, xb, xd, xEq_ptr und.p_seal_Log, Option.isNone_some, bs.len und.s_s_uint8, br.len und.s_s_uint8, hk1, decide_true, i1', q1, l1, i3', q3 _ r1, conv_i64_u8 und.int und.uint8, ne_u8, recs_len]
      refine seal_Len_hp h ?_
      simp only [xs, xb, xd, decide_true]
      have hinv : Hp w10 [LogA p2 d ((age + 1 : Nat) : Int) m2, DiskA d 1000000 D5, RoA (fun w => RdBs w vr (recs i m2)), InpA W] := by
        exact h.pick1.tail.pick3.tail.pick2.pick1
      refine Lp.gen (fun m' s w' => w' = w10 ∧ ∃ j : Nat, m' + j = m2 ∧ s = [i64 j]) m2 ⟨rfl, 0, by omega, rfl⟩ ?_
      rintro m'' s w' ⟨rfl, j, hj, rfl⟩ Z hZ
      unfold law6_SealMany_l6
      simp only [List.getD_cons_zero, xb]
      by_cases hjm : j < m2
      · have hjm' : (j : Int) < (m2 : Int) := by omega
        obtain ⟨p4, u4, i4, q4, r4⟩ := br.at und.s_s_uint8 inf.s_uint8 rfl (recs_get hjm)
        obtain ⟨p5, i5, q5⟩ := at_rd' und.s_uint8 inf.uint8 rfl r4 (k := 0) (x := bv (UInt8.ofNat i)) rfl
        obtain ⟨p6, i6, q6⟩ := at_rd' und.s_uint8 inf.uint8 rfl r4 (k := 1) (x := bv (UInt8.ofNat j)) rfl
        have i5' : ∀ (w2 : World) (C : VCont), xIndexAddr P ty.s_uint8 u4 (.int .i64 0) w2 C = C (.pointer (some p5)) w2 := i5
        have i6' : ∀ (w2 : World) (C : VCont), xIndexAddr P ty.s_uint8 u4 (.int .i64 1) w2 C = C (.pointer (some p6)) w2 := i6
        have l4 : ∀ (w : World) (K : VCont), xLen P .pure #[ty.s_uint8] u4 w K = K (i64 2) w := fun w K => by rw [rd_len r4 und.s_uint8]; rfl
        simp only [hjm', xs, xb, xd, i4, q4, l4, i5', q5 _ r4, i6', q6 _ r4, conv_i64_u8 und.int und.uint8, ne_u8, decide_true]
        rw [i64_succ (by omega)]
        exact hZ (m'' - 1) _ _ ⟨rfl, j + 1, by omega, rfl⟩ (by omega)
      · have hjm' : ¬ (j : Int) < (m2 : Int) := by omega
        simp only [hjm', xs, xd]
        unfold law6_SealMany_j5
        exact hgo p2 D5 _ ls5 (hinv.pick2.tail)
    · have hodd' : ¬ ((i % 2 : Nat) : Int) = 1 := by omega
      simp only [hodd', xs, xb, xd]
      exact hgo p D4 _ ls4 h
end
end Go.Proofs.Ytamejkogghpbhaa
