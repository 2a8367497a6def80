/- The document's disk: renaming, crashing. -/
import Derived.Test.YtamejkogghpbhaaRefD8
set_option linter.unusedVariables false
set_option linter.unusedSimpArgs false
namespace Go.Proofs.Ytamejkogghpbhaa
open Go.Sx
theorem ldN_ok {w : World} {n : Nat} {a : Addr} {cs : List Value} (hl : cs.length = n) (h : ∀ i, i < n → w.cell? (a.add i) = cs[i]?) : (xLoadN n (.pointer (some a)) w fun t w' => w' = w ∧ t = .agg cs.toArray) :=
  ⟨a, cs, rfl, hl, h, rfl, rfl⟩
theorem blk3 {w : World} {y : Nat} {c0 c1 c2 : Value} (h : ∀ o, w.cell? ⟨y, o, none⟩ = [c0, c1, c2][o]?) (i : Nat) (hi : i < 3) : w.cell? ((⟨y, 0, none⟩ : Addr).add i) = [c0, c1, c2][i]? := by
  rw [Addr.add_none, h, Nat.zero_add]
/-- the rows with one more, in the three orders: what stands ahead of the store -/
theorem rins_2 {w : World} {l : List Asn} {x i : Nat} {r0 sv v30 v35 : Value} {R : List RF} {f : RF} {y Y : Nat} {C : Value → World → Prop} (h : Hp w (BlkA x ty.ref5_D [r0, sv] :: SlA ty.ref5_File 3 sv R.length (flat R) :: BlkA y Y (rcell f) :: l)) (hi : i ≤ R.length) (hl : R.length ≤ 1000000)
    (r30 : ∀ w', Own w' ty.ref5_File 3 sv R.length (flat R) → RdN w' 3 v30 i ((flat R).take (i * 3))) (r35 : ∀ w', Own w' ty.ref5_File 3 sv R.length (flat R) → RdN w' 3 v35 (R.length - i) ((flat R).drop (i * 3)))
    
    (hK : ∀ v w', Hp w' (SlA ty.ref5_File 3 v (R.length + 1) (flat (R.take i ++ f :: R.drop i)) :: BlkA x ty.ref5_D [r0, sv] :: BlkA y Y (rcell f) :: l) → C v w') :
    (xBuildSlice P ty.s_ref5_File 0 [] w fun t36 w =>
    (xLoad1 (ptr0 x 1) w fun t37 w' => w' = w ∧ t37 = sv) ∧ (xLoadN 3 (ptr0 y 0) w fun t37 w' => w' = w ∧ t37 = .agg (rcell f).toArray) ∧ (xLoad1 (ptr0 x 1) w fun t37 w' => w' = w ∧ t37 = sv) ∧
    (xBuiltin P .append #[ty.s_ref5_File, ty.s_ref5_File] ty.s_ref5_File [false, false] [t36, v30] w fun t39 w =>
    (xLoad1 (ptr0 x 1) w fun t37 w' => w' = w ∧ t37 = sv) ∧ (xLoadN 3 (ptr0 y 0) w fun t37 w' => w' = w ∧ t37 = .agg (rcell f).toArray) ∧
    xBuildSlice P ty.s_ref5_File 1 [(0, (.agg (rcell f).toArray))] w fun t41 w =>
    (xLoad1 (ptr0 x 1) w fun t37 w' => w' = w ∧ t37 = sv) ∧
    xBuiltin P .append #[ty.s_ref5_File, ty.s_ref5_File] ty.s_ref5_File [false, false] [t39, t41] w fun t43 w =>
    (xLoad1 (ptr0 x 1) w fun t37 w' => w' = w ∧ t37 = sv) ∧
    xBuiltin P .append #[ty.s_ref5_File, ty.s_ref5_File] ty.s_ref5_File [false, false] [t43, v35] w C) ∧
    (xBuildSlice P ty.s_ref5_File 1 [(0, (.agg (rcell f).toArray))] w fun t48 w =>
    (xLoad1 (ptr0 x 1) w fun t37 w' => w' = w ∧ t37 = sv) ∧ (xLoad1 (ptr0 x 1) w fun t37 w' => w' = w ∧ t37 = sv) ∧
    xBuiltin P .append #[ty.s_ref5_File, ty.s_ref5_File] ty.s_ref5_File [false, false] [t36, v30] w fun t51 w =>
    (xLoad1 (ptr0 x 1) w fun t37 w' => w' = w ∧ t37 = sv) ∧
    xBuiltin P .append #[ty.s_ref5_File, ty.s_ref5_File] ty.s_ref5_File [false, false] [t51, t48] w fun t53 w =>
    (xLoad1 (ptr0 x 1) w fun t37 w' => w' = w ∧ t37 = sv) ∧
    xBuiltin P .append #[ty.s_ref5_File, ty.s_ref5_File] ty.s_ref5_File [false, false] [t53, v35] w C)) ∧
    (xBuildSlice P ty.s_ref5_File 1 [(0, (.agg (rcell f).toArray))] w fun t58 w =>
    (xLoad1 (ptr0 x 1) w fun t37 w' => w' = w ∧ t37 = sv) ∧ (xLoad1 (ptr0 x 1) w fun t37 w' => w' = w ∧ t37 = sv) ∧
    xBuildSlice P ty.s_ref5_File 0 [] w fun t61 w =>
    (xLoad1 (ptr0 x 1) w fun t37 w' => w' = w ∧ t37 = sv) ∧ (xLoad1 (ptr0 x 1) w fun t37 w' => w' = w ∧ t37 = sv) ∧
    xBuiltin P .append #[ty.s_ref5_File, ty.s_ref5_File] ty.s_ref5_File [false, false] [t61, v30] w fun t64 w =>
    (xLoad1 (ptr0 x 1) w fun t37 w' => w' = w ∧ t37 = sv) ∧
    xBuiltin P .append #[ty.s_ref5_File, ty.s_ref5_File] ty.s_ref5_File [false, false] [t64, t58] w fun t66 w =>
    (xLoad1 (ptr0 x 1) w fun t37 w' => w' = w ∧ t37 = sv) ∧
    xBuiltin P .append #[ty.s_ref5_File, ty.s_ref5_File] ty.s_ref5_File [false, false] [t66, v35] w C) := by
  have one3 : ∀ u ∈ rcell f, u.oneCell' = true := by simp [rcell, Value.oneCell']
  have one_t : ∀ u ∈ (flat R).take (i * 3), u.oneCell' = true := fun u hu => flat_one R u (List.mem_of_mem_take hu)
  have one_d : ∀ u ∈ (flat R).drop (i * 3), u.oneCell' = true := fun u hu => flat_one R u (List.mem_of_mem_drop hu)
  have fin : ∀ v w', Hp w' (SlA ty.ref5_File 3 v (0 + i + 1 + (R.length - i)) ((([] : List Value) ++ (flat R).take (i * 3)) ++ rcell f ++ (flat R).drop (i * 3)) :: BlkA x ty.ref5_D [r0, sv] :: BlkA y Y (rcell f) :: l) → C v w' := by
    intro v w' h
    have e1 : (([] : List Value) ++ (flat R).take (i * 3)) ++ rcell f ++ (flat R).drop (i * 3) = flat (R.take i ++ f :: R.drop i) := by rw [flat_append, flat_cons, flat_take, flat_drop, List.nil_append, List.append_assoc]
    rw [e1, show 0 + i + 1 + (R.length - i) = R.length + 1 by omega] at h
    exact hK v w' h
  refine ⟨?_, ?_⟩
  · refine Hp.sl0 (size := 3) und.s_ref5_File inf.ref5_File rfl h ?_
    intro v1 w1 h
    refine ⟨ld_ok (by rw [h.c1]; rfl), ldN_ok rfl (blk3 h.c3), ld_ok (by rw [h.c1]; rfl), ?_, ?_⟩
    · refine Hp.app (size := 3) (bytes := 40) und.s_ref5_File inf.ref5_File rfl rfl rfl rfl h (r30 _ h.pick2.own) one_t (by omega) (by omega) ?_
      intro v2 w2 h
      refine ⟨ld_ok (by rw [h.c1]; rfl), ldN_ok rfl (blk3 h.c3), ?_⟩
      refine Hp.sl1 (size := 3) und.s_ref5_File inf.ref5_File rfl (by omega) (by omega) rfl rfl h rfl rfl ?_
      intro v3 w3 h
      refine ⟨ld_ok (by rw [h.c2]; rfl), ?_⟩
      refine Hp.app (size := 3) (bytes := 40) und.s_ref5_File inf.ref5_File rfl rfl rfl rfl h.pick1 h.own.rdN one3 (by omega) (by omega) ?_
      intro v4 w4 h
      refine ⟨ld_ok (by rw [h.c2]; rfl), ?_⟩
      refine Hp.app (size := 3) (bytes := 40) und.s_ref5_File inf.ref5_File rfl rfl rfl rfl h (r35 _ h.pick3.own) one_d (by omega) (by omega) ?_
      intro v5 w5 h
      exact fin v5 w5 (h.pick3.tail.pick1.tail)
    · refine Hp.sl1 (size := 3) und.s_ref5_File inf.ref5_File rfl (by omega) (by omega) rfl rfl h rfl rfl ?_
      intro v3 w3 h
      refine ⟨ld_ok (by rw [h.c2]; rfl), ld_ok (by rw [h.c2]; rfl), ?_⟩
      refine Hp.app (size := 3) (bytes := 40) und.s_ref5_File inf.ref5_File rfl rfl rfl rfl h.pick1 (r30 _ h.pick3.own) one_t (by omega) (by omega) ?_
      intro v2 w2 h
      refine ⟨ld_ok (by rw [h.c2]; rfl), ?_⟩
      refine Hp.app (size := 3) (bytes := 40) und.s_ref5_File inf.ref5_File rfl rfl rfl rfl h h.pick1.own.rdN one3 (by omega) (by omega) ?_
      intro v4 w4 h
      refine ⟨ld_ok (by rw [h.c2]; rfl), ?_⟩
      refine Hp.app (size := 3) (bytes := 40) und.s_ref5_File inf.ref5_File rfl rfl rfl rfl h (r35 _ h.pick3.own) one_d (by omega) (by omega) ?_
      intro v5 w5 h
      exact fin v5 w5 (h.pick3.tail.pick1.tail)
  · refine Hp.sl1 (size := 3) und.s_ref5_File inf.ref5_File rfl (by omega) (by omega) rfl rfl h rfl rfl ?_
    intro v3 w3 h
    refine ⟨ld_ok (by rw [h.c1]; rfl), ld_ok (by rw [h.c1]; rfl), ?_⟩
    refine Hp.sl0 (size := 3) und.s_ref5_File inf.ref5_File rfl h ?_
    intro v1 w1 h
    refine ⟨ld_ok (by rw [h.c2]; rfl), ld_ok (by rw [h.c2]; rfl), ?_⟩
    refine Hp.app (size := 3) (bytes := 40) und.s_ref5_File inf.ref5_File rfl rfl rfl rfl h (r30 _ h.pick3.own) one_t (by omega) (by omega) ?_
    intro v2 w2 h
    refine ⟨ld_ok (by rw [h.c2]; rfl), ?_⟩
    refine Hp.app (size := 3) (bytes := 40) und.s_ref5_File inf.ref5_File rfl rfl rfl rfl h h.pick1.own.rdN one3 (by omega) (by omega) ?_
    intro v4 w4 h
    refine ⟨ld_ok (by rw [h.c2]; rfl), ?_⟩
    refine Hp.app (size := 3) (bytes := 40) und.s_ref5_File inf.ref5_File rfl rfl rfl rfl h (r35 _ h.pick3.own) one_d (by omega) (by omega) ?_
    intro v5 w5 h
    exact fin v5 w5 (h.pick3.tail.pick1.tail)
theorem rins_get {R : List RF} {i : Nat} {f : RF} (hi : i ≤ R.length) : (R.take i ++ f :: R.drop i).length = R.length + 1 := by simp; omega
section
variable {w : World} {K : VCont} {x room : Nat} {R : List RF} {F : Nat → Prop}
def rrem (R : List RF) (a : ByteArray) : List RF := if isAt R a then R.take (idx R a) ++ R.drop (idx R a + 1) else R
theorem rrem_len (R : List RF) (a : ByteArray) : (rrem R a).length ≤ R.length := by
  unfold rrem; split
  · simp; omega
  · exact Nat.le_refl _
theorem rrem_hp {l : List Asn} (h : Hp w (RefB x room R :: l)) (hl : R.length ≤ 1000000) (a : ByteArray) (hK : ∀ w' c, (c = if isAt R a then 0 else 5) → Hp w' (RefB x room (rrem R a) :: l) → K (i64 c) w') : xCall P nr.ref5_D_Remove [ptr x, .string a] w K := by
  obtain ⟨F, hF, fr⟩ := h.frame1
  refine rremove_spec (show RefAt w x room R F from hF) hl a ?_ ?_
  · intro hn w' hc
    refine hK w' 5 (by rw [hn]; rfl) ?_
    unfold rrem; rw [hn]
    exact h.keep' hc
  · intro r hr hra w' F' h' hc hm
    have hat : isAt R a = true := by unfold isAt; rw [hr]; simpa using hra
    refine hK w' 0 (by rw [hat]; rfl) ?_
    unfold rrem; rw [hat]
    exact fr w' F' (RefB x room _) h' hc hm
def rren (R : List RF) (a c : ByteArray) (r : RF) : List RF :=
  let R2 := rrem (rrem R a) c
  R2.take (idx R2 c) ++ (c, r.2.1, r.2.2) :: R2.drop (idx R2 c)
theorem rrename_spec {l : List Asn} (h : Hp w (RefB x room R :: l)) (hl : R.length ≤ 999999) (a c : ByteArray)
    (hN : isAt R a = false → ∀ w', Hp w' (RefB x room R :: l) → K (i64 5) w') (hA : isAt R a = true → mayB c = false → ∀ w', Hp w' (RefB x room R :: l) → K (i64 1) w')
    (hE : isAt R a = true → mayB c = true → a = c → ∀ w', Hp w' (RefB x room R :: l) → K (i64 0) w')
    (hK : ∀ r, R[idx R a]? = some r → r.1 = a → mayB c = true → a ≠ c → ∀ w', Hp w' (RefB x room (rren R a c r) :: l) → K (i64 0) w') : xCall P nr.ref5_D_Rename [ptr x, .string a, .string c] w K := by
  refine ref5_D_Rename_call ?_
  unfold ref5_D_Rename_main
  obtain ⟨F, hF, fr⟩ := h.frame1
  refine at_spec (show RefAt w x room R F from hF) (by omega) a ?_
  intro w1 hc1
  have h := h.keep' hc1
  cases hat : isAt R a with
  | false =>
    simp only [xs, xb, xd]
    exact hN hat w1 h
  | true =>
    simp only [xs, xb, xd]
    refine good_spec c ?_
    cases hm : mayB c with
    | false =>
      simp only [xs, xb, xd]
      exact hA hat hm w1 h
    | true =>
      simp only [xs, xb, xd, xEq_str]
      by_cases hac : a = c
      · simp only [hac, xs, xb, xd]
        exact hE hat hm hac w1 h
      simp only [hac, xs, xb, xd]
      obtain ⟨r, hr, hra⟩ := isAt_some hat
      have hlt := (List.getElem?_eq_some_iff.1 hr).1
      obtain ⟨sv, ho⟩ := RefB.open'.1 h
      obtain ⟨g, hg, ix, hcell⟩ := own_at (size := 3) und.s_ref5_File inf.ref5_File rfl ho.pick1.own hlt
      have hf := flat_get hr
      simp only [Nat.zero_add, ho.c0, List.getElem?_cons_zero, List.getElem?_cons_succ, ix]
      refine ⟨_, rcell r, rfl, rfl, ?_, ?_⟩
      · intro i hi
        rw [Addr.add_none]
        rcases i with _ | _ | _ | i
        · exact hcell _ _ hf.1
        · exact hcell _ _ hf.2.1
        · exact hcell _ _ hf.2.2
        · omega
      refine Hp.alloc (cs := [.string ⟨#[]⟩, .string ⟨#[]⟩, i64 0]) h inf.ref5_File rfl rfl ?_
      intro y w2 h
      refine Hp.stN (n := 3) (new := rcell r) h inf.ref5_File rfl rfl rfl (by simp [rcell, Value.oneCell']) (by simp) ?_
      intro w3 h
      replace h : Hp w3 (BlkA y ty.ref5_File (rcell r) :: RefB x room R :: l) := h
      refine rrem_hp h.pick1 (by omega) a ?_
      intro w4 _ _ h
      refine rrem_hp h (Nat.le_trans (rrem_len _ _) (by omega)) c ?_
      intro w5 _ _ h
      simp only [xs]
      refine Hp.st h.pick1 inf.string rfl rfl (by simp [rcell]) ?_
      intro w6 h
      replace h : Hp w6 (RefB x room (rrem (rrem R a) c) :: BlkA y ty.ref5_File (rcell (c, r.2.1, r.2.2)) :: l) := h.pick1
      generalize hR2 : rrem (rrem R a) c = R2 at h
      have hl2 : R2.length ≤ 999999 := by
        have h1 := rrem_len R a
        have h2 := rrem_len (rrem R a) c
        rw [hR2] at h2; omega
      obtain ⟨F2, hF2, fr2⟩ := h.frame1
      refine at_spec (show RefAt w6 x room R2 F2 from hF2) (by omega) c ?_
      intro w7 hc7
      have h := (h.keep' hc7).drew
      have hix := idx_le R2 c
      obtain ⟨sv, ho⟩ := RefB.open'.1 h
      obtain ⟨v30, s30, b30, r30⟩ := head_sl (P := P) und.s_ref5_File inf.ref5_File ho.pick1.own hix
      obtain ⟨v35, s35, b35, r35⟩ := tail_sl (P := P) und.s_ref5_File inf.ref5_File rfl ho.pick1.own hix
      have hN3 : ∀ C : VCont, xLoadN 3 (ptr0 y 0) w7.drew C = C (.agg (rcell (c, r.2.1, r.2.2)).toArray) w7.drew := fun C => xLoadN_blk ho.pick2 rfl
      simp only [xs, xb, xd, Nat.zero_add, ho.c0, List.getElem?_cons_zero, List.getElem?_cons_succ, true_and, s30, s35, hN3]
      have key := rins_2 (f := (c, r.2.1, r.2.2)) (C := fun v w => xStore P ty.s_ref5_File (ptr0 x 1) v w fun _ w => ref5_D_Rename_j0 K w) ho hix (by omega) r30 r35 ?_
      · simpa only [xs, true_and] using key
      intro v w' h
      refine Hp.st h.pick1 inf.s_ref5_File rfl h.own.one (by simp) ?_
      intro w8 h
      unfold ref5_D_Rename_j0
      refine hK r hr hra hm hac w8 ?_
      unfold rren
      simp only [hR2]
      refine RefB.open'.2 ⟨v, ?_⟩
      rw [rins_get hix]
      exact h.pick2.tail
end
end Go.Proofs.Ytamejkogghpbhaa
