/- The document's disk: appending. -/
import Derived.Test.YtamejkogghpbhaaRefD7
import Derived.Test.YtamejkogghpbhaaSepOps
set_option linter.unusedVariables false
set_option linter.unusedSimpArgs false
namespace Go.Proofs.Ytamejkogghpbhaa
open Go.Sx
def radd (R : List RF) (a s : ByteArray) : List RF := match R[idx R a]? with
  | some r => if r.1 = a then R.set (idx R a) (r.1, r.2.1 ++ s, r.2.2) else R.take (idx R a) ++ (a, s, 0) :: R.drop (idx R a)
  | none => R.take (idx R a) ++ (a, s, 0) :: R.drop (idx R a)
theorem rused_ge {R : List RF} {i : Nat} {r : RF} (h : R[i]? = some r) : r.2.1.size ≤ rused R := by
  unfold rused
  have hm := List.mem_of_getElem? h
  obtain ⟨R1, R2, rfl⟩ := List.append_of_mem hm
  simp only [List.map_append, List.map_cons, List.sum_append, List.sum_cons]
  omega
def RefB (x room : Nat) (R : List RF) : Asn where
  holds w F := RefAt w x room R F
  keep := fun h hc hn => h.keep hc hn
  lt := fun h hb => h.lt hb
theorem RefB.open' {w : World} {l : List Asn} {x room : Nat} {R : List RF} : Hp w (RefB x room R :: l) ↔ ∃ sv, Hp w (BlkA x ty.ref5_D [i64 room, sv] :: SlA ty.ref5_File 3 sv R.length (flat R) :: l) := by
  constructor
  · rintro ⟨F1, ⟨sv, h1, h2, h3, h4⟩, h5, h6⟩
    refine ⟨sv, fun b => b = x, ⟨h1, fun _ => Iff.rfl⟩, fun _ _ => trivial, fun b => sv.ownBlock = some b, ⟨h2, fun _ => Iff.rfl⟩, fun b hb => ⟨trivial, fun e => h3 (e ▸ hb)⟩, h6.mono fun b hb => ⟨⟨trivial, fun e => hb.2 ((h4 b).2 (.inl e))⟩, fun e => hb.2 ((h4 b).2 (.inr e))⟩⟩
  · rintro ⟨sv, F1, ⟨h1, h2⟩, _, F2, ⟨h3, h4⟩, h5, h6⟩
    refine ⟨fun b => b = x ∨ sv.ownBlock = some b, ⟨sv, h1, h3, fun e => (h5 x ((h4 x).2 e)).2 ((h2 x).2 rfl), fun _ => Iff.rfl⟩, fun _ _ => trivial, h6.mono fun b hb => ⟨trivial, fun e => ?_⟩⟩
    rcases e with e | e
    · exact hb.1.2 ((h2 b).2 e)
    · exact hb.2 ((h4 b).2 e)
theorem ld_ok {w : World} {a : Addr} {x : Value} (h : w.cell? a = some x) : (xLoad1 (.pointer (some a)) w fun t w' => w' = w ∧ t = x) := by
  rw [xLoad1_cell, h]; exact ⟨rfl, rfl⟩
/-- the rows with one more, in the three orders: what stands ahead of the store -/
theorem rins_1 {w : World} {l : List Asn} {x i : Nat} {r0 sv v30 v35 t31 : Value} {R : List RF} {f : RF} {C : Value → World → Prop} (h : Hp w (BlkA x ty.ref5_D [r0, sv] :: SlA ty.ref5_File 3 sv R.length (flat R) :: l)) (hi : i ≤ R.length) (hl : R.length ≤ 1000000)
    (r30 : ∀ w', Own w' ty.ref5_File 3 sv R.length (flat R) → RdN w' 3 v30 i ((flat R).take (i * 3))) (r35 : ∀ w', Own w' ty.ref5_File 3 sv R.length (flat R) → RdN w' 3 v35 (R.length - i) ((flat R).drop (i * 3)))
    (hc : t31.cells = (rcell f).toArray)
    (hK : ∀ v w', Hp w' (SlA ty.ref5_File 3 v (R.length + 1) (flat (R.take i ++ f :: R.drop i)) :: BlkA x ty.ref5_D [r0, sv] :: l) → C v w') :
    (xBuildSlice P ty.s_ref5_File 0 [] w fun t36 w =>
    (xLoad1 (ptr0 x 1) w fun t37 w' => w' = w ∧ t37 = sv) ∧ (xLoad1 (ptr0 x 1) w fun t37 w' => w' = w ∧ t37 = sv) ∧
    (xBuiltin P .append #[ty.s_ref5_File, ty.s_ref5_File] ty.s_ref5_File [false, false] [t36, v30] w fun t39 w =>
    (xLoad1 (ptr0 x 1) w fun t37 w' => w' = w ∧ t37 = sv) ∧
    xBuildSlice P ty.s_ref5_File 1 [(0, t31)] w fun t41 w =>
    (xLoad1 (ptr0 x 1) w fun t37 w' => w' = w ∧ t37 = sv) ∧
    xBuiltin P .append #[ty.s_ref5_File, ty.s_ref5_File] ty.s_ref5_File [false, false] [t39, t41] w fun t43 w =>
    (xLoad1 (ptr0 x 1) w fun t37 w' => w' = w ∧ t37 = sv) ∧
    xBuiltin P .append #[ty.s_ref5_File, ty.s_ref5_File] ty.s_ref5_File [false, false] [t43, v35] w C) ∧
    (xBuildSlice P ty.s_ref5_File 1 [(0, t31)] w fun t48 w =>
    (xLoad1 (ptr0 x 1) w fun t37 w' => w' = w ∧ t37 = sv) ∧ (xLoad1 (ptr0 x 1) w fun t37 w' => w' = w ∧ t37 = sv) ∧
    xBuiltin P .append #[ty.s_ref5_File, ty.s_ref5_File] ty.s_ref5_File [false, false] [t36, v30] w fun t51 w =>
    (xLoad1 (ptr0 x 1) w fun t37 w' => w' = w ∧ t37 = sv) ∧
    xBuiltin P .append #[ty.s_ref5_File, ty.s_ref5_File] ty.s_ref5_File [false, false] [t51, t48] w fun t53 w =>
    (xLoad1 (ptr0 x 1) w fun t37 w' => w' = w ∧ t37 = sv) ∧
    xBuiltin P .append #[ty.s_ref5_File, ty.s_ref5_File] ty.s_ref5_File [false, false] [t53, v35] w C)) ∧
    (xBuildSlice P ty.s_ref5_File 1 [(0, t31)] w fun t58 w =>
    (xLoad1 (ptr0 x 1) w fun t37 w' => w' = w ∧ t37 = sv) ∧ (xLoad1 (ptr0 x 1) w fun t37 w' => w' = w ∧ t37 = sv) ∧
    xBuildSlice P ty.s_ref5_File 0 [] w fun t61 w =>
    (xLoad1 (ptr0 x 1) w fun t37 w' => w' = w ∧ t37 = sv) ∧ (xLoad1 (ptr0 x 1) w fun t37 w' => w' = w ∧ t37 = sv) ∧
    xBuiltin P .append #[ty.s_ref5_File, ty.s_ref5_File] ty.s_ref5_File [false, false] [t61, v30] w fun t64 w =>
    (xLoad1 (ptr0 x 1) w fun t37 w' => w' = w ∧ t37 = sv) ∧
    xBuiltin P .append #[ty.s_ref5_File, ty.s_ref5_File] ty.s_ref5_File [false, false] [t64, t58] w fun t66 w =>
    (xLoad1 (ptr0 x 1) w fun t37 w' => w' = w ∧ t37 = sv) ∧
    xBuiltin P .append #[ty.s_ref5_File, ty.s_ref5_File] ty.s_ref5_File [false, false] [t66, v35] w C) := by
  have one3 : ∀ u ∈ rcell f, u.oneCell' = true := by simp [rcell, Value.oneCell']
  have one_t : ∀ u ∈ (flat R).take (i * 3), u.oneCell' = true := fun u hu => flat_one R u (List.mem_of_mem_take hu)
  have one_d : ∀ u ∈ (flat R).drop (i * 3), u.oneCell' = true := fun u hu => flat_one R u (List.mem_of_mem_drop hu)
  have fin : ∀ v w', Hp w' (SlA ty.ref5_File 3 v (0 + i + 1 + (R.length - i)) ((([] : List Value) ++ (flat R).take (i * 3)) ++ rcell f ++ (flat R).drop (i * 3)) :: BlkA x ty.ref5_D [r0, sv] :: l) → C v w' := by
    intro v w' h
    have e1 : (([] : List Value) ++ (flat R).take (i * 3)) ++ rcell f ++ (flat R).drop (i * 3) = flat (R.take i ++ f :: R.drop i) := by rw [flat_append, flat_cons, flat_take, flat_drop, List.nil_append, List.append_assoc]
    rw [e1, show 0 + i + 1 + (R.length - i) = R.length + 1 by omega] at h
    exact hK v w' h
  refine ⟨?_, ?_⟩
  · refine Hp.sl0 (size := 3) und.s_ref5_File inf.ref5_File rfl h ?_
    intro v1 w1 h
    refine ⟨ld_ok (by rw [h.c1]; rfl), ld_ok (by rw [h.c1]; rfl), ?_, ?_⟩
    · refine Hp.app (size := 3) (bytes := 40) und.s_ref5_File inf.ref5_File rfl rfl rfl rfl h (r30 _ h.pick2.own) one_t (by omega) (by omega) ?_
      intro v2 w2 h
      refine ⟨ld_ok (by rw [h.c1]; rfl), ?_⟩
      refine Hp.sl1 (size := 3) und.s_ref5_File inf.ref5_File rfl (by omega) (by omega) rfl rfl h hc rfl ?_
      intro v3 w3 h
      refine ⟨ld_ok (by rw [h.c2]; rfl), ?_⟩
      refine Hp.app (size := 3) (bytes := 40) und.s_ref5_File inf.ref5_File rfl rfl rfl rfl h.pick1 h.own.rdN one3 (by omega) (by omega) ?_
      intro v4 w4 h
      refine ⟨ld_ok (by rw [h.c2]; rfl), ?_⟩
      refine Hp.app (size := 3) (bytes := 40) und.s_ref5_File inf.ref5_File rfl rfl rfl rfl h (r35 _ h.pick3.own) one_d (by omega) (by omega) ?_
      intro v5 w5 h
      exact fin v5 w5 (h.pick3.tail.pick1.tail)
    · refine Hp.sl1 (size := 3) und.s_ref5_File inf.ref5_File rfl (by omega) (by omega) rfl rfl h hc rfl ?_
      intro v3 w3 h
      refine ⟨ld_ok (by rw [h.c2]; rfl), ld_ok (by rw [h.c2]; rfl), ?_⟩
      refine Hp.app (size := 3) (bytes := 40) und.s_ref5_File inf.ref5_File rfl rfl rfl rfl h.pick1 (r30 _ h.pick3.own) one_t (by omega) (by omega) ?_
      intro v2 w2 h
      refine ⟨ld_ok (by rw [h.c2]; rfl), ?_⟩
      refine Hp.app (size := 3) (bytes := 40) und.s_ref5_File inf.ref5_File rfl rfl rfl rfl h h.pick1.own.rdN one3 (by omega) (by omega) ?_
      intro v4 w4 h
      refine ⟨ld_ok (by rw [h.c2]; rfl), ?_⟩
      refine Hp.app (size := 3) (bytes := 40) und.s_ref5_File inf.ref5_File rfl rfl rfl rfl h (r35 _ h.pick3.own) one_d (by omega) (by omega) ?_
      intro v5 w5 h
      exact fin v5 w5 (h.pick3.tail.pick1.tail)
  · refine Hp.sl1 (size := 3) und.s_ref5_File inf.ref5_File rfl (by omega) (by omega) rfl rfl h hc rfl ?_
    intro v3 w3 h
    refine ⟨ld_ok (by rw [h.c1]; rfl), ld_ok (by rw [h.c1]; rfl), ?_⟩
    refine Hp.sl0 (size := 3) und.s_ref5_File inf.ref5_File rfl h ?_
    intro v1 w1 h
    refine ⟨ld_ok (by rw [h.c2]; rfl), ld_ok (by rw [h.c2]; rfl), ?_⟩
    refine Hp.app (size := 3) (bytes := 40) und.s_ref5_File inf.ref5_File rfl rfl rfl rfl h (r30 _ h.pick3.own) one_t (by omega) (by omega) ?_
    intro v2 w2 h
    refine ⟨ld_ok (by rw [h.c2]; rfl), ?_⟩
    refine Hp.app (size := 3) (bytes := 40) und.s_ref5_File inf.ref5_File rfl rfl rfl rfl h h.pick1.own.rdN one3 (by omega) (by omega) ?_
    intro v4 w4 h
    refine ⟨ld_ok (by rw [h.c2]; rfl), ?_⟩
    refine Hp.app (size := 3) (bytes := 40) und.s_ref5_File inf.ref5_File rfl rfl rfl rfl h (r35 _ h.pick3.own) one_d (by omega) (by omega) ?_
    intro v5 w5 h
    exact fin v5 w5 (h.pick3.tail.pick1.tail)
theorem build_rfile {w : World} {K : VCont} (a : ByteArray) : xBuild P 76 [(0, .string a)] w K = K (.agg #[.string a, .string ⟨#[]⟩, i64 0]) w := by
  unfold xBuild
  exact xp_iff fun w' => by kernel_rfl
section
variable {w : World} {K : VCont} {x room : Nat} {R : List RF} {F : Nat → Prop}
theorem rappend_j0 (h : RefAt w x room R F) {i : Nat} {r : RF} (hr : R[i]? = some r) {s : ByteArray} (hs : r.2.1.size + s.size ≤ 9223372036854775807)
    (hK : ∀ w', RefAt w' x room (R.set i (r.1, r.2.1 ++ s, r.2.2)) F → Chg F w w' → K (i64 0) w') : ref5_D_Append_j0 K (ptr x) (.string s) (i64 i) w := by
  have h := h.keep' (Chg.drew _ none')
  obtain ⟨sv, hb, ho, hne, hF⟩ := id h
  have hlt := (List.getElem?_eq_some_iff.1 hr).1
  obtain ⟨g, hg, ix, hc⟩ := own_at (size := 3) und.s_ref5_File inf.ref5_File rfl ho hlt
  have hf := flat_get hr
  unfold ref5_D_Append_j0
  simp only [xs, xb, xd, Nat.zero_add, cell_of_block hb, List.getElem?_toArray, List.getElem?_cons_zero, List.getElem?_cons_succ, ix, hc _ _ hf.2.1, true_and]
  rw [xBin_cat _ _ _ hs]
  refine rset hb ho hne hF inf.string rfl rfl hg (by omega) ((flat_set hr).1 _) (by simp) ?_
  intro w2 hb2 ho2 hc2
  exact hK w2 ⟨sv, hb2, by simpa using ho2, hne, hF⟩ ((Chg.drew _ _).trans hc2)
theorem rappend_spec {l : List Asn} (h : Hp w (RefB x room R :: l)) (hl : R.length ≤ 999999) (hu : rused R ≤ 1000000) (hroom : room ≤ 1000000) (a s : ByteArray) (hs : s.size ≤ 1000000)
    (hA : mayB a = false → K (i64 1) w) (hR : mayB a = true → room < rused R + s.size → ∀ w', Hp w' (RefB x room R :: l) → K (i64 4) w')
    (hK : mayB a = true → rused R + s.size ≤ room → ∀ w', Hp w' (RefB x room (radd R a s) :: l) → K (i64 0) w') : xCall P nr.ref5_D_Append [ptr x, .string a, .string s] w K := by
  refine ref5_D_Append_call ?_
  unfold ref5_D_Append_main
  refine good_spec a ?_
  cases hm : mayB a with
  | false =>
    simp only [xs, xb, xd]
    exact hA hm
  | true =>
    have h := h.drew
    obtain ⟨sv, ho⟩ := RefB.open'.1 h
    obtain ⟨F, hF, fr⟩ := h.frame1
    have hf : RefAt w.drew x room R F := hF
    simp only [xs, xb, xd, xLen_string und.string, Nat.zero_add, ho.c0, List.getElem?_cons_zero, true_and]
    refine rused_spec hf (by omega) hu ?_
    simp only [xs, xb, xd, Nat.zero_add, ho.c0, List.getElem?_cons_zero, true_and, and_self]
    rw [wrap_i64 (by omega) (by omega)]
    by_cases hfull : room < rused R + s.size
    · have : (room : Int) - (rused R : Int) < ((s.size : Nat) : Int) := by omega
      simp only [this, xs, xb, xd]
      exact hR hm hfull _ h
    have : ¬ (room : Int) - (rused R : Int) < ((s.size : Nat) : Int) := by omega
    simp only [this, xs, xb, xd]
    have hK := hK hm (by omega)
    refine at_spec hf (by omega) a ?_
    intro w1 hc1
    have h1 := h.keep' hc1
    have ho1 := (ho.keep' hc1).drew
    simp only [xs, xb, xd]
    cases hat : isAt R a with
    | true =>
      obtain ⟨r, hr, hra⟩ := isAt_some hat
      have hge := rused_ge hr
      simp only [xs, xb, xd]
      obtain ⟨F1, hF1, fr1⟩ := h1.frame1
      refine rappend_j0 (show RefAt w1 x room R F1 from hF1) hr (by omega) ?_
      intro w2 h2 hc2
      refine hK w2 (fr1 w2 F1 (RefB x room _) ?_ hc2 (fun b hb => .inl hb))
      show RefAt w2 x room _ F1
      unfold radd
      rw [hr]
      simpa [hra] using h2
    | false =>
      have hix := idx_le R a
      obtain ⟨v30, s30, b30, r30⟩ := head_sl (P := P) und.s_ref5_File inf.ref5_File ho1.pick1.own hix
      obtain ⟨v35, s35, b35, r35⟩ := tail_sl (P := P) und.s_ref5_File inf.ref5_File rfl ho1.pick1.own hix
      simp only [xs, xb, xd, Nat.zero_add, ho1.c0, List.getElem?_cons_zero, List.getElem?_cons_succ, true_and, s30, s35, build_rfile]
      have key := rins_1 (f := (a, ⟨#[]⟩, 0)) (C := fun v w => xStore P ty.s_ref5_File (ptr0 x 1) v w fun _ w => ref5_D_Append_j0 K (ptr x) (.string s) (i64 (idx R a)) w) ho1 hix (by omega) r30 r35 (t31 := .agg #[.string a, .string ⟨#[]⟩, i64 0]) rfl ?_
      · simpa only [xs, true_and] using key
      intro v w' h
      refine Hp.st h.pick1 inf.s_ref5_File rfl h.own.one (by simp) ?_
      intro w2 h
      have hl2 : (R.take (idx R a) ++ (a, ⟨#[]⟩, 0) :: R.drop (idx R a)).length = R.length + 1 := by simp; omega
      rw [← hl2] at h
      have h := RefB.open'.2 ⟨v, h⟩
      obtain ⟨F1, hF1, fr1⟩ := h.frame1
      refine rappend_j0 (show RefAt w2 x room _ F1 from hF1) (i := idx R a) (r := (a, ⟨#[]⟩, 0)) ?_ (by show 0 + s.size ≤ _; omega) ?_
      · rw [List.getElem?_append_right (by rw [List.length_take]; omega)]
        simp [Nat.min_eq_left hix]
      intro w3 h3 hc3
      refine hK w3 (fr1 w3 F1 (RefB x room _) ?_ hc3 (fun b hb => .inl hb))
      show RefAt w3 x room _ F1
      have e : radd R a s = (R.take (idx R a) ++ (a, ⟨#[]⟩, 0) :: R.drop (idx R a)).set (idx R a) (a, ⟨#[]⟩ ++ s, 0) := by
        have e1 : (⟨#[]⟩ ++ s : ByteArray) = s := ByteArray.empty_append
        rw [e1]
        have e2 : (R.take (idx R a) ++ (a, (⟨#[]⟩ : ByteArray), 0) :: R.drop (idx R a)).set (idx R a) (a, s, 0) = R.take (idx R a) ++ (a, s, 0) :: R.drop (idx R a) := by
          rw [List.set_append_right _ _ (by simp; omega)]
          simp [Nat.min_eq_left hix]
        rw [e2]
        unfold radd
        unfold isAt at hat
        cases hr : R[idx R a]? with
        | none => rfl
        | some r =>
          rw [hr] at hat
          have : ¬ r.1 = a := by simpa using hat
          simp [this]
      rw [e]
      exact h3
end
end Go.Proofs.Ytamejkogghpbhaa
