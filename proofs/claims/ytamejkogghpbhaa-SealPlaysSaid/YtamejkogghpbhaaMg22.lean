import Derived.Test.YtamejkogghpbhaaMg21
import Derived.Test.YtamejkogghpbhaaMg9
import Derived.Test.YtamejkogghpbhaaMg17
section
/- The document's disk: appending. -/
set_option linter.unusedVariables false
set_option linter.unusedSimpArgs false
namespace Go.Proofs.Ytamejkogghpbhaa
open Go.Sx
def radd (R : List RF) (a s : ByteArray) : List RF := match R[idx R a]? with
  | some r => if r.1 = a then R.set (idx R a) (r.1, r.2.1 ++ s, r.2.2) else R.take (idx R a) ++ (a, s, 0) :: R.drop (idx R a)
  | none => R.take (idx R a) ++ (a, s, 0) :: R.drop (idx R a)
theorem rused_ge {R : List RF} {i : Nat} {r : RF} (h : R[i]? = some r) : r.2.1.size ≤ rused R := by
  unfold rused
  have hm := List.mem_of_getElem? h
  obtain ⟨R1, R2, rfl⟩ := List.append_of_mem hm
  simp only [List.map_append, List.map_cons, List.sum_append, List.sum_cons]
  omega
def RefB (x room : Nat) (R : List RF) : Asn where
  holds w F := RefAt w x room R F
  keep := fun h hc hn => h.keep hc hn
  lt := fun h hb => h.lt hb
theorem RefB.open' {w : World} {l : List Asn} {x room : Nat} {R : List RF} : Hp w (RefB x room R :: l) ↔ ∃ sv, Hp w (BlkA x ty.ref5_D [i64 room, sv] :: SlA ty.ref5_File 3 sv R.length (flat R) :: l) := by
  constructor
  · rintro ⟨F1, ⟨sv, h1, h2, h3, h4⟩, h5, h6⟩
    refine ⟨sv, fun b => b = x, ⟨h1, fun _ => Iff.rfl⟩, fun _ _ => trivial, fun b => sv.ownBlock = some b, ⟨h2, fun _ => Iff.rfl⟩, fun b hb => ⟨trivial, fun e => h3 (e ▸ hb)⟩, h6.mono fun b hb => ⟨⟨trivial, fun e => hb.2 ((h4 b).2 (.inl e))⟩, fun e => hb.2 ((h4 b).2 (.inr e))⟩⟩
  · rintro ⟨sv, F1, ⟨h1, h2⟩, _, F2, ⟨h3, h4⟩, h5, h6⟩
    refine ⟨fun b => b = x ∨ sv.ownBlock = some b, ⟨sv, h1, h3, fun e => (h5 x ((h4 x).2 e)).2 ((h2 x).2 rfl), fun _ => Iff.rfl⟩, fun _ _ => trivial, h6.mono fun b hb => ⟨trivial, fun e => ?_⟩⟩
    rcases e with e | e
    · exact hb.1.2 ((h2 b).2 e)
    · exact hb.2 ((h4 b).2 e)
theorem ld_ok {w : World} {a : Addr} {x : Value} (h : w.cell? a = some x) : (xLoad1 (.pointer (some a)) w fun t w' => w' = w ∧ t = x) := by
  rw [xLoad1_cell, h]; exact ⟨rfl, rfl⟩
/-- the rows with one more, in the three orders: what stands ahead of the store -/
theorem rins_1 {w : World} {l : List Asn} {x i : Nat} {r0 sv v30 v35 t31 : Value} {R : List RF} {f : RF} {C : Value → World → Prop} (h : Hp w (BlkA x ty.ref5_D [r0, sv] :: SlA ty.ref5_File 3 sv R.length (flat R) :: l)) (hi : i ≤ R.length) (hl : R.length ≤ 1000000)
    (r30 : ∀ w', Own w' ty.ref5_File 3 sv R.length (flat R) → RdN w' 3 v30 i ((flat R).take (i * 3))) (r35 : ∀ w', Own w' ty.ref5_File 3 sv R.length (flat R) → RdN w' 3 v35 (R.length - i) ((flat R).drop (i * 3)))
    (hc : t31.cells = (rcell f).toArray)
    (hK : ∀ v w', Hp w' (SlA ty.ref5_File 3 v (R.length + 1) (flat (R.take i ++ f :: R.drop i)) :: BlkA x ty.ref5_D [r0, sv] :: l) → C v w') :
    (xBuildSlice P ty.s_ref5_File 0 [] w fun t36 w =>
    (xLoad1 (ptr0 x 1) w fun t37 w' => w' = w ∧ t37 = sv) ∧ (xLoad1 (ptr0 x 1) w fun t37 w' => w' = w ∧ t37 = sv) ∧
    (xBuiltin P .append #[ty.s_ref5_File, ty.s_ref5_File] ty.s_ref5_File [false, false] [t36, v30] w fun t39 w =>
    (xLoad1 (ptr0 x 1) w fun t37 w' => w' = w ∧ t37 = sv) ∧
    xBuildSlice P ty.s_ref5_File 1 [(0, t31)] w fun t41 w =>
    (xLoad1 (ptr0 x 1) w fun t37 w' => w' = w ∧ t37 = sv) ∧
    xBuiltin P .append #[ty.s_ref5_File, ty.s_ref5_File] ty.s_ref5_File [false, false] [t39, t41] w fun t43 w =>
    (xLoad1 (ptr0 x 1) w fun t37 w' => w' = w ∧ t37 = sv) ∧
    xBuiltin P .append #[ty.s_ref5_File, ty.s_ref5_File] ty.s_ref5_File [false, false] [t43, v35] w C) ∧
    (xBuildSlice P ty.s_ref5_File 1 [(0, t31)] w fun t48 w =>
    (xLoad1 (ptr0 x 1) w fun t37 w' => w' = w ∧ t37 = sv) ∧ (xLoad1 (ptr0 x 1) w fun t37 w' => w' = w ∧ t37 = sv) ∧
    xBuiltin P .append #[ty.s_ref5_File, ty.s_ref5_File] ty.s_ref5_File [false, false] [t36, v30] w fun t51 w =>
    (xLoad1 (ptr0 x 1) w fun t37 w' => w' = w ∧ t37 = sv) ∧
    xBuiltin P .append #[ty.s_ref5_File, ty.s_ref5_File] ty.s_ref5_File [false, false] [t51, t48] w fun t53 w =>
    (xLoad1 (ptr0 x 1) w fun t37 w' => w' = w ∧ t37 = sv) ∧
    xBuiltin P .append #[ty.s_ref5_File, ty.s_ref5_File] ty.s_ref5_File [false, false] [t53, v35] w C)) ∧
    (xBuildSlice P ty.s_ref5_File 1 [(0, t31)] w fun t58 w =>
    (xLoad1 (ptr0 x 1) w fun t37 w' => w' = w ∧ t37 = sv) ∧ (xLoad1 (ptr0 x 1) w fun t37 w' => w' = w ∧ t37 = sv) ∧
    xBuildSlice P ty.s_ref5_File 0 [] w fun t61 w =>
    (xLoad1 (ptr0 x 1) w fun t37 w' => w' = w ∧ t37 = sv) ∧ (xLoad1 (ptr0 x 1) w fun t37 w' => w' = w ∧ t37 = sv) ∧
    xBuiltin P .append #[ty.s_ref5_File, ty.s_ref5_File] ty.s_ref5_File [false, false] [t61, v30] w fun t64 w =>
    (xLoad1 (ptr0 x 1) w fun t37 w' => w' = w ∧ t37 = sv) ∧
    xBuiltin P .append #[ty.s_ref5_File, ty.s_ref5_File] ty.s_ref5_File [false, false] [t64, t58] w fun t66 w =>
    (xLoad1 (ptr0 x 1) w fun t37 w' => w' = w ∧ t37 = sv) ∧
    xBuiltin P .append #[ty.s_ref5_File, ty.s_ref5_File] ty.s_ref5_File [false, false] [t66, v35] w C) := by
  have one3 : ∀ u ∈ rcell f, u.oneCell' = true := by simp [rcell, Value.oneCell']
  have one_t : ∀ u ∈ (flat R).take (i * 3), u.oneCell' = true := fun u hu => flat_one R u (List.mem_of_mem_take hu)
  have one_d : ∀ u ∈ (flat R).drop (i * 3), u.oneCell' = true := fun u hu => flat_one R u (List.mem_of_mem_drop hu)
  have fin : ∀ v w', Hp w' (SlA ty.ref5_File 3 v (0 + i + 1 + (R.length - i)) ((([] : List Value) ++ (flat R).take (i * 3)) ++ rcell f ++ (flat R).drop (i * 3)) :: BlkA x ty.ref5_D [r0, sv] :: l) → C v w' := by
    intro v w' h
    have e1 : (([] : List Value) ++ (flat R).take (i * 3)) ++ rcell f ++ (flat R).drop (i * 3) = flat (R.take i ++ f :: R.drop i) := by rw [flat_append, flat_cons, flat_take, flat_drop, List.nil_append, List.append_assoc]
    rw [e1, show 0 + i + 1 + (R.length - i) = R.length + 1 by omega] at h
    exact hK v w' h
  refine ⟨?_, ?_⟩
  · refine Hp.sl0 (size := 3) und.s_ref5_File inf.ref5_File rfl h ?_
    intro v1 w1 h
    refine ⟨ld_ok (by rw [h.c1]; rfl), ld_ok (by rw [h.c1]; rfl), ?_, ?_⟩
    · refine Hp.app (size := 3) (bytes := 40) und.s_ref5_File inf.ref5_File rfl rfl rfl rfl h (r30 _ h.pick2.own) one_t (by omega) (by omega) ?_
      intro v2 w2 h
      refine ⟨ld_ok (by rw [h.c1]; rfl), ?_⟩
      refine Hp.sl1 (size := 3) und.s_ref5_File inf.ref5_File rfl (by omega) (by omega) rfl rfl h hc rfl ?_
      intro v3 w3 h
      refine ⟨ld_ok (by rw [h.c2]; rfl), ?_⟩
      refine Hp.app (size := 3) (bytes := 40) und.s_ref5_File inf.ref5_File rfl rfl rfl rfl h.pick1 h.own.rdN one3 (by omega) (by omega) ?_
      intro v4 w4 h
      refine ⟨ld_ok (by rw [h.c2]; rfl), ?_⟩
      refine Hp.app (size := 3) (bytes := 40) und.s_ref5_File inf.ref5_File rfl rfl rfl rfl h (r35 _ h.pick3.own) one_d (by omega) (by omega) ?_
      intro v5 w5 h
      exact fin v5 w5 (h.pick3.tail.pick1.tail)
    · refine Hp.sl1 (size := 3) und.s_ref5_File inf.ref5_File rfl (by omega) (by omega) rfl rfl h hc rfl ?_
      intro v3 w3 h
      refine ⟨ld_ok (by rw [h.c2]; rfl), ld_ok (by rw [h.c2]; rfl), ?_⟩
      refine Hp.app (size := 3) (bytes := 40) und.s_ref5_File inf.ref5_File rfl rfl rfl rfl h.pick1 (r30 _ h.pick3.own) one_t (by omega) (by omega) ?_
      intro v2 w2 h
      refine ⟨ld_ok (by rw [h.c2]; rfl), ?_⟩
      refine Hp.app (size := 3) (bytes := 40) und.s_ref5_File inf.ref5_File rfl rfl rfl rfl h h.pick1.own.rdN one3 (by omega) (by omega) ?_
      intro v4 w4 h
      refine ⟨ld_ok (by rw [h.c2]; rfl), ?_⟩
      refine Hp.app (size := 3) (bytes := 40) und.s_ref5_File inf.ref5_File rfl rfl rfl rfl h (r35 _ h.pick3.own) one_d (by omega) (by omega) ?_
      intro v5 w5 h
      exact fin v5 w5 (h.pick3.tail.pick1.tail)
  · refine Hp.sl1 (size := 3) und.s_ref5_File inf.ref5_File rfl (by omega) (by omega) rfl rfl h hc rfl ?_
    intro v3 w3 h
    refine ⟨ld_ok (by rw [h.c1]; rfl), ld_ok (by rw [h.c1]; rfl), ?_⟩
    refine Hp.sl0 (size := 3) und.s_ref5_File inf.ref5_File rfl h ?_
    intro v1 w1 h
    refine ⟨ld_ok (by rw [h.c2]; rfl), ld_ok (by rw [h.c2]; rfl), ?_⟩
    refine Hp.app (size := 3) (bytes := 40) und.s_ref5_File inf.ref5_File rfl rfl rfl rfl h (r30 _ h.pick3.own) one_t (by omega) (by omega) ?_
    intro v2 w2 h
    refine ⟨ld_ok (by rw [h.c2]; rfl), ?_⟩
    refine Hp.app (size := 3) (bytes := 40) und.s_ref5_File inf.ref5_File rfl rfl rfl rfl h h.pick1.own.rdN one3 (by omega) (by omega) ?_
    intro v4 w4 h
    refine ⟨ld_ok (by rw [h.c2]; rfl), ?_⟩
    refine Hp.app (size := 3) (bytes := 40) und.s_ref5_File inf.ref5_File rfl rfl rfl rfl h (r35 _ h.pick3.own) one_d (by omega) (by omega) ?_
    intro v5 w5 h
    exact fin v5 w5 (h.pick3.tail.pick1.tail)
theorem build_rfile {w : World} {K : VCont} (a : ByteArray) : xBuild P 76 [(0, .string a)] w K = K (.agg #[.string a, .string ⟨#[]⟩, i64 0]) w := by
  unfold xBuild
  exact xp_iff fun w' => by kernel_rfl
section
variable {w : World} {K : VCont} {x room : Nat} {R : List RF} {F : Nat → Prop}
theorem rappend_j0 (h : RefAt w x room R F) {i : Nat} {r : RF} (hr : R[i]? = some r) {s : ByteArray} (hs : r.2.1.size + s.size ≤ 9223372036854775807)
    (hK : ∀ w', RefAt w' x room (R.set i (r.1, r.2.1 ++ s, r.2.2)) F → Chg F w w' → K (i64 0) w') : ref5_D_Append_j0 K (ptr x) (.string s) (i64 i) w := by
  have h := h.keep' (Chg.drew _ none')
  obtain ⟨sv, hb, ho, hne, hF⟩ := id h
  have hlt := (List.getElem?_eq_some_iff.1 hr).1
  obtain ⟨g, hg, ix, hc⟩ := own_at (size := 3) und.s_ref5_File inf.ref5_File rfl ho hlt
  have hf := flat_get hr
  unfold ref5_D_Append_j0
  simp only [xs, xb, xd, Nat.zero_add, cell_of_block hb, List.getElem?_toArray, List.getElem?_cons_zero, List.getElem?_cons_succ, ix, hc _ _ hf.2.1, true_and]
  rw [xBin_cat _ _ _ hs]
  refine rset hb ho hne hF inf.string rfl rfl hg (by omega) ((flat_set hr).1 _) (by simp) ?_
  intro w2 hb2 ho2 hc2
  exact hK w2 ⟨sv, hb2, by simpa using ho2, hne, hF⟩ ((Chg.drew _ _).trans hc2)
theorem rappend_spec {l : List Asn} (h : Hp w (RefB x room R :: l)) (hl : R.length ≤ 999999) (hu : rused R ≤ 1000000) (hroom : room ≤ 1000000) (a s : ByteArray) (hs : s.size ≤ 1000000)
    (hA : mayB a = false → K (i64 1) w) (hR : mayB a = true → room < rused R + s.size → ∀ w', Hp w' (RefB x room R :: l) → K (i64 4) w')
    (hK : mayB a = true → rused R + s.size ≤ room → ∀ w', Hp w' (RefB x room (radd R a s) :: l) → K (i64 0) w') : xCall P nr.ref5_D_Append [ptr x, .string a, .string s] w K := by
  refine ref5_D_Append_call ?_
  unfold ref5_D_Append_main
  refine good_spec a ?_
  cases hm : mayB a with
  | false =>
    simp only [xs, xb, xd]
    exact hA hm
  | true =>
    have h := h.drew
    obtain ⟨sv, ho⟩ := RefB.open'.1 h
    obtain ⟨F, hF, fr⟩ := h.frame1
    have hf : RefAt w.drew x room R F := hF
    simp only [xs, xb, xd, xLen_string und.string, Nat.zero_add, ho.c0, List.getElem?_cons_zero, true_and]
    refine rused_spec hf (by omega) hu ?_
    simp only [xs, xb, xd, Nat.zero_add, ho.c0, List.getElem?_cons_zero, true_and, and_self]
    rw [wrap_i64 (by omega) (by omega)]
    by_cases hfull : room < rused R + s.size
    · have : (room : Int) - (rused R : Int) < ((s.size : Nat) : Int) := by omega
      simp only [this, xs, xb, xd]
      exact hR hm hfull _ h
    have : ¬ (room : Int) - (rused R : Int) < ((s.size : Nat) : Int) := by omega
    simp only [this, xs, xb, xd]
    have hK := hK hm (by omega)
    refine at_spec hf (by omega) a ?_
    intro w1 hc1
    have h1 := h.keep' hc1
    have ho1 := (ho.keep' hc1).drew
    simp only [xs, xb, xd]
    cases hat : isAt R a with
    | true =>
      obtain ⟨r, hr, hra⟩ := isAt_some hat
      have hge := rused_ge hr
      simp only [xs, xb, xd]
      obtain ⟨F1, hF1, fr1⟩ := h1.frame1
      refine rappend_j0 (show RefAt w1 x room R F1 from hF1) hr (by omega) ?_
      intro w2 h2 hc2
      refine hK w2 (fr1 w2 F1 (RefB x room _) ?_ hc2 (fun b hb => .inl hb))
      show RefAt w2 x room _ F1
      unfold radd
      rw [hr]
      simpa [hra] using h2
    | false =>
      have hix := idx_le R a
      obtain ⟨v30, s30, b30, r30⟩ := head_sl (P := P) und.s_ref5_File inf.ref5_File ho1.pick1.own hix
      obtain ⟨v35, s35, b35, r35⟩ := tail_sl (P := P) und.s_ref5_File inf.ref5_File rfl ho1.pick1.own hix
      simp only [xs, xb, xd, Nat.zero_add, ho1.c0, List.getElem?_cons_zero, List.getElem?_cons_succ, true_and, s30, s35, build_rfile]
      have key := rins_1 (f := (a, ⟨#[]⟩, 0)) (C := fun v w => xStore P ty.s_ref5_File (ptr0 x 1) v w fun _ w => ref5_D_Append_j0 K (ptr x) (.string s) (i64 (idx R a)) w) ho1 hix (by omega) r30 r35 (t31 := .agg #[.string a, .string ⟨#[]⟩, i64 0]) rfl ?_
      · simpa only [xs, true_and] using key
      intro v w' h
      refine Hp.st h.pick1 inf.s_ref5_File rfl h.own.one (by simp) ?_
      intro w2 h
      have hl2 : (R.take (idx R a) ++ (a, ⟨#[]⟩, 0) :: R.drop (idx R a)).length = R.length + 1 := by simp; omega
      rw [← hl2] at h
      have h := RefB.open'.2 ⟨v, h⟩
      obtain ⟨F1, hF1, fr1⟩ := h.frame1
      refine rappend_j0 (show RefAt w2 x room _ F1 from hF1) (i := idx R a) (r := (a, ⟨#[]⟩, 0)) ?_ (by show 0 + s.size ≤ _; omega) ?_
      · rw [List.getElem?_append_right (by rw [List.length_take]; omega)]
        simp [Nat.min_eq_left hix]
      intro w3 h3 hc3
      refine hK w3 (fr1 w3 F1 (RefB x room _) ?_ hc3 (fun b hb => .inl hb))
      show RefAt w3 x room _ F1
      have e : radd R a s = (R.take (idx R a) ++ (a, ⟨#[]⟩, 0) :: R.drop (idx R a)).set (idx R a) (a, ⟨#[]⟩ ++ s, 0) := by
        have e1 : (⟨#[]⟩ ++ s : ByteArray) = s := ByteArray.empty_append
        rw [e1]
        have e2 : (R.take (idx R a) ++ (a, (⟨#[]⟩ : ByteArray), 0) :: R.drop (idx R a)).set (idx R a) (a, s, 0) = R.take (idx R a) ++ (a, s, 0) :: R.drop (idx R a) := by
          rw [List.set_append_right _ _ (by simp; omega)]
          simp [Nat.min_eq_left hix]
        rw [e2]
        unfold radd
        unfold isAt at hat
        cases hr : R[idx R a]? with
        | none => rfl
        | some r =>
          rw [hr] at hat
          have : ¬ r.1 = a := by simpa using hat
          simp [this]
      rw [e]
      exact h3
end
end Go.Proofs.Ytamejkogghpbhaa
end
section
/- The document's disk: renaming, crashing. -/
set_option linter.unusedVariables false
set_option linter.unusedSimpArgs false
namespace Go.Proofs.Ytamejkogghpbhaa
open Go.Sx
theorem ldN_ok {w : World} {n : Nat} {a : Addr} {cs : List Value} (hl : cs.length = n) (h : ∀ i, i < n → w.cell? (a.add i) = cs[i]?) : (xLoadN n (.pointer (some a)) w fun t w' => w' = w ∧ t = .agg cs.toArray) :=
  ⟨a, cs, rfl, hl, h, rfl, rfl⟩
theorem blk3 {w : World} {y : Nat} {c0 c1 c2 : Value} (h : ∀ o, w.cell? ⟨y, o, none⟩ = [c0, c1, c2][o]?) (i : Nat) (hi : i < 3) : w.cell? ((⟨y, 0, none⟩ : Addr).add i) = [c0, c1, c2][i]? := by
  rw [Addr.add_none, h, Nat.zero_add]
/-- the rows with one more, in the three orders: what stands ahead of the store -/
theorem rins_2 {w : World} {l : List Asn} {x i : Nat} {r0 sv v30 v35 : Value} {R : List RF} {f : RF} {y Y : Nat} {C : Value → World → Prop} (h : Hp w (BlkA x ty.ref5_D [r0, sv] :: SlA ty.ref5_File 3 sv R.length (flat R) :: BlkA y Y (rcell f) :: l)) (hi : i ≤ R.length) (hl : R.length ≤ 1000000)
    (r30 : ∀ w', Own w' ty.ref5_File 3 sv R.length (flat R) → RdN w' 3 v30 i ((flat R).take (i * 3))) (r35 : ∀ w', Own w' ty.ref5_File 3 sv R.length (flat R) → RdN w' 3 v35 (R.length - i) ((flat R).drop (i * 3)))
    
    (hK : ∀ v w', Hp w' (SlA ty.ref5_File 3 v (R.length + 1) (flat (R.take i ++ f :: R.drop i)) :: BlkA x ty.ref5_D [r0, sv] :: BlkA y Y (rcell f) :: l) → C v w') :
    (xBuildSlice P ty.s_ref5_File 0 [] w fun t36 w =>
    (xLoad1 (ptr0 x 1) w fun t37 w' => w' = w ∧ t37 = sv) ∧ (xLoadN 3 (ptr0 y 0) w fun t37 w' => w' = w ∧ t37 = .agg (rcell f).toArray) ∧ (xLoad1 (ptr0 x 1) w fun t37 w' => w' = w ∧ t37 = sv) ∧
    (xBuiltin P .append #[ty.s_ref5_File, ty.s_ref5_File] ty.s_ref5_File [false, false] [t36, v30] w fun t39 w =>
    (xLoad1 (ptr0 x 1) w fun t37 w' => w' = w ∧ t37 = sv) ∧ (xLoadN 3 (ptr0 y 0) w fun t37 w' => w' = w ∧ t37 = .agg (rcell f).toArray) ∧
    xBuildSlice P ty.s_ref5_File 1 [(0, (.agg (rcell f).toArray))] w fun t41 w =>
    (xLoad1 (ptr0 x 1) w fun t37 w' => w' = w ∧ t37 = sv) ∧
    xBuiltin P .append #[ty.s_ref5_File, ty.s_ref5_File] ty.s_ref5_File [false, false] [t39, t41] w fun t43 w =>
    (xLoad1 (ptr0 x 1) w fun t37 w' => w' = w ∧ t37 = sv) ∧
    xBuiltin P .append #[ty.s_ref5_File, ty.s_ref5_File] ty.s_ref5_File [false, false] [t43, v35] w C) ∧
    (xBuildSlice P ty.s_ref5_File 1 [(0, (.agg (rcell f).toArray))] w fun t48 w =>
    (xLoad1 (ptr0 x 1) w fun t37 w' => w' = w ∧ t37 = sv) ∧ (xLoad1 (ptr0 x 1) w fun t37 w' => w' = w ∧ t37 = sv) ∧
    xBuiltin P .append #[ty.s_ref5_File, ty.s_ref5_File] ty.s_ref5_File [false, false] [t36, v30] w fun t51 w =>
    (xLoad1 (ptr0 x 1) w fun t37 w' => w' = w ∧ t37 = sv) ∧
    xBuiltin P .append #[ty.s_ref5_File, ty.s_ref5_File] ty.s_ref5_File [false, false] [t51, t48] w fun t53 w =>
    (xLoad1 (ptr0 x 1) w fun t37 w' => w' = w ∧ t37 = sv) ∧
    xBuiltin P .append #[ty.s_ref5_File, ty.s_ref5_File] ty.s_ref5_File [false, false] [t53, v35] w C)) ∧
    (xBuildSlice P ty.s_ref5_File 1 [(0, (.agg (rcell f).toArray))] w fun t58 w =>
    (xLoad1 (ptr0 x 1) w fun t37 w' => w' = w ∧ t37 = sv) ∧ (xLoad1 (ptr0 x 1) w fun t37 w' => w' = w ∧ t37 = sv) ∧
    xBuildSlice P ty.s_ref5_File 0 [] w fun t61 w =>
    (xLoad1 (ptr0 x 1) w fun t37 w' => w' = w ∧ t37 = sv) ∧ (xLoad1 (ptr0 x 1) w fun t37 w' => w' = w ∧ t37 = sv) ∧
    xBuiltin P .append #[ty.s_ref5_File, ty.s_ref5_File] ty.s_ref5_File [false, false] [t61, v30] w fun t64 w =>
    (xLoad1 (ptr0 x 1) w fun t37 w' => w' = w ∧ t37 = sv) ∧
    xBuiltin P .append #[ty.s_ref5_File, ty.s_ref5_File] ty.s_ref5_File [false, false] [t64, t58] w fun t66 w =>
    (xLoad1 (ptr0 x 1) w fun t37 w' => w' = w ∧ t37 = sv) ∧
    xBuiltin P .append #[ty.s_ref5_File, ty.s_ref5_File] ty.s_ref5_File [false, false] [t66, v35] w C) := by
  have one3 : ∀ u ∈ rcell f, u.oneCell' = true := by simp [rcell, Value.oneCell']
  have one_t : ∀ u ∈ (flat R).take (i * 3), u.oneCell' = true := fun u hu => flat_one R u (List.mem_of_mem_take hu)
  have one_d : ∀ u ∈ (flat R).drop (i * 3), u.oneCell' = true := fun u hu => flat_one R u (List.mem_of_mem_drop hu)
  have fin : ∀ v w', Hp w' (SlA ty.ref5_File 3 v (0 + i + 1 + (R.length - i)) ((([] : List Value) ++ (flat R).take (i * 3)) ++ rcell f ++ (flat R).drop (i * 3)) :: BlkA x ty.ref5_D [r0, sv] :: BlkA y Y (rcell f) :: l) → C v w' := by
    intro v w' h
    have e1 : (([] : List Value) ++ (flat R).take (i * 3)) ++ rcell f ++ (flat R).drop (i * 3) = flat (R.take i ++ f :: R.drop i) := by rw [flat_append, flat_cons, flat_take, flat_drop, List.nil_append, List.append_assoc]
    rw [e1, show 0 + i + 1 + (R.length - i) = R.length + 1 by omega] at h
    exact hK v w' h
  refine ⟨?_, ?_⟩
  · refine Hp.sl0 (size := 3) und.s_ref5_File inf.ref5_File rfl h ?_
    intro v1 w1 h
    refine ⟨ld_ok (by rw [h.c1]; rfl), ldN_ok rfl (blk3 h.c3), ld_ok (by rw [h.c1]; rfl), ?_, ?_⟩
    · refine Hp.app (size := 3) (bytes := 40) und.s_ref5_File inf.ref5_File rfl rfl rfl rfl h (r30 _ h.pick2.own) one_t (by omega) (by omega) ?_
      intro v2 w2 h
      refine ⟨ld_ok (by rw [h.c1]; rfl), ldN_ok rfl (blk3 h.c3), ?_⟩
      refine Hp.sl1 (size := 3) und.s_ref5_File inf.ref5_File rfl (by omega) (by omega) rfl rfl h rfl rfl ?_
      intro v3 w3 h
      refine ⟨ld_ok (by rw [h.c2]; rfl), ?_⟩
      refine Hp.app (size := 3) (bytes := 40) und.s_ref5_File inf.ref5_File rfl rfl rfl rfl h.pick1 h.own.rdN one3 (by omega) (by omega) ?_
      intro v4 w4 h
      refine ⟨ld_ok (by rw [h.c2]; rfl), ?_⟩
      refine Hp.app (size := 3) (bytes := 40) und.s_ref5_File inf.ref5_File rfl rfl rfl rfl h (r35 _ h.pick3.own) one_d (by omega) (by omega) ?_
      intro v5 w5 h
      exact fin v5 w5 (h.pick3.tail.pick1.tail)
    · refine Hp.sl1 (size := 3) und.s_ref5_File inf.ref5_File rfl (by omega) (by omega) rfl rfl h rfl rfl ?_
      intro v3 w3 h
      refine ⟨ld_ok (by rw [h.c2]; rfl), ld_ok (by rw [h.c2]; rfl), ?_⟩
      refine Hp.app (size := 3) (bytes := 40) und.s_ref5_File inf.ref5_File rfl rfl rfl rfl h.pick1 (r30 _ h.pick3.own) one_t (by omega) (by omega) ?_
      intro v2 w2 h
      refine ⟨ld_ok (by rw [h.c2]; rfl), ?_⟩
      refine Hp.app (size := 3) (bytes := 40) und.s_ref5_File inf.ref5_File rfl rfl rfl rfl h h.pick1.own.rdN one3 (by omega) (by omega) ?_
      intro v4 w4 h
      refine ⟨ld_ok (by rw [h.c2]; rfl), ?_⟩
      refine Hp.app (size := 3) (bytes := 40) und.s_ref5_File inf.ref5_File rfl rfl rfl rfl h (r35 _ h.pick3.own) one_d (by omega) (by omega) ?_
      intro v5 w5 h
      exact fin v5 w5 (h.pick3.tail.pick1.tail)
  · refine Hp.sl1 (size := 3) und.s_ref5_File inf.ref5_File rfl (by omega) (by omega) rfl rfl h rfl rfl ?_
    intro v3 w3 h
    refine ⟨ld_ok (by rw [h.c1]; rfl), ld_ok (by rw [h.c1]; rfl), ?_⟩
    refine Hp.sl0 (size := 3) und.s_ref5_File inf.ref5_File rfl h ?_
    intro v1 w1 h
    refine ⟨ld_ok (by rw [h.c2]; rfl), ld_ok (by rw [h.c2]; rfl), ?_⟩
    refine Hp.app (size := 3) (bytes := 40) und.s_ref5_File inf.ref5_File rfl rfl rfl rfl h (r30 _ h.pick3.own) one_t (by omega) (by omega) ?_
    intro v2 w2 h
    refine ⟨ld_ok (by rw [h.c2]; rfl), ?_⟩
    refine Hp.app (size := 3) (bytes := 40) und.s_ref5_File inf.ref5_File rfl rfl rfl rfl h h.pick1.own.rdN one3 (by omega) (by omega) ?_
    intro v4 w4 h
    refine ⟨ld_ok (by rw [h.c2]; rfl), ?_⟩
    refine Hp.app (size := 3) (bytes := 40) und.s_ref5_File inf.ref5_File rfl rfl rfl rfl h (r35 _ h.pick3.own) one_d (by omega) (by omega) ?_
    intro v5 w5 h
    exact fin v5 w5 (h.pick3.tail.pick1.tail)
theorem rins_get {R : List RF} {i : Nat} {f : RF} (hi : i ≤ R.length) : (R.take i ++ f :: R.drop i).length = R.length + 1 := by simp; omega
section
variable {w : World} {K : VCont} {x room : Nat} {R : List RF} {F : Nat → Prop}
def rrem (R : List RF) (a : ByteArray) : List RF := if isAt R a then R.take (idx R a) ++ R.drop (idx R a + 1) else R
theorem rrem_len (R : List RF) (a : ByteArray) : (rrem R a).length ≤ R.length := by
  unfold rrem; split
  · simp; omega
  · exact Nat.le_refl _
theorem rrem_hp {l : List Asn} (h : Hp w (RefB x room R :: l)) (hl : R.length ≤ 1000000) (a : ByteArray) (hK : ∀ w' c, (c = if isAt R a then 0 else 5) → Hp w' (RefB x room (rrem R a) :: l) → K (i64 c) w') : xCall P nr.ref5_D_Remove [ptr x, .string a] w K := by
  obtain ⟨F, hF, fr⟩ := h.frame1
  refine rremove_spec (show RefAt w x room R F from hF) hl a ?_ ?_
  · intro hn w' hc
    refine hK w' 5 (by rw [hn]; rfl) ?_
    unfold rrem; rw [hn]
    exact h.keep' hc
  · intro r hr hra w' F' h' hc hm
    have hat : isAt R a = true := by unfold isAt; rw [hr]; simpa using hra
    refine hK w' 0 (by rw [hat]; rfl) ?_
    unfold rrem; rw [hat]
    exact fr w' F' (RefB x room _) h' hc hm
def rren (R : List RF) (a c : ByteArray) (r : RF) : List RF :=
  let R2 := rrem (rrem R a) c
  R2.take (idx R2 c) ++ (c, r.2.1, r.2.2) :: R2.drop (idx R2 c)
theorem rrename_spec {l : List Asn} (h : Hp w (RefB x room R :: l)) (hl : R.length ≤ 999999) (a c : ByteArray)
    (hN : isAt R a = false → ∀ w', Hp w' (RefB x room R :: l) → K (i64 5) w') (hA : isAt R a = true → mayB c = false → ∀ w', Hp w' (RefB x room R :: l) → K (i64 1) w')
    (hE : isAt R a = true → mayB c = true → a = c → ∀ w', Hp w' (RefB x room R :: l) → K (i64 0) w')
    (hK : ∀ r, R[idx R a]? = some r → r.1 = a → mayB c = true → a ≠ c → ∀ w', Hp w' (RefB x room (rren R a c r) :: l) → K (i64 0) w') : xCall P nr.ref5_D_Rename [ptr x, .string a, .string c] w K := by
  refine ref5_D_Rename_call ?_
  unfold ref5_D_Rename_main
  obtain ⟨F, hF, fr⟩ := h.frame1
  refine at_spec (show RefAt w x room R F from hF) (by omega) a ?_
  intro w1 hc1
  have h := h.keep' hc1
  cases hat : isAt R a with
  | false =>
    simp only [xs, xb, xd]
    exact hN hat w1 h
  | true =>
    simp only [xs, xb, xd]
    refine good_spec c ?_
    cases hm : mayB c with
    | false =>
      simp only [xs, xb, xd]
      exact hA hat hm w1 h
    | true =>
      simp only [xs, xb, xd, xEq_str]
      by_cases hac : a = c
      · simp only [hac, xs, xb, xd]
        exact hE hat hm hac w1 h
      simp only [hac, xs, xb, xd]
      obtain ⟨r, hr, hra⟩ := isAt_some hat
      have hlt := (List.getElem?_eq_some_iff.1 hr).1
      obtain ⟨sv, ho⟩ := RefB.open'.1 h
      obtain ⟨g, hg, ix, hcell⟩ := own_at (size := 3) und.s_ref5_File inf.ref5_File rfl ho.pick1.own hlt
      have hf := flat_get hr
      simp only [Nat.zero_add, ho.c0, List.getElem?_cons_zero, List.getElem?_cons_succ, ix]
      refine ⟨_, rcell r, rfl, rfl, ?_, ?_⟩
      · intro i hi
        rw [Addr.add_none]
        rcases i with _ | _ | _ | i
        · exact hcell _ _ hf.1
        · exact hcell _ _ hf.2.1
        · exact hcell _ _ hf.2.2
        · omega
      refine Hp.alloc (cs := [.string ⟨#[]⟩, .string ⟨#[]⟩, i64 0]) h inf.ref5_File rfl rfl ?_
      intro y w2 h
      refine Hp.stN (n := 3) (new := rcell r) h inf.ref5_File rfl rfl rfl (by simp [rcell, Value.oneCell']) (by simp) ?_
      intro w3 h
      replace h : Hp w3 (BlkA y ty.ref5_File (rcell r) :: RefB x room R :: l) := h
      refine rrem_hp h.pick1 (by omega) a ?_
      intro w4 _ _ h
      refine rrem_hp h (Nat.le_trans (rrem_len _ _) (by omega)) c ?_
      intro w5 _ _ h
      simp only [xs]
      refine Hp.st h.pick1 inf.string rfl rfl (by simp [rcell]) ?_
      intro w6 h
      replace h : Hp w6 (RefB x room (rrem (rrem R a) c) :: BlkA y ty.ref5_File (rcell (c, r.2.1, r.2.2)) :: l) := h.pick1
      generalize hR2 : rrem (rrem R a) c = R2 at h
      have hl2 : R2.length ≤ 999999 := by
        have h1 := rrem_len R a
        have h2 := rrem_len (rrem R a) c
        rw [hR2] at h2; omega
      obtain ⟨F2, hF2, fr2⟩ := h.frame1
      refine at_spec (show RefAt w6 x room R2 F2 from hF2) (by omega) c ?_
      intro w7 hc7
      have h := (h.keep' hc7).drew
      have hix := idx_le R2 c
      obtain ⟨sv, ho⟩ := RefB.open'.1 h
      obtain ⟨v30, s30, b30, r30⟩ := head_sl (P := P) und.s_ref5_File inf.ref5_File ho.pick1.own hix
      obtain ⟨v35, s35, b35, r35⟩ := tail_sl (P := P) und.s_ref5_File inf.ref5_File rfl ho.pick1.own hix
      have hN3 : ∀ C : VCont, xLoadN 3 (ptr0 y 0) w7.drew C = C (.agg (rcell (c, r.2.1, r.2.2)).toArray) w7.drew := fun C => xLoadN_blk ho.pick2 rfl
      simp only [xs, xb, xd, Nat.zero_add, ho.c0, List.getElem?_cons_zero, List.getElem?_cons_succ, true_and, s30, s35, hN3]
      have key := rins_2 (f := (c, r.2.1, r.2.2)) (C := fun v w => xStore P ty.s_ref5_File (ptr0 x 1) v w fun _ w => ref5_D_Rename_j0 K w) ho hix (by omega) r30 r35 ?_
      · simpa only [xs, true_and] using key
      intro v w' h
      refine Hp.st h.pick1 inf.s_ref5_File rfl h.own.one (by simp) ?_
      intro w8 h
      unfold ref5_D_Rename_j0
      refine hK r hr hra hm hac w8 ?_
      unfold rren
      simp only [hR2]
      refine RefB.open'.2 ⟨v, ?_⟩
      rw [rins_get hix]
      exact h.pick2.tail
end
end Go.Proofs.Ytamejkogghpbhaa
end
section
/- A disk's list and the document's rows: that they tell the same; that each step keeps it. -/
set_option linter.unusedVariables false
set_option linter.unusedSimpArgs false
namespace Go.Proofs.Ytamejkogghpbhaa
open Go.Sx
theorem slt_irrefl (a : ByteArray) : slt a a = false := by unfold slt; simp
theorem slt_trans {a b c : ByteArray} (h : slt a b = true) (k : slt b c = true) : slt a c = true := by
  unfold slt at *
  rw [decide_eq_true_eq] at *
  exact List.lt_trans h k
theorem slt_tri {a b : ByteArray} (h : slt a b = false) (k : slt b a = false) : a = b := by
  unfold slt at *
  rw [decide_eq_false_iff_not] at *
  have := List.le_antisymm (List.not_lt.1 k) (List.not_lt.1 h)
  have := congrArg kstr this
  rwa [kstr_kbytes, kstr_kbytes] at this
theorem slt_asymm {a b : ByteArray} (h : slt a b = true) : slt b a = false := by
  cases hb : slt b a with
  | false => rfl
  | true => have := slt_trans h hb; rw [slt_irrefl] at this; cases this
def Srt (R : List RF) : Prop := R.Pairwise fun r q => slt r.1 q.1 = true
def toAb (R : List RF) : Ab := R.map fun r => (r.1, r.2.1.data.toList, r.2.2)
structure Rel (D : Ab) (R : List RF) : Prop where
  nd : Nd D
  srt : Srt R
  get : ∀ a, aget D a = aget (toAb R) a
theorem toAb_append (R S : List RF) : toAb (R ++ S) = toAb R ++ toAb S := by simp [toAb]
theorem idx_take {R : List RF} {a : ByteArray} : ∀ r ∈ R.take (idx R a), slt r.1 a = true := by
  induction R with
  | nil => simp
  | cons q R ih =>
    intro r hr
    unfold idx at hr
    split at hr
    · rw [List.take_succ_cons, List.mem_cons] at hr
      rcases hr with rfl | hr
      · assumption
      · exact ih r hr
    · simp at hr
theorem idx_drop {R : List RF} (hs : Srt R) {a : ByteArray} : ∀ r ∈ R.drop (idx R a), slt r.1 a = false := by
  induction R with
  | nil => simp
  | cons q R ih =>
    unfold Srt at hs
    rw [List.pairwise_cons] at hs
    intro r hr
    unfold idx at hr
    split at hr
    · rw [List.drop_succ_cons] at hr
      exact ih hs.2 r hr
    · rename_i h
      have h : slt q.1 a = false := by simpa using h
      rw [List.drop_zero, List.mem_cons] at hr
      rcases hr with rfl | hr
      · exact h
      · cases hx : slt r.1 a with
        | false => rfl
        | true => have := slt_trans (hs.1 r hr) hx; rw [h] at this; cases this
theorem aget_toAb_none {R : List RF} {a : ByteArray} (h : ∀ r ∈ R, r.1 ≠ a) : aget (toAb R) a = none := by
  rw [aget_none]
  intro p hp
  unfold toAb at hp
  obtain ⟨r, hr, rfl⟩ := List.mem_map.1 hp
  exact h r hr
theorem take_ne {R : List RF} {a : ByteArray} : ∀ r ∈ R.take (idx R a), r.1 ≠ a := by
  intro r hr e
  have := idx_take r hr
  rw [e, slt_irrefl] at this; cases this
theorem isAt_split {R : List RF} (hs : Srt R) {a : ByteArray} (h : isAt R a = true) : ∃ r, R[idx R a]? = some r ∧ r.1 = a ∧ R = R.take (idx R a) ++ r :: R.drop (idx R a + 1) ∧ ∀ q ∈ R.drop (idx R a + 1), slt a q.1 = true := by
  obtain ⟨r, hr, hra⟩ := isAt_some h
  have hlt := (List.getElem?_eq_some_iff.1 hr).1
  have hd : R.drop (idx R a) = r :: R.drop (idx R a + 1) := by
    rw [List.drop_eq_getElem_cons hlt]
    congr 1
    exact (List.getElem?_eq_some_iff.1 hr).2
  refine ⟨r, hr, hra, ?_, ?_⟩
  · conv => lhs; rw [← List.take_append_drop (idx R a) R, hd]
  · intro q hq
    unfold Srt at hs
    have h2 : (R.drop (idx R a)).Pairwise fun r q => slt r.1 q.1 = true := hs.sublist (List.drop_sublist _ _)
    rw [hd, List.pairwise_cons] at h2
    have := h2.1 q hq
    rwa [hra] at this
theorem not_at {R : List RF} (hs : Srt R) {a : ByteArray} (h : isAt R a = false) : ∀ q ∈ R.drop (idx R a), slt a q.1 = true := by
  intro q hq
  obtain ⟨i, hi, rfl⟩ := List.getElem_of_mem hq
  have h0 := idx_drop hs _ hq
  cases hx : slt a (R.drop (idx R a))[i].1 with
  | true => rfl
  | false =>
    exfalso
    have e := slt_tri hx h0
    -- it stands at the front
    unfold isAt at h
    rcases i with _ | i
    · have hlt : idx R a < R.length := by rw [List.length_drop] at hi; omega
      rw [List.getElem?_eq_getElem hlt] at h
      have : R[idx R a].1 = a := by have := e.symm; simpa using this
      simp [this] at h
    · have h2 : (R.drop (idx R a)).Pairwise fun r q => slt r.1 q.1 = true := hs.sublist (List.drop_sublist _ _)
      have := (List.pairwise_iff_getElem.1 h2) 0 (i + 1) (by omega) hi (by omega)
      rw [← e] at this
      have h3 := idx_drop hs _ (List.getElem_mem (show 0 < (R.drop (idx R a)).length by omega))
      rw [h3] at this; cases this
theorem get_mid {A B : Ab} {a : ByteArray} {x : List UInt8 × Nat} (h : aget A a = none) (b : ByteArray) : aget (A ++ (a, x) :: B) b = if a = b then some x else aget (A ++ B) b := by
  rw [aget_append, aget_append, aget_cons]
  by_cases hb : a = b
  · subst hb; simp [h]
  · simp [hb]
theorem get_at {R : List RF} (hs : Srt R) {a : ByteArray} {r : RF} (hr : R[idx R a]? = some r) (hra : r.1 = a) : aget (toAb R) a = some (r.2.1.data.toList, r.2.2) := by
  have hat : isAt R a = true := by unfold isAt; rw [hr]; simpa using hra
  obtain ⟨r', hr', _, he, _⟩ := isAt_split hs hat
  rw [hr] at hr'; cases hr'
  rw [he, toAb_append, aget_append, aget_toAb_none take_ne]
  show aget ((r.1, r.2.1.data.toList, r.2.2) :: toAb _) a = _
  rw [aget_cons]
  simp [hra]
theorem get_no {R : List RF} (hs : Srt R) {a : ByteArray} (h : isAt R a = false) : aget (toAb R) a = none := by
  refine aget_toAb_none fun r hr e => ?_
  rw [← List.take_append_drop (idx R a) R, List.mem_append] at hr
  rcases hr with hr | hr
  · exact take_ne r hr e
  · have := not_at hs h r hr
    rw [e, slt_irrefl] at this; cases this
/-- one row is another -/
theorem Rel.set {D : Ab} {R : List RF} (h : Rel D R) {a : ByteArray} {r : RF} (hr : R[idx R a]? = some r) (hra : r.1 = a) (s : ByteArray) (k : Nat) : Rel (aset D a (s.data.toList, k)) (R.set (idx R a) (r.1, s, k)) := by
  have hat : isAt R a = true := by unfold isAt; rw [hr]; simpa using hra
  obtain ⟨r', hr', _, he, hd⟩ := isAt_split h.srt hat
  rw [hr] at hr'; cases hr'
  have hlt := (List.getElem?_eq_some_iff.1 hr).1
  refine ⟨h.nd.aset _ _, ?_, ?_⟩
  · have h1 := h.srt
    unfold Srt at *
    have e : (R.set (idx R a) (r.1, s, k)).map (·.1) = R.map (·.1) := by
      rw [List.map_set]
      refine List.ext_getElem? fun i => ?_
      rw [List.getElem?_set]
      split
      · rename_i hi; subst hi; simp [hlt]
        exact congrArg (·.1) (List.getElem?_eq_some_iff.1 hr).2.symm
      · rfl
    have h2 : (R.map (·.1)).Pairwise fun a b => slt a b = true := List.pairwise_map.2 h1
    rw [← e] at h2
    exact List.pairwise_map.1 h2
  · intro b
    rw [aget_aset, h.get b, List.set_eq_take_append_cons_drop, if_pos hlt, toAb_append]
    show _ = aget (toAb _ ++ (r.1, s.data.toList, k) :: toAb _) b
    rw [hra, get_mid (aget_toAb_none take_ne)]
    by_cases hb : a = b
    · subst hb
      rw [get_at h.srt hr hra]; simp
    · simp only [hb, if_false]
      conv => lhs; rw [he, toAb_append]
      show aget (toAb _ ++ (r.1, _, _) :: toAb _) b = _
      rw [hra, get_mid (aget_toAb_none take_ne), if_neg hb]
/-- one row goes -/
theorem Rel.rem {D : Ab} {R : List RF} (h : Rel D R) (a : ByteArray) : Rel (arem D a) (rrem R a) := by
  unfold rrem
  cases hat : isAt R a with
  | false =>
    refine ⟨h.nd.arem _, h.srt, fun b => ?_⟩
    rw [aget_arem]
    split
    · rename_i hb; subst hb; simpa using (get_no h.srt hat).symm
    · exact h.get b
  | true =>
    obtain ⟨r, hr, hra, he, hd⟩ := isAt_split h.srt hat
    refine ⟨h.nd.arem _, ?_, fun b => ?_⟩
    · have h1 := h.srt
      unfold Srt at *
      rw [he] at h1
      simp only [if_true]
      rw [List.pairwise_append, List.pairwise_cons] at h1
      rw [List.pairwise_append]
      exact ⟨h1.1, h1.2.1.2, fun p hp q hq => h1.2.2 p hp q (by simp [hq])⟩
    · rw [aget_arem, h.get b]
      simp only [if_true]
      rw [toAb_append]
      conv => lhs; rw [he, toAb_append]
      have key : aget (toAb (R.take (idx R a)) ++ toAb (r :: R.drop (idx R a + 1))) b = if a = b then some (r.2.1.data.toList, r.2.2) else aget (toAb (R.take (idx R a)) ++ toAb (R.drop (idx R a + 1))) b := by
        show aget (toAb _ ++ (r.1, _, _) :: toAb _) b = _
        rw [hra, get_mid (aget_toAb_none take_ne)]
      rw [key]
      by_cases hb : a = b
      · subst hb
        simp only [if_true]
        rw [aget_append, aget_toAb_none take_ne, aget_toAb_none]
        · rfl
        · intro q hq e
          have := hd q hq
          rw [e, slt_irrefl] at this; cases this
      · simp only [hb, if_false]
/-- one row comes -/
theorem Rel.add {D : Ab} {R : List RF} (h : Rel D R) {a : ByteArray} (hat : isAt R a = false) (s : ByteArray) (k : Nat) : Rel (aput D a (s.data.toList, k)) (R.take (idx R a) ++ (a, s, k) :: R.drop (idx R a)) := by
  refine ⟨h.nd.aput _ _, ?_, fun b => ?_⟩
  · have h1 := h.srt
    unfold Srt at *
    rw [← List.take_append_drop (idx R a) R, List.pairwise_append] at h1
    rw [List.pairwise_append, List.pairwise_cons]
    refine ⟨h1.1, ⟨not_at h.srt hat, h1.2.1⟩, fun p hp q hq => ?_⟩
    rcases List.mem_cons.1 hq with rfl | hq
    · exact idx_take p hp
    · exact h1.2.2 p hp q hq
  · rw [aget_aput, toAb_append]
    show _ = aget (toAb _ ++ (a, s.data.toList, k) :: toAb _) b
    rw [get_mid (aget_toAb_none take_ne), ← toAb_append, List.take_append_drop, h.get b]
theorem Rel.at {D : Ab} {R : List RF} (h : Rel D R) (a : ByteArray) : isAt R a = (aget D a).isSome := by
  rw [h.get a]
  cases hat : isAt R a with
  | false => rw [get_no h.srt hat]; rfl
  | true =>
    obtain ⟨r, hr, hra⟩ := isAt_some hat
    rw [get_at h.srt hr hra]; rfl
theorem Rel.namesOf {D : Ab} {R : List RF} (h : Rel D R) : names D = R.map (·.1) := by
  have h1 : (names D).Pairwise fun a b => slt a b = true := srt_pairwise h.nd
  have h2 : (R.map (·.1)).Pairwise fun a b => slt a b = true := List.pairwise_map.2 h.srt
  have nd : ∀ {l : List ByteArray}, l.Pairwise (fun a b => slt a b = true) → l.Nodup := fun h => h.imp fun {a b} hab e => by subst e; rw [slt_irrefl] at hab; cases hab
  refine List.Perm.eq_of_pairwise (le := fun a b => slt a b = true) (fun a b _ _ hab hba => ?_) h1 h2 ((List.perm_ext_iff_of_nodup (nd h1) (nd h2)).2 fun a => ?_)
  · rw [slt_asymm hab] at hba; cases hba
  · rw [mem_names]
    constructor
    · rintro ⟨x, hx⟩
      rw [h.get a] at hx
      have := aget_some_mem hx
      unfold toAb at this
      obtain ⟨r, hr, he⟩ := List.mem_map.1 this
      exact List.mem_map.2 ⟨r, hr, congrArg (·.1) he⟩
    · intro ha
      obtain ⟨r, hr, rfl⟩ := List.mem_map.1 ha
      have : aget (toAb R) r.1 ≠ none := fun hn => aget_none.1 hn (r.1, r.2.1.data.toList, r.2.2) (List.mem_map.2 ⟨r, hr, rfl⟩) rfl
      rw [← h.get] at this
      cases hx : aget D r.1 with
      | none => exact absurd hx this
      | some x => exact ⟨x, rfl⟩
theorem Rel.length {D : Ab} {R : List RF} (h : Rel D R) : R.length = D.length := by
  rw [← names_length D, h.namesOf, List.length_map]
theorem Rel.mem {D : Ab} {R : List RF} (h : Rel D R) {r : RF} (hr : r ∈ R) : aget D r.1 = some (r.2.1.data.toList, r.2.2) := by
  rw [h.get]
  obtain ⟨R1, R2, rfl⟩ := List.append_of_mem hr
  have hs := h.srt
  unfold Srt at hs
  rw [List.pairwise_append] at hs
  rw [toAb_append, aget_append, aget_toAb_none]
  · show (none.or (aget ((r.1, _, _) :: toAb R2) r.1)) = _
    rw [aget_cons]; simp
  · intro q hq e
    have := hs.2.2 q hq r (by simp)
    rw [e, slt_irrefl] at this; cases this
theorem Rel.used {D : Ab} {R : List RF} (h : Rel D R) : rused R = aused D := by
  rw [← sum_names h.nd, h.namesOf, List.map_map]
  unfold rused
  congr 1
  apply List.map_congr_left
  intro r hr
  have := h.mem hr
  show r.2.1.size = alen D r.1
  unfold alen
  rw [this]
  rfl
end Go.Proofs.Ytamejkogghpbhaa
end
section
/- The document's disk: crashing. -/
set_option linter.unusedVariables false
set_option linter.unusedSimpArgs false
namespace Go.Proofs.Ytamejkogghpbhaa
open Go.Sx
def rcr (keep : Int) (r : RF) : RF := let n := r.2.2 + min (max keep 0).toNat (r.2.1.size - r.2.2); (r.1, r.2.1.extract 0 n, n)
/-- the first n rows are turned -/
def rcrn (keep : Int) (n : Nat) (R : List RF) : List RF := (R.take n).map (rcr keep) ++ R.drop n
theorem rcrn_len (keep : Int) (n : Nat) (R : List RF) : (rcrn keep n R).length = R.length := by
  unfold rcrn; simp; omega
theorem rcrn_get {keep : Int} {n : Nat} {R : List RF} {r : RF} (hr : R[n]? = some r) : (rcrn keep n R)[n]? = some r := by
  have hlt := (List.getElem?_eq_some_iff.1 hr).1
  unfold rcrn
  rw [List.getElem?_append_right (by simp; omega), List.getElem?_drop]
  simp only [List.length_map, List.length_take, Nat.min_eq_left (Nat.le_of_lt hlt), Nat.sub_self, Nat.add_zero]
  exact hr
theorem rcrn_set {keep : Int} {n : Nat} {R : List RF} {r : RF} (hr : R[n]? = some r) : (rcrn keep n R).set n (rcr keep r) = rcrn keep (n + 1) R := by
  have hlt := (List.getElem?_eq_some_iff.1 hr).1
  unfold rcrn
  rw [List.set_append_right _ _ (by simp; omega), List.take_add_one, hr]
  have hd : R.drop n = r :: R.drop (n + 1) := by
    rw [List.drop_eq_getElem_cons hlt]
    congr 1
    exact (List.getElem?_eq_some_iff.1 hr).2
  rw [hd]
  simp [Nat.min_eq_left (Nat.le_of_lt hlt)]
section
variable {w : World} {K : VCont} {x room : Nat} {R : List RF} {F : Nat → Prop}
theorem rcrash_spec {l : List Asn} (h : Hp w (RefB x room R :: l)) (hl : R.length ≤ 999999) (hR : ∀ r ∈ R, r.2.2 ≤ r.2.1.size ∧ r.2.1.size ≤ 1000000) (keep : Int) (hk : -9223372036854775808 ≤ keep ∧ keep ≤ 9223372036854775807)
    (hK : ∀ w', Hp w' (RefB x room (R.map (rcr keep)) :: l) → K (.tuple #[]) w') : xCall P nr.ref5_D_Crash [ptr x, i64 keep] w K := by
  refine ref5_D_Crash_call ?_
  unfold ref5_D_Crash_main
  refine Hp.sl0 (size := 3) und.s_ref5_File inf.ref5_File rfl h ?_
  intro v w1 h
  obtain ⟨sv, ho⟩ := RefB.open'.1 h.pick1
  simp only [xs, xb, xd, Nat.zero_add, ho.c0, List.getElem?_cons_zero, List.getElem?_cons_succ]
  have one := flat_one R
  refine Hp.app (size := 3) (bytes := 40) und.s_ref5_File inf.ref5_File rfl rfl rfl rfl h ho.pick1.own.rdN one (by omega) (by omega) ?_
  intro v2 w2 h
  refine Lp.gen (fun n s w' => ∃ i : Nat, n + i = R.length ∧ s = [i64 i] ∧ Hp w' (SlA ty.ref5_File 3 v2 R.length (flat (rcrn keep i R)) :: RefB x room R :: l)) R.length ⟨0, by omega, by simp, by simpa [rcrn] using h⟩ ?_
  rintro n s w3 ⟨i, hni, rfl, h⟩ X hX
  unfold ref5_D_Crash_l1
  simp only [List.getD_cons_zero, xs, xb, xd, len_own_eq und.s_ref5_File h.own]
  by_cases hlt : i < R.length
  · have hlt' : (i : Int) < (R.length : Int) := by omega
    have hr0 := List.getElem?_eq_getElem hlt
    have hb := hR _ (List.getElem_mem hlt)
    generalize R[i] = r at hr0 hb
    have hr := rcrn_get (keep := keep) hr0
    have hf := flat_get hr
    obtain ⟨g, hg, ix, hcell⟩ := own_at (size := 3) und.s_ref5_File inf.ref5_File rfl h.own hlt
    have c0 : ∀ o u, (flat (rcrn keep i R))[o]? = some u → w3.drew.cell? ⟨g, o, none⟩ = some u := hcell
    simp only [hlt', xs, xb, xd, Nat.zero_add, ix, c0 _ _ hf.2.1, c0 _ _ hf.2.2, true_and, xLen_string und.string]
    rw [wrap_i64 (by omega) (by omega)]
    have h := h.drew
    -- what the second half does
    have fin : ∀ (k : Nat), k = min (max keep 0).toNat (r.2.1.size - r.2.2) → ref5_D_Crash_j2 K X v2 (i64 i) (i64 k) w3.drew := by
      intro k hkk
      unfold ref5_D_Crash_j2
      have c1 : ∀ o u, (flat (rcrn keep i R))[o]? = some u → w3.drew.drew.cell? ⟨g, o, none⟩ = some u := hcell
      simp only [xs, xb, xd, Nat.zero_add, ix, c1 _ _ hf.2.1, c1 _ _ hf.2.2, true_and]
      rw [wrap_i64 (by omega) (by omega)]
      have e1 : ((r.2.2 : Int) + (k : Int)) = ((r.2.2 + k : Nat) : Int) := by omega
      rw [e1, xSlice_str und.string _ (by omega)]
      have hsz : (r.2.1.extract 0 (r.2.2 + k)).size = r.2.2 + k := by
        rw [ByteArray.size_extract]; omega
      have hll := rcrn_len keep i R
      refine Hp.sst inf.string rfl rfl h.drew hg (by rw [flat_length, hll]; omega) ?_
      intro w4 h
      rw [(flat_set hr).1] at h
      have hr2 : ((rcrn keep i R).set i (r.1, r.2.1.extract 0 (r.2.2 + k), r.2.2))[i]? = some (r.1, r.2.1.extract 0 (r.2.2 + k), r.2.2) := by simp [rcrn_len, hlt]
      have hf2 := flat_get hr2
      have c4 := h.own.cells (g := g) hg
      simp only [Addr.add_none, Nat.zero_add] at c4
      simp only [ix, xs, xb, xd, c4 _ _ hf2.2.1, xLen_string und.string, hsz]
      refine Hp.sst inf.int rfl rfl h hg (by rw [flat_length, List.length_set, hll]; omega) ?_
      intro w5 h
      rw [(flat_set hr2).2.1, List.set_set] at h
      rw [wrap_i64 (by omega) (by omega)]
      refine hX (n - 1) _ _ ⟨i + 1, by omega, by simp, ?_⟩ (by omega)
      rw [← rcrn_set hr0]
      unfold rcr
      simp only [← hkk]
      exact h
    have e0 : ((r.2.1.size : Nat) : Int) - (r.2.2 : Int) = ((r.2.1.size - r.2.2 : Nat) : Int) := by omega
    rw [e0]
    by_cases hkl : keep < ((r.2.1.size - r.2.2 : Nat) : Int)
    · simp only [hkl, xs, xb, xd]
      have e2 : max keep 0 = ((max keep 0).toNat : Int) := by omega
      rw [e2]
      exact fin _ (by omega)
    · simp only [hkl, xs, xb, xd]
      exact fin _ (by omega)
  · have hlt' : ¬ (i : Int) < (R.length : Int) := by omega
    simp only [hlt', xs, xb, xd]
    unfold ref5_D_Crash_j0
    have hi : i = R.length := by omega
    subst hi
    obtain ⟨sv, ho⟩ := RefB.open'.1 h.pick1
    simp only [xs, Nat.zero_add]
    refine Hp.st ho inf.s_ref5_File rfl h.own.one (by simp) ?_
    intro w4 h
    refine hK w4 (RefB.open'.2 ⟨v2, ?_⟩)
    have := h.pick1.tail.pick1
    rw [List.length_map]
    simpa [rcrn] using h.pick1.tail
end
end Go.Proofs.Ytamejkogghpbhaa
end
