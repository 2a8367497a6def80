/- The document's disk: crashing. -/
import Derived.Test.YtamejkogghpbhaaRelD
set_option linter.unusedVariables false
set_option linter.unusedSimpArgs false
namespace Go.Proofs.Ytamejkogghpbhaa
open Go.Sx
def rcr (keep : Int) (r : RF) : RF := let n := r.2.2 + min (max keep 0).toNat (r.2.1.size - r.2.2); (r.1, r.2.1.extract 0 n, n)
/-- the first n rows are turned -/
def rcrn (keep : Int) (n : Nat) (R : List RF) : List RF := (R.take n).map (rcr keep) ++ R.drop n
theorem rcrn_len (keep : Int) (n : Nat) (R : List RF) : (rcrn keep n R).length = R.length := by
  unfold rcrn; simp; omega
theorem rcrn_get {keep : Int} {n : Nat} {R : List RF} {r : RF} (hr : R[n]? = some r) : (rcrn keep n R)[n]? = some r := by
  have hlt := (List.getElem?_eq_some_iff.1 hr).1
  unfold rcrn
  rw [List.getElem?_append_right (by simp; omega), List.getElem?_drop]
  simp only [List.length_map, List.length_take, Nat.min_eq_left (Nat.le_of_lt hlt), Nat.sub_self, Nat.add_zero]
  exact hr
theorem rcrn_set {keep : Int} {n : Nat} {R : List RF} {r : RF} (hr : R[n]? = some r) : (rcrn keep n R).set n (rcr keep r) = rcrn keep (n + 1) R := by
  have hlt := (List.getElem?_eq_some_iff.1 hr).1
  unfold rcrn
  rw [List.set_append_right _ _ (by simp; omega), List.take_add_one, hr]
  have hd : R.drop n = r :: R.drop (n + 1) := by
    rw [List.drop_eq_getElem_cons hlt]
    congr 1
    exact (List.getElem?_eq_some_iff.1 hr).2
  rw [hd]
  simp [Nat.min_eq_left (Nat.le_of_lt hlt)]
section
variable {w : World} {K : VCont} {x room : Nat} {R : List RF} {F : Nat → Prop}
theorem rcrash_spec {l : List Asn} (h : Hp w (RefB x room R :: l)) (hl : R.length ≤ 999999) (hR : ∀ r ∈ R, r.2.2 ≤ r.2.1.size ∧ r.2.1.size ≤ 1000000) (keep : Int) (hk : -9223372036854775808 ≤ keep ∧ keep ≤ 9223372036854775807)
    (hK : ∀ w', Hp w' (RefB x room (R.map (rcr keep)) :: l) → K (.tuple #[]) w') : xCall P nr.ref5_D_Crash [ptr x, i64 keep] w K := by
  refine ref5_D_Crash_call ?_
  unfold ref5_D_Crash_main
  refine Hp.sl0 (size := 3) und.s_ref5_File inf.ref5_File rfl h ?_
  intro v w1 h
  obtain ⟨sv, ho⟩ := RefB.open'.1 h.pick1
  simp only [xs, xb, xd, Nat.zero_add, ho.c0, List.getElem?_cons_zero, List.getElem?_cons_succ]
  have one := flat_one R
  refine Hp.app (size := 3) (bytes := 40) und.s_ref5_File inf.ref5_File rfl rfl rfl rfl h ho.pick1.own.rdN one (by omega) (by omega) ?_
  intro v2 w2 h
  refine Lp.gen (fun n s w' => ∃ i : Nat, n + i = R.length ∧ s = [i64 i] ∧ Hp w' (SlA ty.ref5_File 3 v2 R.length (flat (rcrn keep i R)) :: RefB x room R :: l)) R.length ⟨0, by omega, by simp, by simpa [rcrn] using h⟩ ?_
  rintro n s w3 ⟨i, hni, rfl, h⟩ X hX
  unfold ref5_D_Crash_l1
  simp only [List.getD_cons_zero, xs, xb, xd, len_own_eq und.s_ref5_File h.own]
  by_cases hlt : i < R.length
  · have hlt' : (i : Int) < (R.length : Int) := by omega
    have hr0 := List.getElem?_eq_getElem hlt
    have hb := hR _ (List.getElem_mem hlt)
    generalize R[i] = r at hr0 hb
    have hr := rcrn_get (keep := keep) hr0
    have hf := flat_get hr
    obtain ⟨g, hg, ix, hcell⟩ := own_at (size := 3) und.s_ref5_File inf.ref5_File rfl h.own hlt
    have c0 : ∀ o u, (flat (rcrn keep i R))[o]? = some u → w3.drew.cell? ⟨g, o, none⟩ = some u := hcell
    simp only [hlt', xs, xb, xd, Nat.zero_add, ix, c0 _ _ hf.2.1, c0 _ _ hf.2.2, true_and, xLen_string und.string]
    rw [wrap_i64 (by omega) (by omega)]
    have h := h.drew
    -- what the second half does
    have fin : ∀ (k : Nat), k = min (max keep 0).toNat (r.2.1.size - r.2.2) → ref5_D_Crash_j2 K X v2 (i64 i) (i64 k) w3.drew := by
      intro k hkk
      unfold ref5_D_Crash_j2
      have c1 : ∀ o u, (flat (rcrn keep i R))[o]? = some u → w3.drew.drew.cell? ⟨g, o, none⟩ = some u := hcell
      simp only [xs, xb, xd, Nat.zero_add, ix, c1 _ _ hf.2.1, c1 _ _ hf.2.2, true_and]
      rw [wrap_i64 (by omega) (by omega)]
      have e1 : ((r.2.2 : Int) + (k : Int)) = ((r.2.2 + k : Nat) : Int) := by omega
      rw [e1, xSlice_str und.string _ (by omega)]
      have hsz : (r.2.1.extract 0 (r.2.2 + k)).size = r.2.2 + k := by
        rw [ByteArray.size_extract]; omega
      have hll := rcrn_len keep i R
      refine Hp.sst inf.string rfl rfl h.drew hg (by rw [flat_length, hll]; omega) ?_
      intro w4 h
      rw [(flat_set hr).1] at h
      have hr2 : ((rcrn keep i R).set i (r.1, r.2.1.extract 0 (r.2.2 + k), r.2.2))[i]? = some (r.1, r.2.1.extract 0 (r.2.2 + k), r.2.2) := by simp [rcrn_len, hlt]
      have hf2 := flat_get hr2
      have c4 := h.own.cells (g := g) hg
      simp only [Addr.add_none, Nat.zero_add] at c4
      simp only [ix, xs, xb, xd, c4 _ _ hf2.2.1, xLen_string und.string, hsz]
      refine Hp.sst inf.int rfl rfl h hg (by rw [flat_length, List.length_set, hll]; omega) ?_
      intro w5 h
      rw [(flat_set hr2).2.1, List.set_set] at h
      rw [wrap_i64 (by omega) (by omega)]
      refine hX (n - 1) _ _ ⟨i + 1, by omega, by simp, ?_⟩ (by omega)
      rw [← rcrn_set hr0]
      unfold rcr
      simp only [← hkk]
      exact h
    have e0 : ((r.2.1.size : Nat) : Int) - (r.2.2 : Int) = ((r.2.1.size - r.2.2 : Nat) : Int) := by omega
    rw [e0]
    by_cases hkl : keep < ((r.2.1.size - r.2.2 : Nat) : Int)
    · simp only [hkl, xs, xb, xd]
      have e2 : max keep 0 = ((max keep 0).toNat : Int) := by omega
      rw [e2]
      exact fin _ (by omega)
    · simp only [hkl, xs, xb, xd]
      exact fin _ (by omega)
  · have hlt' : ¬ (i : Int) < (R.length : Int) := by omega
    simp only [hlt', xs, xb, xd]
    unfold ref5_D_Crash_j0
    have hi : i = R.length := by omega
    subst hi
    obtain ⟨sv, ho⟩ := RefB.open'.1 h.pick1
    simp only [xs, Nat.zero_add]
    refine Hp.st ho inf.s_ref5_File rfl h.own.one (by simp) ?_
    intro w4 h
    refine hK w4 (RefB.open'.2 ⟨v2, ?_⟩)
    have := h.pick1.tail.pick1
    rw [List.length_map]
    simpa [rcrn] using h.pick1.tail
end
end Go.Proofs.Ytamejkogghpbhaa
