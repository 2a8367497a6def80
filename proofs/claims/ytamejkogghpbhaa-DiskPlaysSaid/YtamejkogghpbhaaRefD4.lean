/- The document's disk: syncing, cutting. -/
import Derived.Test.YtamejkogghpbhaaRefD3
set_option linter.unusedVariables false
set_option linter.unusedSimpArgs false
namespace Go.Proofs.Ytamejkogghpbhaa
open Go.Sx
theorem flat_set {R : List RF} {i : Nat} {r : RF} (h : R[i]? = some r) : (∀ s : ByteArray, (flat R).set (i * 3 + 1) (.string s) = flat (R.set i (r.1, s, r.2.2))) ∧ (∀ k : Nat, (flat R).set (i * 3 + 2) (i64 k) = flat (R.set i (r.1, r.2.1, k))) ∧ (∀ s : ByteArray, (flat R).set (i * 3) (.string s) = flat (R.set i (s, r.2.1, r.2.2))) := by
  induction R generalizing i with
  | nil => simp at h
  | cons q R ih =>
    cases i with
    | zero =>
      simp at h; subst h
      refine ⟨fun s => ?_, fun k => ?_, fun s => ?_⟩ <;> simp [flat, rcell]
    | succ i =>
      have := ih (i := i) (by simpa using h)
      have e : ∀ k v, (flat (q :: R)).set ((i + 1) * 3 + k) v = rcell q ++ (flat R).set (i * 3 + k) v := by
        intro k v
        rw [flat_cons, List.set_append_right _ _ (by simp [rcell]; omega)]
        congr 2
        simp [rcell]; omega
      refine ⟨fun s => ?_, fun k => ?_, fun s => ?_⟩
      · rw [e, this.1]; rfl
      · rw [e, this.2.1]; rfl
      · have e0 := e 0 (.string s)
        simp only [Nat.add_zero] at e0
        rw [e0, this.2.2]; rfl
section
variable {w : World} {K : VCont} {x room : Nat} {R : List RF} {F : Nat → Prop}
/-- a cell of a file is set -/
theorem rset {sv : Value} {u : TypeId} {i : TypeInfo} (hb : w.heap[x]? = some (.cells #[i64 room, sv] ty.ref5_D (0, 0))) (ho : Own w ty.ref5_File 3 sv R.length (flat R)) (hne : sv.ownBlock ≠ some x) (hF : ∀ b, F b ↔ (b = x ∨ sv.ownBlock = some b))
    (hi : P.info? u = some i) (hs : i.size = 1) {v : Value} (hv : v.oneCell' = true) {j g : Nat} (hg : sv.ownBlock = some g) (hj : j < R.length * 3) {R' : List RF} (hR : (flat R).set j v = flat R') (hl : R'.length = R.length)
    (hK : ∀ w', w'.heap[x]? = some (.cells #[i64 room, sv] ty.ref5_D (0, 0)) → Own w' ty.ref5_File 3 sv R'.length (flat R') → Chg F w w' → K undef w') : xStore P u (.pointer (some ⟨g, j, none⟩)) v w K := by
  refine own_store hi hs hv ho hg (by rw [flat_length]; exact hj) ?_
  intro w' ho' hc hsz
  rw [hR] at ho'
  refine hK w' (hc.keep hb fun e => hne (by rw [hg, e])) (by rw [hl]; exact ho') (hc.mono fun b _ e => (hF b).2 (.inr (by rw [hg, e])))
theorem rsync_spec (h : RefAt w x room R F) (hl : R.length ≤ 1000000) (a : ByteArray) (hN : isAt R a = false → ∀ w', Chg none' w w' → K (i64 5) w')
    (hK : ∀ r, R[idx R a]? = some r → r.1 = a → ∀ w', RefAt w' x room (R.set (idx R a) (r.1, r.2.1, r.2.1.size)) F → Chg F w w' → K (i64 0) w') : xCall P nr.ref5_D_Sync [ptr x, .string a] w K := by
  refine ref5_D_Sync_call ?_
  unfold ref5_D_Sync_main
  refine at_spec h hl a ?_
  intro w1 hc1
  cases hat : isAt R a with
  | false =>
    simp only [xs, xb, xd]
    exact hN hat w1 hc1
  | true =>
    have h := (h.keep' hc1).keep' (Chg.drew _ none')
    obtain ⟨sv, hb, ho, hne, hF⟩ := id h
    obtain ⟨r, hr, hra⟩ := isAt_some hat
    have hlt := (List.getElem?_eq_some_iff.1 hr).1
    obtain ⟨g, hg, ix, hc⟩ := own_at (size := 3) und.s_ref5_File inf.ref5_File rfl ho hlt
    have hf := flat_get hr
    simp only [xs, xb, xd, Nat.zero_add, cell_of_block hb, List.getElem?_toArray, List.getElem?_cons_zero, List.getElem?_cons_succ, ix, hc _ _ hf.2.1, true_and]
    rw [xLen_string und.string]
    refine rset hb ho hne hF inf.int rfl rfl hg (by omega) ((flat_set hr).2.1 r.2.1.size) (by simp) ?_
    intro w2 hb2 ho2 hc2
    exact hK r hr hra w2 ⟨sv, hb2, ho2, hne, hF⟩ ((hc1.trans (Chg.drew _ _)).of_none.trans hc2)
end
end Go.Proofs.Ytamejkogghpbhaa
