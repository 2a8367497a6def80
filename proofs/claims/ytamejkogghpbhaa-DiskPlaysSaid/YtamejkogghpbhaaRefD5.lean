/- The document's disk: cutting. -/
import Derived.Test.YtamejkogghpbhaaRefD4
set_option linter.unusedVariables false
set_option linter.unusedSimpArgs false
namespace Go.Proofs.Ytamejkogghpbhaa
open Go.Sx
section
variable {w : World} {K : VCont} {x room : Nat} {R : List RF} {F : Nat → Prop}
theorem rcut_spec (h : RefAt w x room R F) (hl : R.length ≤ 1000000) (a : ByteArray) (n : Int) (hN : isAt R a = false → ∀ w', Chg none' w w' → K (i64 5) w')
    (hR : ∀ r, R[idx R a]? = some r → r.1 = a → n < 0 ∨ (r.2.1.size : Int) < n → ∀ w', Chg none' w w' → K (i64 3) w')
    (hK : ∀ r (k : Nat), R[idx R a]? = some r → r.1 = a → n = k → k ≤ r.2.1.size → ∀ w', RefAt w' x room (R.set (idx R a) (r.1, r.2.1.extract 0 k, k)) F → Chg F w w' → K (i64 0) w') : xCall P nr.ref5_D_Cut [ptr x, .string a, i64 n] w K := by
  refine ref5_D_Cut_call ?_
  unfold ref5_D_Cut_main
  refine at_spec h hl a ?_
  intro w1 hc1
  cases hat : isAt R a with
  | false =>
    simp only [xs, xb, xd]
    exact hN hat w1 hc1
  | true =>
    have h0 := h.keep' hc1
    have h := h0.keep' (Chg.drew _ none')
    obtain ⟨sv, hb, ho, hne, hF⟩ := id h0
    obtain ⟨r, hr, hra⟩ := isAt_some hat
    have hlt := (List.getElem?_eq_some_iff.1 hr).1
    obtain ⟨g, hg, ix, hc⟩ := own_at (size := 3) und.s_ref5_File inf.ref5_File rfl ho hlt
    have hf := flat_get hr
    by_cases hn0 : n < 0
    · simp only [hn0, xs, xb, xd]
      exact hR r hr hra (.inl hn0) w1 hc1
    simp only [hn0, xs, xb, xd, Nat.zero_add, cell_of_block hb, List.getElem?_toArray, List.getElem?_cons_zero, List.getElem?_cons_succ, ix, hc _ _ hf.2.1]
    rw [xLen_string und.string]
    simp only [xs, xb, xd]
    by_cases hn1 : ((r.2.1.size : Nat) : Int) < n
    · simp only [hn1, xs, xb, xd]
      exact hR r hr hra (.inr hn1) w1 hc1
    obtain ⟨k, rfl⟩ : ∃ k : Nat, n = k := ⟨n.toNat, by omega⟩
    have hb' : w1.drew.heap[x]? = some (.cells #[i64 room, sv] ty.ref5_D (0, 0)) := hb
    have ho' : Own w1.drew ty.ref5_File 3 sv R.length (flat R) := ho.keep' (Chg.drew _ _)
    have hc' : w1.drew.cell? ⟨g, idx R a * 3 + 1, none⟩ = some (.string r.2.1) := hc _ _ hf.2.1
    simp only [hn1, xs, xb, xd, Nat.zero_add, cell_of_block hb', List.getElem?_toArray, List.getElem?_cons_zero, List.getElem?_cons_succ, ix, hc', true_and]
    rw [xSlice_str und.string _ (by omega)]
    refine rset hb' ho' hne hF inf.string rfl rfl hg (by omega) ((flat_set hr).1 _) (by simp) ?_
    intro w2 hb2 ho2 hc2
    have hr2 : (R.set (idx R a) (r.1, r.2.1.extract 0 k, r.2.2))[idx R a]? = some (r.1, r.2.1.extract 0 k, r.2.2) := by simp [hlt]
    have hlen : (R.set (idx R a) (r.1, r.2.1.extract 0 k, r.2.2)).length = R.length := by simp
    refine rset hb2 ho2 hne hF inf.int rfl rfl hg (by omega) ((flat_set hr2).2.1 k) (by simp) ?_
    intro w3 hb3 ho3 hc3
    rw [List.set_set] at ho3
    exact hK r k hr hra rfl (by omega) w3 ⟨sv, hb3, by simpa using ho3, hne, hF⟩ (((hc1.trans (Chg.drew _ _)).of_none.trans hc2).trans hc3)
end
end Go.Proofs.Ytamejkogghpbhaa
