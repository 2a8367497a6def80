/- The document's disk: used; reading; syncing. -/
import Derived.Test.YtamejkogghpbhaaRefD2
set_option linter.unusedVariables false
set_option linter.unusedSimpArgs false
namespace Go.Proofs.Ytamejkogghpbhaa
open Go.Sx
def rused (R : List RF) : Nat := (R.map fun r => r.2.1.size).sum
theorem isAt_some {R : List RF} {a : ByteArray} (h : isAt R a = true) : ∃ r, R[idx R a]? = some r ∧ r.1 = a := by
  unfold isAt at h
  cases hr : R[idx R a]? with
  | none => rw [hr] at h; cases h
  | some r => rw [hr] at h; exact ⟨r, rfl, by simpa using h⟩
section
variable {w : World} {K : VCont} {x room : Nat} {R : List RF} {F : Nat → Prop}
theorem rused_spec (h : RefAt w x room R F) (hl : R.length ≤ 1000000) (hu : rused R ≤ 1000000) (hK : K (i64 (rused R)) w) : xCall P nr.ref5_D_Used [ptr x] w K := by
  refine ref5_D_Used_call ?_
  unfold ref5_D_Used_main
  refine Lp.gen (fun n s w' => w' = w ∧ ∃ i : Nat, n + i = R.length ∧ s = [i64 ((((R.map fun r => r.2.1.size).take i).sum : Nat) : Int), i64 i]) R.length ⟨rfl, 0, by omega, by simp⟩ ?_
  rintro n s w' ⟨rfl, i, hni, rfl⟩ X hX
  obtain ⟨sv, hb, ho, hne, hF⟩ := id h
  unfold ref5_D_Used_l1
  simp only [List.getD_cons_zero, List.getD_cons_succ, xs, xb, xd, Nat.zero_add, cell_of_block hb, List.getElem?_toArray, List.getElem?_cons_zero, List.getElem?_cons_succ, len_own_eq und.s_ref5_File ho]
  by_cases hlt : i < R.length
  · have hlt' : (i : Int) < (R.length : Int) := by omega
    obtain ⟨g, hg, ix, hc⟩ := own_at (size := 3) und.s_ref5_File inf.ref5_File rfl ho hlt
    have hr := flat_get (List.getElem?_eq_getElem hlt)
    simp only [hlt', xs, xb, xd, Nat.zero_add, cell_of_block hb, List.getElem?_toArray, List.getElem?_cons_zero, List.getElem?_cons_succ, ix, hc _ _ hr.2.1]
    rw [xLen_string und.string]
    have hs1 := take_sum_succ (l := R.map fun r => r.2.1.size) (i := i) (x := R[i].2.1.size) (by simp [hlt])
    have hs2 := take_sum (l := R.map fun r => r.2.1.size) (i + 1)
    unfold rused at hu
    simp only [xs, xb, xd]
    rw [wrap_i64 (by omega) (by omega), wrap_i64 (by omega) (by omega)]
    refine hX (n - 1) _ _ ⟨rfl, i + 1, by omega, ?_⟩ (by omega)
    rw [hs1]; simp
  · have hlt' : ¬ (i : Int) < (R.length : Int) := by omega
    simp only [hlt', xs, xb, xd]
    unfold ref5_D_Used_j0
    rw [List.take_of_length_le (by simp; omega)]
    exact hK
theorem rread_spec (h : RefAt w x room R F) (hl : R.length ≤ 1000000) (a : ByteArray) (hN : isAt R a = false → ∀ w', Chg none' w w' → K (.tuple #[.string ⟨#[]⟩, i64 5]) w')
    (hK : ∀ r, R[idx R a]? = some r → r.1 = a → ∀ w', Chg none' w w' → K (.tuple #[.string r.2.1, i64 0]) w') : xCall P nr.ref5_D_Read [ptr x, .string a] w K := by
  refine ref5_D_Read_call ?_
  unfold ref5_D_Read_main
  refine at_spec h hl a ?_
  intro w1 hc1
  have h := h.keep' hc1
  obtain ⟨sv, hb, ho, hne, hF⟩ := id h
  cases hat : isAt R a with
  | false =>
    simp only [xs, xb, xd]
    exact hN hat w1 hc1
  | true =>
    obtain ⟨r, hr, hra⟩ := isAt_some hat
    have hlt := (List.getElem?_eq_some_iff.1 hr).1
    obtain ⟨g, hg, ix, hc⟩ := own_at (size := 3) und.s_ref5_File inf.ref5_File rfl ho hlt
    have hf := flat_get hr
    simp only [xs, xb, xd, Nat.zero_add, cell_of_block hb, List.getElem?_toArray, List.getElem?_cons_zero, List.getElem?_cons_succ, ix, hc _ _ hf.2.1]
    exact hK r hr hra w1 hc1
end
end Go.Proofs.Ytamejkogghpbhaa
