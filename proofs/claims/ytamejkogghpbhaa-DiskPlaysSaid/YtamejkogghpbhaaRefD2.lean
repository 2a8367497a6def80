/- The document's disk: where a name stands; used; reading. -/
import Derived.Test.YtamejkogghpbhaaRefD
set_option linter.unusedVariables false
set_option linter.unusedSimpArgs false
namespace Go.Proofs.Ytamejkogghpbhaa
open Go.Sx
theorem len_own_eq {t e : TypeId} (ht : P.underlying t = some (.slice e)) {w w' : World} {K : VCont} {v : Value} {n size : Nat} {xs : List Value} (ho : Own w e size v n xs) : xLen P .pure #[t] v w' K = K (.int .i64 n) w' := by
  rcases ho.2 with ⟨rfl, h0⟩ | ⟨g, cap, cur, rfl, hb, _⟩
  · subst h0; rw [xLen_slice ht]
  · rw [xLen_slice ht]
def idx : List RF → ByteArray → Nat
  | [], _ => 0
  | r :: R, a => if slt r.1 a then idx R a + 1 else 0
theorem idx_le (R : List RF) (a : ByteArray) : idx R a ≤ R.length := by
  induction R with
  | nil => simp [idx]
  | cons r R ih => unfold idx; split <;> simp; omega
theorem idx_step {R : List RF} {a : ByteArray} {i : Nat} {r : RF} (hi : i ≤ idx R a) (hr : R[i]? = some r) : (slt r.1 a = true → i + 1 ≤ idx R a) ∧ (slt r.1 a = false → i = idx R a) := by
  induction R generalizing i with
  | nil => simp at hr
  | cons q R ih =>
    cases i with
    | zero =>
      simp at hr; subst hr
      unfold idx
      cases h : slt q.1 a <;> simp
    | succ i =>
      unfold idx at hi ⊢
      cases h : slt q.1 a with
      | false => rw [h] at hi; simp at hi
      | true =>
        rw [h] at hi
        simp only [if_true] at hi ⊢
        have := ih (i := i) (by omega) (by simpa using hr)
        exact ⟨fun h => by have := this.1 h; omega, fun h => by have := this.2 h; omega⟩
def isAt (R : List RF) (a : ByteArray) : Bool := match R[idx R a]? with
  | some r => decide (r.1 = a)
  | none => false
section
variable {w : World} {K : VCont} {x room : Nat} {R : List RF} {F : Nat → Prop}
theorem good_spec (s : ByteArray) (hK : K (.bool (mayB s)) w) : xCall P nr.ref5_good [.string s] w K := by
  refine ref5_good_call ?_
  unfold ref5_good_main
  unfold mayB at hK
  rw [xLen_string und.string]
  simp only [xs, xb]
  by_cases h : 1 ≤ (s.size : Int)
  · simp only [h, decide_true, xs, xb]
    rw [xLen_string und.string]
    simp only [xs, xb]
    simpa [h] using hK
  · simp only [h, decide_false, xs, xb]
    simpa [h] using hK
theorem at_spec (h : RefAt w x room R F) (hl : R.length ≤ 1000000) (a : ByteArray) (hK : ∀ w', Chg none' w w' → K (.tuple #[i64 (idx R a), .bool (isAt R a)]) w') : xCall P nr.ref5_D_at [ptr x, .string a] w K := by
  refine ref5_D_at_call ?_
  unfold ref5_D_at_main
  refine Lp.gen (fun n s w' => w' = w ∧ ∃ i : Nat, n + i = R.length ∧ s = [i64 i] ∧ i ≤ idx R a) R.length ⟨rfl, 0, by omega, by simp, by omega⟩ ?_
  rintro n s w' ⟨rfl, i, hni, rfl, hi⟩ X hX
  have hle := idx_le R a
  obtain ⟨sv, hb, ho, hne, hF⟩ := id h
  have done : i = idx R a → ref5_D_at_j0 K (ptr x) (.string a) (i64 i) w' := by
    intro hid
    subst hid
    have hK := hK w'.drew (Chg.drew _ _)
    unfold isAt at hK
    unfold ref5_D_at_j0
    have hb' : w'.drew.heap[x]? = some (.cells #[i64 room, sv] ty.ref5_D (0, 0)) := hb
    simp only [xs, xb, xd, Nat.zero_add, cell_of_block hb', List.getElem?_toArray, List.getElem?_cons_zero, List.getElem?_cons_succ, len_own_eq und.s_ref5_File ho, true_and]
    by_cases hlt : idx R a < R.length
    · have hlt' : ((idx R a : Nat) : Int) < (R.length : Int) := by omega
      obtain ⟨g, hg, ix, hc⟩ := own_at (size := 3) und.s_ref5_File inf.ref5_File rfl ho hlt
      have hr := flat_get (List.getElem?_eq_getElem hlt)
      simp only [hlt', xs, xb, xd, Nat.zero_add, cell_of_block hb', List.getElem?_toArray, List.getElem?_cons_zero, List.getElem?_cons_succ, true_and, ix, Nat.add_zero]
      have hc' : w'.drew.cell? ⟨g, idx R a * 3, none⟩ = some (.string R[idx R a].1) := hc _ _ hr.1
      simp only [hc', true_and]
      rw [xEq_str]
      rw [List.getElem?_eq_getElem hlt] at hK
      exact hK
    · have hlt' : ¬ ((idx R a : Nat) : Int) < (R.length : Int) := by omega
      simp only [hlt', xs, xb, xd, true_and]
      rw [List.getElem?_eq_none (by omega)] at hK
      exact hK
  unfold ref5_D_at_l1
  simp only [List.getD_cons_zero, xs, xb, xd, Nat.zero_add, cell_of_block hb, List.getElem?_toArray, List.getElem?_cons_zero, List.getElem?_cons_succ, len_own_eq und.s_ref5_File ho]
  by_cases hlt : i < R.length
  · have hlt' : (i : Int) < (R.length : Int) := by omega
    obtain ⟨g, hg, ix, hc⟩ := own_at (size := 3) und.s_ref5_File inf.ref5_File rfl ho hlt
    have hr := flat_get (List.getElem?_eq_getElem hlt)
    have hst := idx_step hi (List.getElem?_eq_getElem hlt)
    simp only [hlt', xs, xb, xd, Nat.zero_add, cell_of_block hb, List.getElem?_toArray, List.getElem?_cons_zero, List.getElem?_cons_succ, ix, Nat.add_zero, hc _ _ hr.1]
    rw [xLt_str]
    cases hs : slt R[i].1 a with
    | true =>
      simp only [xs, xb, xd]
      rw [wrap_i64 (by omega) (by omega)]
      exact hX (n - 1) _ _ ⟨rfl, i + 1, by omega, by simp, hst.1 hs⟩ (by omega)
    | false =>
      simp only [xs, xb, xd]
      exact done (hst.2 hs)
  · have hlt' : ¬ (i : Int) < (R.length : Int) := by omega
    simp only [hlt', xs, xb, xd]
    exact done (by omega)
end
end Go.Proofs.Ytamejkogghpbhaa
