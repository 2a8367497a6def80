/- The document's disk: what it is in memory; looking up. -/
import Derived.Test.YtamejkogghpbhaaDisk6
import Derived.Test.YtamejkogghpbhaaMulti
import Derived.Test.YtamejkogghpbhaaTxtRefD
set_option linter.unusedVariables false
set_option linter.unusedSimpArgs false
namespace Go.Proofs.Ytamejkogghpbhaa
open Go.Sx
abbrev RF := ByteArray × ByteArray × Nat
def rcell (r : RF) : List Value := [.string r.1, .string r.2.1, i64 r.2.2]
def flat (R : List RF) : List Value := R.flatMap rcell
theorem flat_cons (r : RF) (R : List RF) : flat (r :: R) = rcell r ++ flat R := rfl
theorem flat_append (R S : List RF) : flat (R ++ S) = flat R ++ flat S := by simp [flat]
theorem flat_length (R : List RF) : (flat R).length = R.length * 3 := by
  induction R with
  | nil => rfl
  | cons r R ih => rw [flat_cons, List.length_append, ih]; simp [rcell]; omega
theorem flat_get {R : List RF} {i : Nat} {r : RF} (h : R[i]? = some r) : (flat R)[i * 3]? = some (.string r.1) ∧ (flat R)[i * 3 + 1]? = some (.string r.2.1) ∧ (flat R)[i * 3 + 2]? = some (i64 r.2.2) := by
  induction R generalizing i with
  | nil => simp at h
  | cons q R ih =>
    cases i with
    | zero => simp at h; subst h; exact ⟨rfl, rfl, rfl⟩
    | succ i =>
      have := ih (i := i) (by simpa using h)
      rw [flat_cons]
      have e : ∀ k, (rcell q ++ flat R)[(i + 1) * 3 + k]? = (flat R)[i * 3 + k]? := by
        intro k
        rw [show (i + 1) * 3 + k = (rcell q).length + (i * 3 + k) by simp [rcell]; omega, List.getElem?_append_right (by omega)]
        congr 1
        omega
      have e0 := e 0
      simp only [Nat.add_zero] at e0
      rw [e0, e 1, e 2]
      exact this
theorem flat_take (R : List RF) (i : Nat) : flat (R.take i) = (flat R).take (i * 3) := by
  induction R generalizing i with
  | nil => simp [flat]
  | cons r R ih =>
    cases i with
    | zero => simp [flat]
    | succ i =>
      rw [List.take_succ_cons, flat_cons, flat_cons, ih, show (i + 1) * 3 = (rcell r).length + i * 3 by simp [rcell]; omega, List.take_length_add_append]
theorem flat_drop (R : List RF) (i : Nat) : flat (R.drop i) = (flat R).drop (i * 3) := by
  induction R generalizing i with
  | nil => simp [flat]
  | cons r R ih =>
    cases i with
    | zero => simp
    | succ i =>
      rw [List.drop_succ_cons, flat_cons, ih, show (i + 1) * 3 = (rcell r).length + i * 3 by simp [rcell]; omega, List.drop_length_add_append]
/-- the document's disk at block x: its room, its files; F: its blocks -/
def RefAt (w : World) (x room : Nat) (R : List RF) (F : Nat → Prop) : Prop :=
  ∃ sv, w.heap[x]? = some (.cells #[i64 room, sv] ty.ref5_D (0, 0)) ∧ Own w ty.ref5_File 3 sv R.length (flat R) ∧ sv.ownBlock ≠ some x ∧ ∀ b, F b ↔ (b = x ∨ sv.ownBlock = some b)
theorem RefAt.keep {S F : Nat → Prop} {w w' : World} {x room : Nat} {R : List RF} (h : RefAt w x room R F) (hc : Chg S w w') (hn : ∀ b, F b → ¬ S b) : RefAt w' x room R F := by
  obtain ⟨sv, h1, h2, h3, h4⟩ := h
  exact ⟨sv, hc.keep h1 (hn x ((h4 x).2 (.inl rfl))), h2.keep hc fun g hg => hn g ((h4 g).2 (.inr hg)), h3, h4⟩
theorem RefAt.keep' {F : Nat → Prop} {w w' : World} {x room : Nat} {R : List RF} (h : RefAt w x room R F) (hc : Chg none' w w') : RefAt w' x room R F := h.keep hc fun _ _ h => h
theorem RefAt.lt {F : Nat → Prop} {w : World} {x room : Nat} {R : List RF} (h : RefAt w x room R F) {b : Nat} (hb : F b) : b < w.heap.size := by
  obtain ⟨sv, h1, h2, h3, h4⟩ := h
  rcases (h4 b).1 hb with rfl | hb
  · exact size_pos h1
  · exact h2.lt hb
end Go.Proofs.Ytamejkogghpbhaa
