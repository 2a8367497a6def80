/- The document's disk: removing. -/
import Derived.Test.YtamejkogghpbhaaRefD5
set_option linter.unusedVariables false
set_option linter.unusedSimpArgs false
namespace Go.Proofs.Ytamejkogghpbhaa
open Go.Sx
theorem flat_one (R : List RF) : ∀ u ∈ flat R, u.oneCell' = true := by
  intro u hu
  unfold flat at hu
  obtain ⟨r, _, hr⟩ := List.mem_flatMap.1 hu
  simp [rcell] at hr
  rcases hr with rfl | rfl | rfl <;> rfl
section
variable {w : World} {K : VCont} {x room : Nat} {R : List RF} {F : Nat → Prop}
theorem rremove_spec (h : RefAt w x room R F) (hl : R.length ≤ 1000000) (a : ByteArray) (hN : isAt R a = false → ∀ w', Chg none' w w' → K (i64 5) w')
    (hK : ∀ r, R[idx R a]? = some r → r.1 = a → ∀ w' F', RefAt w' x room (R.take (idx R a) ++ R.drop (idx R a + 1)) F' → Chg F w w' → Moves F F' w → K (i64 0) w') : xCall P nr.ref5_D_Remove [ptr x, .string a] w K := by
  refine ref5_D_Remove_call ?_
  unfold ref5_D_Remove_main
  refine at_spec h hl a ?_
  intro w1 hc1
  cases hat : isAt R a with
  | false =>
    simp only [xs, xb, xd]
    exact hN hat w1 hc1
  | true =>
    have h := (h.keep' hc1).keep' (Chg.drew _ none')
    have hcd : Chg none' w w1.drew := hc1.trans (Chg.drew _ _)
    obtain ⟨sv, hb, ho, hne, hF⟩ := id h
    obtain ⟨r, hr, hra⟩ := isAt_some hat
    have hlt := (List.getElem?_eq_some_iff.1 hr).1
    obtain ⟨v8, s8, r8, b8⟩ := head_own (P := P) und.s_ref5_File inf.ref5_File ho (k := idx R a) (by omega)
    obtain ⟨v13, s13, r13, b13⟩ := tail_own (P := P) (size := 3) und.s_ref5_File inf.ref5_File rfl ho (k := idx R a + 1) (by omega)
    rw [← flat_take] at r8
    rw [← flat_drop] at r13
    have e1 : IntKind.i64.wrap ((idx R a : Int) + 1) = ((idx R a + 1 : Nat) : Int) := by rw [wrap_i64 (by omega) (by omega)]; omega
    simp only [xs, xb, xd, Nat.zero_add, cell_of_block hb, List.getElem?_toArray, List.getElem?_cons_zero, List.getElem?_cons_succ, true_and, s8, e1, s13]
    refine buildSlice0 (size := 3) und.s_ref5_File inf.ref5_File rfl ?_
    intro v2 w2 ho2 hb2 hc2 hs2
    have hx2 := hc2.keep hb (fun h => h)
    simp only [cell_of_block hx2, List.getElem?_toArray, List.getElem?_cons_zero, List.getElem?_cons_succ, true_and, and_self]
    have hxl : x < w1.drew.heap.size := size_pos hb
    have hsvl : ∀ g, sv.ownBlock = some g → g < w1.drew.heap.size := fun g hg => ho.lt hg
    refine append_step (size := 3) (bytes := 40) und.s_ref5_File inf.ref5_File rfl rfl rfl rfl ho2 (r8.keep' hc2) (flat_one _) (by unfold maxLen; omega) ?_ ?_
    · omega
    intro v3 w3 ho3 hc3 hv3
    have hnew3 : ∀ g, v3.ownBlock = some g → w1.drew.heap.size ≤ g := by
      intro g hg
      rcases hv3 with e | e
      · rw [e, hb2] at hg; cases hg; omega
      · rw [e] at hg; cases hg; omega
    have hx3 := hc3.keep hx2 (by rw [hb2]; intro e; cases e; omega)
    simp only [cell_of_block hx3, List.getElem?_toArray, List.getElem?_cons_zero, List.getElem?_cons_succ, true_and, and_self]
    have r13' := (r13.keep' hc2).keep hc3 (fun g hg e => by rw [b13] at hg; have := hsvl g hg; rw [hb2] at e; cases e; omega)
    refine append_step (size := 3) (bytes := 40) und.s_ref5_File inf.ref5_File rfl rfl rfl rfl ho3 r13' (flat_one _) (by unfold maxLen; omega) ?_ ?_
    · omega
    intro v4 w4 ho4 hc4 hv4
    have hnew4 : ∀ g, v4.ownBlock = some g → w1.drew.heap.size ≤ g := by
      intro g hg
      rcases hv4 with e | e
      · rw [e] at hg; exact hnew3 g hg
      · rw [e] at hg; cases hg; have := hc3.size; omega
    have hx4 := hc4.keep hx3 (fun e => by have := hnew3 x e; omega)
    refine store_blk inf.s_ref5_File rfl ?_ hx4 (by simp) ?_
    · rcases ho4.2 with ⟨rfl, _⟩ | ⟨g, cap, cur, rfl, _⟩ <;> rfl
    intro w5 hb5 hc5 hs5
    unfold ref5_D_Remove_j0
    have hne4 : v4.ownBlock ≠ some x := fun e => by have := hnew4 x e; omega
    refine hK r hr hra w5 _ ⟨v4, by rw [hb5]; simp, ?_, hne4, fun _ => Iff.rfl⟩ ?_ ?_
    · have := ho4.keep hc5 (fun g hg e => hne4 (by rw [hg, e]))
      simpa [flat_append, Nat.min_eq_left (Nat.le_of_lt hlt)] using this
    · have h1 : Chg F w w1.drew := hcd.of_none
      have h2 := h1.then hc2 fun b _ h => h.elim
      have h3 := h2.then hc3 fun b hb e => by rw [hb2] at e; cases e; have := hcd.size; omega
      have h4 := h3.then hc4 fun b hb e => by have := hnew3 b e; have := hcd.size; omega
      exact h4.then hc5 fun b _ e => (hF b).2 (.inl e)
    · intro b hb
      rcases hb with rfl | hb
      · exact .inl ((hF _).2 (.inl rfl))
      · have := hnew4 b hb; have := hcd.size; exact .inr (by omega)
end
end Go.Proofs.Ytamejkogghpbhaa
