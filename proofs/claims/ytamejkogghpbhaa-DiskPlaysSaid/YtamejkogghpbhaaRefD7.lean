/- The document's disk: putting one in, whatever the order of the new rows. -/
import Derived.Test.YtamejkogghpbhaaRefD6
set_option linter.unusedVariables false
set_option linter.unusedSimpArgs false
namespace Go.Proofs.Ytamejkogghpbhaa
open Go.Sx
section
variable {w0 w : World} {K : World → Prop} {x room : Nat} {sv : Value} {A B : List RF} {f : RF}
/-- w0: the world ahead of the new rows; N: what is new since -/
structure RIn (w0 w : World) (x room : Nat) (sv : Value) : Prop where
  blk : w.heap[x]? = some (.cells #[i64 room, sv] ty.ref5_D (0, 0))
  chg : Chg none' w0 w
  lt : x < w0.heap.size
def fresh (w0 : World) (v : Value) : Prop := ∀ g, v.ownBlock = some g → w0.heap.size ≤ g
theorem RIn.step {S : Nat → Prop} {w' : World} (h : RIn w0 w x room sv) (hc : Chg S w w') (hS : ∀ b, S b → w0.heap.size ≤ b) : RIn w0 w' x room sv :=
  ⟨hc.keep h.blk fun e => by have := hS x e; have := h.lt; omega, h.chg.then hc fun b hb e => by have := hS b e; omega, h.lt⟩
/-- the last two appends, and the store -/
theorem ins_tail {v39 v41 v35 : Value} {chk : World → Prop → Prop} (h : RIn w0 w x room sv) (ho : Own w ty.ref5_File 3 v39 A.length (flat A)) (hf39 : fresh w0 v39) (r41 : RdN w 3 v41 1 (rcell f)) (n41 : v41.ownBlock ≠ v39.ownBlock) (hf41 : fresh w0 v41) (r35 : RdN w 3 v35 B.length (flat B)) (o35 : ∀ g, v35.ownBlock = some g → g < w0.heap.size)
    (hl : A.length + B.length ≤ 1000000)
    (hK : ∀ v w', w'.heap[x]? = some (.cells #[i64 room, v] ty.ref5_D (0, 0)) → Own w' ty.ref5_File 3 v (A ++ f :: B).length (flat (A ++ f :: B)) → fresh w0 v → Chg (· = x) w0 w' → K w') :
    xBuiltin P .append #[41, 41] 41 [false, false] [v39, v41] w fun t43 w =>
      (xLoad1 (.pointer (some ⟨x, 1, none⟩)) w fun t44 w' => w' = w ∧ t44 = sv) ∧
      xBuiltin P .append #[41, 41] 41 [false, false] [t43, v35] w fun t45 w =>
      xNil (ptr x) w fun t46 _ => xOff (some 1) t46 w fun t47 _ => xStore P 41 t47 t45 w fun _ w => K w := by
  refine append_step (size := 3) (bytes := 40) und.s_ref5_File inf.ref5_File rfl rfl rfl rfl ho r41 (by simp [rcell, Value.oneCell']) (by unfold maxLen; omega) (by omega) ?_
  intro v3 w3 ho3 hc3 hv3
  have h3 := h.step hc3 (fun b e => hf39 b e)
  have hf3 : fresh w0 v3 := by
    intro g hg
    rcases hv3 with e | e
    · rw [e] at hg; exact hf39 g hg
    · rw [e] at hg; cases hg; exact h.chg.size
  have r35' := r35.keep hc3 (fun g hg e => by have := o35 g hg; have := hf39 g e; omega)
  simp only [xs, cell_of_block h3.blk, List.getElem?_toArray, List.getElem?_cons_zero, List.getElem?_cons_succ, true_and, and_self, Nat.zero_add]
  refine append_step (size := 3) (bytes := 40) und.s_ref5_File inf.ref5_File rfl rfl rfl rfl ho3 r35' (flat_one _) (by unfold maxLen; omega) (by omega) ?_
  intro v4 w4 ho4 hc4 hv4
  have h4 := h3.step hc4 (fun b e => hf3 b e)
  have hf4 : fresh w0 v4 := by
    intro g hg
    rcases hv4 with e | e
    · rw [e] at hg; exact hf3 g hg
    · rw [e] at hg; cases hg; exact h3.chg.size
  refine store_blk inf.s_ref5_File rfl ?_ h4.blk (by simp) ?_
  · rcases ho4.2 with ⟨rfl, _⟩ | ⟨g, cap, cur, rfl, _⟩ <;> rfl
  intro w5 hb5 hc5 hs5
  have hne4 : v4.ownBlock ≠ some x := fun e => by have := hf4 x e; have := h.lt; omega
  refine hK v4 w5 (by rw [hb5]; simp) ?_ hf4 (h4.chg.of_none.then hc5 fun b _ e => e)
  have := ho4.keep hc5 (fun g hg e => hne4 (by rw [hg, e]))
  have e1 : flat A ++ rcell f ++ flat B = flat (A ++ f :: B) := by rw [flat_append, flat_cons, List.append_assoc]
  rw [e1] at this
  have e2 : A.length + 1 + B.length = (A ++ f :: B).length := by simp; omega
  rw [e2] at this
  exact this
end
end Go.Proofs.Ytamejkogghpbhaa
