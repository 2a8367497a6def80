/- Steps of a log that came in. -/
import Derived.Test.YtamejkogghpbhaaOpenBs
import Derived.Test.YtamejkogghpbhaaKeeps
set_option linter.unusedVariables false
set_option linter.unusedSimpArgs false
namespace Go.Proofs.Ytamejkogghpbhaa
open Go.Sx Go.ChangeShapes Go.WideShapes Go.ChangeAt Go.RowKit
theorem four {α : Type} {cs : List α} (h : cs.length = 4) : ∃ a b c d, cs = [a, b, c, d] := by
  match cs, h with
  | [a, b, c, d], _ => exact ⟨a, b, c, d, rfl⟩
theorem open_op6 {W : World} {cs : List Value} (h : Rdt P W ty.law6_Op cs) : ∃ o, cs = op6cell o ∧ Op6Ok W o := by
  obtain ⟨a, b, c, d, rfl⟩ := four (h.len (n := 4) (by kernel_rfl))
  obtain ⟨k, hk, _⟩ := Rdt.i64 und.int (h.field (i := 0) (ft := ty.int) (off := 0) (sz := 1) (by kernel_rfl))
  obtain ⟨n, hn, hn2⟩ := Rdt.i64 und.int (h.field (i := 1) (ft := ty.int) (off := 1) (sz := 1) (by kernel_rfl))
  obtain ⟨v, bs, hv, hr, hl⟩ := Rdt.bytes und.s_uint8 und.uint8 (by kernel_rfl) (h.field (i := 2) (ft := ty.s_uint8) (off := 2) (sz := 1) (by kernel_rfl))
  have h3 := h.field (i := 3) (ft := ty.s_s_uint8) (off := 3) (sz := 1) (by kernel_rfl)
  simp at hk hn hv
  obtain ⟨xss, r1, r2, r3⟩ := open_bss (v := d) h3
  subst hk; subst hn; subst hv
  exact ⟨⟨k, n, c, bs, d, xss⟩, rfl, hn2, hr, r1, hl, r2, r3⟩
theorem open_ops6 {W : World} {v : Value} (h : Rdt P W ty.s_law6_Op [v]) : ∃ ops : List Op6, RdN W 4 v ops.length (ops.flatMap op6cell) ∧ ∀ o ∈ ops, Op6Ok W o := by
  obtain ⟨v', n, hv, _, ess, hl, hr, hes⟩ := h.slice (size := 4) und.s_law6_Op (by kernel_rfl)
  cases hv
  obtain ⟨ops, h1, h2⟩ := exists_list (n := ess.length) (p := fun i o => ess[i]? = some (op6cell o) ∧ Op6Ok W o) fun i hi => by
    obtain ⟨o, ho, hok⟩ := open_op6 (hes _ (List.getElem_mem hi)).2
    exact ⟨o, by rw [List.getElem?_eq_getElem hi, ho], hok⟩
  have he : ess = ops.map op6cell := by
    refine List.ext_getElem? fun i => ?_
    rw [List.getElem?_map]
    by_cases hi : i < ops.length
    · rw [(h2 i _ (List.getElem?_eq_getElem hi)).1, List.getElem?_eq_getElem hi]; rfl
    · rw [List.getElem?_eq_none (by omega), List.getElem?_eq_none (by omega)]; rfl
  refine ⟨ops, ?_, fun o ho => ?_⟩
  · rw [List.flatMap_def, ← he, h1, hl]; exact hr
  · obtain ⟨i, hi, rfl⟩ := List.getElem_of_mem ho
    exact (h2 i _ (List.getElem?_eq_getElem hi)).2
end Go.Proofs.Ytamejkogghpbhaa
