/- DiskPlays holds: whatever the input, the law answers 'true', and what it was given reads as it did. No condition. -/
import Derived.Test.YtamejkogghpbhaaRows
import Derived.Test.YtamejkogghpbhaaPlays5
set_option linter.unusedVariables false
set_option linter.unusedSimpArgs false
namespace Go.Proofs.Ytamejkogghpbhaa
open Go.Sx Go.ChangeShapes Go.WideShapes Go.ChangeAt Go.RowKit

theorem five {α : Type} {cs : List α} (h : cs.length = 5) : ∃ a b c d e, cs = [a, b, c, d, e] := by
  match cs, h with
  | [a, b, c, d, e], _ => exact ⟨a, b, c, d, e, rfl⟩
theorem open_op {W : World} {cs : List Value} (h : Rdt P W ty.law5_Op cs) : ∃ o, cs = opcell o ∧ OpOk W o := by
  obtain ⟨a, b, c, d, e, rfl⟩ := five (h.len (n := 5) (by kernel_rfl))
  obtain ⟨k, hk, _⟩ := Rdt.i64 und.int (h.field (i := 0) (ft := ty.int) (off := 0) (sz := 1) (by kernel_rfl))
  obtain ⟨n, hn, hn2⟩ := Rdt.i64 und.int (h.field (i := 1) (ft := ty.int) (off := 1) (sz := 1) (by kernel_rfl))
  obtain ⟨s, hs, hs2⟩ := Rdt.string und.string (h.field (i := 2) (ft := ty.string) (off := 2) (sz := 1) (by kernel_rfl))
  obtain ⟨u, hu, hu2⟩ := Rdt.string und.string (h.field (i := 3) (ft := ty.string) (off := 3) (sz := 1) (by kernel_rfl))
  obtain ⟨v, bs, hv, hr, hl⟩ := Rdt.bytes und.s_uint8 und.uint8 (by kernel_rfl) (h.field (i := 4) (ft := ty.s_uint8) (off := 4) (sz := 1) (by kernel_rfl))
  simp at hk hn hs hu hv
  subst hk; subst hn; subst hs; subst hu; subst hv
  refine ⟨⟨k, n, s, u, e, bs⟩, rfl, hn2, hs2, hu2, hr, hl, ?_⟩
  obtain ⟨_, _, rfl, _⟩ := hr
  rfl
theorem open_ops {W : World} {v : Value} (h : Rdt P W ty.s_law5_Op [v]) : ∃ ops : List OpM, RdN W 5 v ops.length (ops.flatMap opcell) ∧ ∀ o ∈ ops, OpOk W o := by
  obtain ⟨v', n, hv, _, ess, hl, hr, hes⟩ := h.slice (size := 5) und.s_law5_Op (by kernel_rfl)
  cases hv
  obtain ⟨ops, h1, h2⟩ := exists_list (n := ess.length) (p := fun i o => ess[i]? = some (opcell o) ∧ OpOk W o) fun i hi => by
    obtain ⟨o, ho, hok⟩ := open_op (hes _ (List.getElem_mem hi)).2
    exact ⟨o, by rw [List.getElem?_eq_getElem hi, ho], hok⟩
  have he : ess = ops.map opcell := by
    refine List.ext_getElem? fun i => ?_
    rw [List.getElem?_map]
    by_cases hi : i < ops.length
    · rw [(h2 i _ (List.getElem?_eq_getElem hi)).1, List.getElem?_eq_getElem hi]; rfl
    · rw [List.getElem?_eq_none (by omega), List.getElem?_eq_none (by omega)]; rfl
  refine ⟨ops, ?_, fun o ho => ?_⟩
  · rw [List.flatMap_def, ← he, h1, hl]; exact hr
  · obtain ⟨i, hi, rfl⟩ := List.getElem_of_mem ho
    exact (h2 i _ (List.getElem?_eq_getElem hi)).2
theorem Try.own2 : ownKnob Try.prog.godebug = none := by kernel_rfl
theorem Try.laid2 : laidOutB Try.prog = true := by kernel_rfl
set_option maxRecDepth 100000 in
theorem diskPlays_lifted (os : Os) (started : os.Started) (H : Type) (enc : TypeId × Value → H) :
    ReturnsInHanded {} Try.checked os nr.law5_DiskPlays .any (Rows.diskPlaysSpec.pre6 enc Try.prog Try.f5 Rows.diskPlaysRow.domain false) (Rows.diskPlaysSpec.post enc Try.prog Try.f5 false true false false) := by
  refine returnsInHanded_of_change (C := Try.checked) Try.own2 started (by kernel_rfl) (by kernel_rfl)
    (ChangeSpec.witness6 (enc := enc) (C := Try.checked) false ⟨#[], #[.int .i64 0, .slice none 0 0], []⟩ 8 (by kernel_rfl) (by kernel_rfl) (by kernel_rfl) (by kernel_rfl)) ?_
  intro W base args ds gs before hval0 hW hcnd _
  have hval : ∀ (j : Nat) t v, Try.f5.params[j]? = some t → args[j]? = some v → Value.okWide Try.prog W .any base t v := hval0
  have hW' := hW
  obtain ⟨p, q, hA0, hV, rfl, hfz, hnd⟩ := hW
  have hA : DataW.TrodAll enc Try.prog W 0 (fun _ => true) true [ty.int, ty.s_law5_Op] args.toList ds p := hA0
  obtain ⟨rfl, rfl⟩ := trodVars_none hV
  obtain ⟨v0, vs0, d0, ds0, p0, q0, hargs, rfl, rfl, h0, r0⟩ := trodAll_cons hA
  obtain ⟨v1, vs1, d1, ds1, p1, q1, rfl, rfl, rfl, h1, r1⟩ := trodAll_cons r0
  obtain ⟨rfl, rfl, rfl⟩ := trodAll_nil r1
  obtain rfl : args = #[v0, v1] := Array.toList_inj.1 (by simpa using hargs)
  obtain ⟨k, rfl, rfl, rfl, wk⟩ := open_int und.int (hval 0 ty.int v0 rfl rfl) h0
  obtain ⟨a1, n1, c1, rfl⟩ := okWide_slice und.s_law5_Op (hval 1 ty.s_law5_Op v1 rfl rfl)
  obtain ⟨ops, hops, hok⟩ := open_ops (v := .slice a1 n1 c1) (Rdt.of_trod h1)
  have hk : -9223372036854775808 ≤ k ∧ k ≤ 9223372036854775807 := by
    have := wk
    simp [Lit.wf, IntKind.min, IntKind.max, IntKind.bits, IntKind.signed] at this
    omega
  refine (law5_DiskPlays_ok (R := fun v W' => v = .bool true ∧ Below W.heap.size W W') (DiskPlays_law k hk hops hok fun w' h => ⟨rfl, h.inpOf⟩)).mono ?_
  rintro _ W' ⟨_, rfl, rfl, hc⟩
  exact ⟨_, rfl, post_law Try.laid2 rfl hW' rfl rfl und.bool (by kernel_rfl) hc⟩
theorem diskPlays_holds : Rows.DiskPlaysSaid :=
  OpenClaim.holds_of_wide nr.law5_DiskPlays Try.f5 rfl rfl rfl rfl rfl rfl rfl ⟨rfl, rfl, rfl, rfl, rfl⟩ rfl rfl rfl rfl rfl (by kernel_rfl) (by kernel_rfl) (by kernel_rfl)
    (of_decide_eq_true (by kernel_rfl)) (by unfold Func.isWrapper; first | (rw [if_pos (by decide +kernel)]; kernel_rfl) | (rw [if_neg (by decide +kernel)]; exact ⟨rfl, rfl⟩))
    (fun os started H enc _ => diskPlays_lifted os started H enc)
end Go.Proofs.Ytamejkogghpbhaa
