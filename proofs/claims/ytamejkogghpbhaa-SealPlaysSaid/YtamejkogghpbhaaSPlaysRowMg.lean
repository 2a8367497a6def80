import Derived.Test.YtamejkogghpbhaaRows
import Derived.Test.YtamejkogghpbhaaMg20
import Derived.Test.YtamejkogghpbhaaMg25
/- SealPlays holds: whatever the input, the law answers 'true', and what it was given reads as it did. No condition. -/
set_option linter.unusedVariables false
set_option linter.unusedSimpArgs false
namespace Go.Proofs.Ytamejkogghpbhaa
open Go.Sx Go.ChangeShapes Go.WideShapes Go.ChangeAt Go.RowKit
theorem sealPlays_own : ownKnob Try.prog.godebug = none := by kernel_rfl
theorem sealPlays_laid : laidOutB Try.prog = true := by kernel_rfl
set_option maxRecDepth 100000 in
theorem sealPlays_lifted (os : Os) (started : os.Started) (H : Type) (enc : TypeId × Value → H) :
    ReturnsInHanded {} Try.checked os nr.law6_SealPlays .any (Rows.sealPlaysSpec.pre6 enc Try.prog Try.f10 Rows.sealPlaysRow.domain false) (Rows.sealPlaysSpec.post enc Try.prog Try.f10 false true false false) := by
  refine returnsInHanded_of_change (C := Try.checked) sealPlays_own started (by kernel_rfl) (by kernel_rfl)
    (ChangeSpec.witness6 (enc := enc) (C := Try.checked) false ⟨#[], #[.int .i64 0, .slice none 0 0], []⟩ 8 (by kernel_rfl) (by kernel_rfl) (by kernel_rfl) (by kernel_rfl)) ?_
  intro W base args ds gs before hval0 hW hcnd _
  have hval : ∀ (j : Nat) t v, Try.f10.params[j]? = some t → args[j]? = some v → Value.okWide Try.prog W .any base t v := hval0
  have hW' := hW
  obtain ⟨p, q, hA0, hV, rfl, hfz, hnd⟩ := hW
  have hA : DataW.TrodAll enc Try.prog W 0 (fun _ => true) true [ty.int, ty.s_law6_Op] args.toList ds p := hA0
  obtain ⟨rfl, rfl⟩ := trodVars_none hV
  obtain ⟨v0, vs0, d0, ds0, p0, q0, hargs, rfl, rfl, h0, r0_⟩ := trodAll_cons hA
  obtain ⟨v1, vs1, d1, ds1, p1, q1, rfl, rfl, rfl, h1, r1_⟩ := trodAll_cons r0_
  obtain ⟨rfl, rfl, rfl⟩ := trodAll_nil r1_
  obtain rfl : args = #[v0, v1] := Array.toList_inj.1 (by simpa using hargs)
  obtain ⟨k0, rfl, rfl, rfl, wk0⟩ := open_int und.int (hval 0 ty.int v0 rfl rfl) h0
  have hk0 : -9223372036854775808 ≤ k0 ∧ k0 ≤ 9223372036854775807 := by
    have := wk0
    simp [Lit.wf, IntKind.min, IntKind.max, IntKind.bits, IntKind.signed] at this
    omega
  obtain ⟨a1, n1, c1, rfl⟩ := okWide_slice und.s_law6_Op (hval 1 ty.s_law6_Op v1 rfl rfl)
  obtain ⟨l1, r1, o1⟩ := open_ops6 (v := .slice a1 n1 c1) (Rdt.of_trod h1)
  refine (law6_SealPlays_ok (R := fun v W' => v = .bool true ∧ Below W.heap.size W W') (SealPlays_law k0 hk0 r1 o1 (fun w' h => ⟨rfl, h.inpOf⟩))).mono ?_
  rintro _ W' ⟨_, rfl, rfl, hc⟩
  exact ⟨_, rfl, post_law sealPlays_laid rfl hW' rfl rfl und.bool (by kernel_rfl) hc⟩
theorem sealPlays_holds : Rows.SealPlaysSaid :=
  OpenClaim.holds_of_wide nr.law6_SealPlays Try.f10 rfl rfl rfl rfl rfl rfl rfl ⟨rfl, rfl, rfl, rfl, rfl⟩ rfl rfl rfl rfl rfl (by kernel_rfl) (by kernel_rfl) (by kernel_rfl)
    (of_decide_eq_true (by kernel_rfl)) (by unfold Func.isWrapper; first | (rw [if_pos (by decide +kernel)]; kernel_rfl) | (rw [if_neg (by decide +kernel)]; exact ⟨rfl, rfl⟩))
    (fun os started H enc _ => sealPlays_lifted os started H enc)
end Go.Proofs.Ytamejkogghpbhaa
