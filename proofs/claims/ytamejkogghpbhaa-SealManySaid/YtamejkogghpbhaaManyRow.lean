/- SealMany holds: whatever the input, the law answers 'true', and what it was given reads as it did. No condition. -/
import Derived.Test.YtamejkogghpbhaaRows
import Derived.Test.YtamejkogghpbhaaOpenBs
import Derived.Test.YtamejkogghpbhaaMany
set_option linter.unusedVariables false
set_option linter.unusedSimpArgs false
namespace Go.Proofs.Ytamejkogghpbhaa
open Go.Sx Go.ChangeShapes Go.WideShapes Go.ChangeAt Go.RowKit
theorem sealMany_own : ownKnob Try.prog.godebug = none := by kernel_rfl
theorem sealMany_laid : laidOutB Try.prog = true := by kernel_rfl
set_option maxRecDepth 100000 in
theorem sealMany_lifted (os : Os) (started : os.Started) (H : Type) (enc : TypeId × Value → H) :
    ReturnsInHanded {} Try.checked os nr.law6_SealMany .any (Rows.sealManySpec.pre6 enc Try.prog Try.f9 Rows.sealManyRow.domain false) (Rows.sealManySpec.post enc Try.prog Try.f9 false true false false) := by
  refine returnsInHanded_of_change (C := Try.checked) sealMany_own started (by kernel_rfl) (by kernel_rfl)
    (ChangeSpec.witness6 (enc := enc) (C := Try.checked) false ⟨#[], #[.slice none 0 0], []⟩ 8 (by kernel_rfl) (by kernel_rfl) (by kernel_rfl) (by kernel_rfl)) ?_
  intro W base args ds gs before hval0 hW hcnd _
  have hval : ∀ (j : Nat) t v, Try.f9.params[j]? = some t → args[j]? = some v → Value.okWide Try.prog W .any base t v := hval0
  have hW' := hW
  obtain ⟨p, q, hA0, hV, rfl, hfz, hnd⟩ := hW
  have hA : DataW.TrodAll enc Try.prog W 0 (fun _ => true) true [ty.s_int] args.toList ds p := hA0
  obtain ⟨rfl, rfl⟩ := trodVars_none hV
  obtain ⟨v0, vs0, d0, ds0, p0, q0, hargs, rfl, rfl, h0, r0_⟩ := trodAll_cons hA
  obtain ⟨rfl, rfl, rfl⟩ := trodAll_nil r0_
  obtain rfl : args = #[v0] := Array.toList_inj.1 (by simpa using hargs)
  obtain ⟨a0, n0, c0, rfl⟩ := okWide_slice und.s_int (hval 0 ty.s_int v0 rfl rfl)
  obtain ⟨l0, r0, m0, b0⟩ := open_i64s (v := .slice a0 n0 c0) (Rdt.of_trod h0)
  refine (law6_SealMany_ok (R := fun v W' => v = .bool true ∧ Below W.heap.size W W') (SealMany_law (fun w' h => ⟨rfl, h.inpOf⟩) r0 b0)).mono ?_
  rintro _ W' ⟨_, rfl, rfl, hc⟩
  exact ⟨_, rfl, post_law sealMany_laid rfl hW' rfl rfl und.bool (by kernel_rfl) hc⟩
theorem sealMany_holds : Rows.SealManySaid :=
  OpenClaim.holds_of_wide nr.law6_SealMany Try.f9 rfl rfl rfl rfl rfl rfl rfl ⟨rfl, rfl, rfl, rfl, rfl⟩ rfl rfl rfl rfl rfl (by kernel_rfl) (by kernel_rfl) (by kernel_rfl)
    (of_decide_eq_true (by kernel_rfl)) (by unfold Func.isWrapper; first | (rw [if_pos (by decide +kernel)]; kernel_rfl) | (rw [if_neg (by decide +kernel)]; exact ⟨rfl, rfl⟩))
    (fun os started H enc _ => sealMany_lifted os started H enc)
end Go.Proofs.Ytamejkogghpbhaa
