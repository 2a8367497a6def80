/- SealKeeps holds: whatever the input, the law answers 'true', and what it was given reads as it did. No condition. -/
import Derived.Test.YtamejkogghpbhaaRows
import Derived.Test.YtamejkogghpbhaaOps6
import Derived.Test.YtamejkogghpbhaaKeeps2
set_option linter.unusedVariables false
set_option linter.unusedSimpArgs false
namespace Go.Proofs.Ytamejkogghpbhaa
open Go.Sx Go.ChangeShapes Go.WideShapes Go.ChangeAt Go.RowKit
theorem sealKeeps_own : ownKnob Try.prog.godebug = none := by kernel_rfl
theorem sealKeeps_laid : laidOutB Try.prog = true := by kernel_rfl
set_option maxRecDepth 100000 in
theorem sealKeeps_lifted (os : Os) (started : os.Started) (H : Type) (enc : TypeId × Value → H) :
    ReturnsInHanded {} Try.checked os nr.law6_SealKeeps .any (Rows.sealKeepsSpec.pre6 enc Try.prog Try.f6 Rows.sealKeepsRow.domain false) (Rows.sealKeepsSpec.post enc Try.prog Try.f6 false true false false) := by
  refine returnsInHanded_of_change (C := Try.checked) sealKeeps_own started (by kernel_rfl) (by kernel_rfl)
    (ChangeSpec.witness6 (enc := enc) (C := Try.checked) false ⟨#[], #[.slice none 0 0, .int .i64 0], []⟩ 8 (by kernel_rfl) (by kernel_rfl) (by kernel_rfl) (by kernel_rfl)) ?_
  intro W base args ds gs before hval0 hW hcnd _
  have hval : ∀ (j : Nat) t v, Try.f6.params[j]? = some t → args[j]? = some v → Value.okWide Try.prog W .any base t v := hval0
  have hW' := hW
  obtain ⟨p, q, hA0, hV, rfl, hfz, hnd⟩ := hW
  have hA : DataW.TrodAll enc Try.prog W 0 (fun _ => true) true [ty.s_law6_Op, ty.int] args.toList ds p := hA0
  obtain ⟨rfl, rfl⟩ := trodVars_none hV
  obtain ⟨v0, vs0, d0, ds0, p0, q0, hargs, rfl, rfl, h0, r0_⟩ := trodAll_cons hA
  obtain ⟨v1, vs1, d1, ds1, p1, q1, rfl, rfl, rfl, h1, r1_⟩ := trodAll_cons r0_
  obtain ⟨rfl, rfl, rfl⟩ := trodAll_nil r1_
  obtain rfl : args = #[v0, v1] := Array.toList_inj.1 (by simpa using hargs)
  obtain ⟨a0, n0, c0, rfl⟩ := okWide_slice und.s_law6_Op (hval 0 ty.s_law6_Op v0 rfl rfl)
  obtain ⟨l0, r0, o0⟩ := open_ops6 (v := .slice a0 n0 c0) (Rdt.of_trod h0)
  obtain ⟨k1, rfl, rfl, rfl, wk1⟩ := open_int und.int (hval 1 ty.int v1 rfl rfl) h1
  have hk1 : -9223372036854775808 ≤ k1 ∧ k1 ≤ 9223372036854775807 := by
    have := wk1
    simp [Lit.wf, IntKind.min, IntKind.max, IntKind.bits, IntKind.signed] at this
    omega
  refine (law6_SealKeeps_ok (R := fun v W' => v = .bool true ∧ Below W.heap.size W W') (SealKeeps_law k1 hk1 r0 o0 (fun w' h => ⟨rfl, h.inpOf⟩))).mono ?_
  rintro _ W' ⟨_, rfl, rfl, hc⟩
  exact ⟨_, rfl, post_law sealKeeps_laid rfl hW' rfl rfl und.bool (by kernel_rfl) hc⟩
theorem sealKeeps_holds : Rows.SealKeepsSaid :=
  OpenClaim.holds_of_wide nr.law6_SealKeeps Try.f6 rfl rfl rfl rfl rfl rfl rfl ⟨rfl, rfl, rfl, rfl, rfl⟩ rfl rfl rfl rfl rfl (by kernel_rfl) (by kernel_rfl) (by kernel_rfl)
    (of_decide_eq_true (by kernel_rfl)) (by unfold Func.isWrapper; first | (rw [if_pos (by decide +kernel)]; kernel_rfl) | (rw [if_neg (by decide +kernel)]; exact ⟨rfl, rfl⟩))
    (fun os started H enc _ => sealKeeps_lifted os started H enc)
end Go.Proofs.Ytamejkogghpbhaa
