/- SealFull holds: whatever the input, the law answers 'true', and what it was given reads as it did. No condition. -/
import Derived.Test.YtamejkogghpbhaaRows
import Derived.Test.YtamejkogghpbhaaOpenBs
import Derived.Test.YtamejkogghpbhaaFull
set_option linter.unusedVariables false
set_option linter.unusedSimpArgs false
namespace Go.Proofs.Ytamejkogghpbhaa
open Go.Sx Go.ChangeShapes Go.WideShapes Go.ChangeAt Go.RowKit
theorem sealFull_own : ownKnob Try.prog.godebug = none := by kernel_rfl
theorem sealFull_laid : laidOutB Try.prog = true := by kernel_rfl
set_option maxRecDepth 100000 in
theorem sealFull_lifted (os : Os) (started : os.Started) (H : Type) (enc : TypeId × Value → H) :
    ReturnsInHanded {} Try.checked os nr.law6_SealFull .any (Rows.sealFullSpec.pre6 enc Try.prog Try.f8 Rows.sealFullRow.domain false) (Rows.sealFullSpec.post enc Try.prog Try.f8 false true false false) := by
  refine returnsInHanded_of_change (C := Try.checked) sealFull_own started (by kernel_rfl) (by kernel_rfl)
    (ChangeSpec.witness6 (enc := enc) (C := Try.checked) false ⟨#[], #[.int .i64 0, .slice none 0 0, .slice none 0 0], []⟩ 8 (by kernel_rfl) (by kernel_rfl) (by kernel_rfl) (by kernel_rfl)) ?_
  intro W base args ds gs before hval0 hW hcnd _
  have hval : ∀ (j : Nat) t v, Try.f8.params[j]? = some t → args[j]? = some v → Value.okWide Try.prog W .any base t v := hval0
  have hW' := hW
  obtain ⟨p, q, hA0, hV, rfl, hfz, hnd⟩ := hW
  have hA : DataW.TrodAll enc Try.prog W 0 (fun _ => true) true [ty.int, ty.s_s_uint8, ty.s_s_uint8] args.toList ds p := hA0
  obtain ⟨rfl, rfl⟩ := trodVars_none hV
  obtain ⟨v0, vs0, d0, ds0, p0, q0, hargs, rfl, rfl, h0, r0_⟩ := trodAll_cons hA
  obtain ⟨v1, vs1, d1, ds1, p1, q1, rfl, rfl, rfl, h1, r1_⟩ := trodAll_cons r0_
  obtain ⟨v2, vs2, d2, ds2, p2, q2, rfl, rfl, rfl, h2, r2_⟩ := trodAll_cons r1_
  obtain ⟨rfl, rfl, rfl⟩ := trodAll_nil r2_
  obtain rfl : args = #[v0, v1, v2] := Array.toList_inj.1 (by simpa using hargs)
  obtain ⟨k0, rfl, rfl, rfl, wk0⟩ := open_int und.int (hval 0 ty.int v0 rfl rfl) h0
  have hk0 : -9223372036854775808 ≤ k0 ∧ k0 ≤ 9223372036854775807 := by
    have := wk0
    simp [Lit.wf, IntKind.min, IntKind.max, IntKind.bits, IntKind.signed] at this
    omega
  obtain ⟨a1, n1, c1, rfl⟩ := okWide_slice und.s_s_uint8 (hval 1 ty.s_s_uint8 v1 rfl rfl)
  obtain ⟨l1, r1, m1, b1⟩ := open_bss (v := .slice a1 n1 c1) (Rdt.of_trod h1)
  obtain ⟨a2, n2, c2, rfl⟩ := okWide_slice und.s_s_uint8 (hval 2 ty.s_s_uint8 v2 rfl rfl)
  obtain ⟨l2, r2, m2, b2⟩ := open_bss (v := .slice a2 n2 c2) (Rdt.of_trod h2)
  refine (law6_SealFull_ok (R := fun v W' => v = .bool true ∧ Below W.heap.size W W') (SealFull_law k0 hk0 (fun w' h => ⟨rfl, h.inpOf⟩) r1 r2 m1 m2)).mono ?_
  rintro _ W' ⟨_, rfl, rfl, hc⟩
  exact ⟨_, rfl, post_law sealFull_laid rfl hW' rfl rfl und.bool (by kernel_rfl) hc⟩
theorem sealFull_holds : Rows.SealFullSaid :=
  OpenClaim.holds_of_wide nr.law6_SealFull Try.f8 rfl rfl rfl rfl rfl rfl rfl ⟨rfl, rfl, rfl, rfl, rfl⟩ rfl rfl rfl rfl rfl (by kernel_rfl) (by kernel_rfl) (by kernel_rfl)
    (of_decide_eq_true (by kernel_rfl)) (by unfold Func.isWrapper; first | (rw [if_pos (by decide +kernel)]; kernel_rfl) | (rw [if_neg (by decide +kernel)]; exact ⟨rfl, rfl⟩))
    (fun os started H enc _ => sealFull_lifted os started H enc)
end Go.Proofs.Ytamejkogghpbhaa
