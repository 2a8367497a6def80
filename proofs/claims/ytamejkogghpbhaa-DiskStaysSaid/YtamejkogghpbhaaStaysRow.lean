/- DiskStays holds: whatever the input, the law answers 'true', and what it was given reads as it did. No condition. -/
import Derived.Test.YtamejkogghpbhaaRows
import Derived.Test.YtamejkogghpbhaaRow
import Derived.Test.YtamejkogghpbhaaStays
set_option linter.unusedVariables false
set_option linter.unusedSimpArgs false
namespace Go.Proofs.Ytamejkogghpbhaa
open Go.Sx Go.ChangeShapes Go.WideShapes Go.ChangeAt Go.RowKit

theorem Try.own0 : ownKnob Try.prog.godebug = none := by kernel_rfl
theorem Try.laid0 : laidOutB Try.prog = true := by kernel_rfl
theorem cells_u8 : P.cellsOf ty.uint8 = 1 := by kernel_rfl
set_option maxRecDepth 100000 in
theorem diskStays_lifted (os : Os) (started : os.Started) (H : Type) (enc : TypeId × Value → H) :
    ReturnsInHanded {} Try.checked os nr.law5_DiskStays .any (Rows.diskStaysSpec.pre6 enc Try.prog Try.f3 Rows.diskStaysRow.domain false) (Rows.diskStaysSpec.post enc Try.prog Try.f3 false true false false) := by
  refine returnsInHanded_of_change (C := Try.checked) Try.own0 started (by kernel_rfl) (by kernel_rfl)
    (ChangeSpec.witness6 (enc := enc) (C := Try.checked) false ⟨#[], #[.slice none 0 0, .slice none 0 0, .slice none 0 0, .slice none 0 0, .int .i64 0], []⟩ 8 (by kernel_rfl) (by kernel_rfl) (by kernel_rfl) (by kernel_rfl)) ?_
  intro W base args ds gs before hval0 hW hcnd _
  have hval : ∀ (j : Nat) t v, Try.f3.params[j]? = some t → args[j]? = some v → Value.okWide Try.prog W .any base t v := hval0
  have hW' := hW
  obtain ⟨p, q, hA0, hV, rfl, hfz, hnd⟩ := hW
  have hA : DataW.TrodAll enc Try.prog W 0 (fun _ => true) true [ty.s_uint8, ty.s_uint8, ty.s_uint8, ty.s_uint8, ty.int] args.toList ds p := hA0
  obtain ⟨rfl, rfl⟩ := trodVars_none hV
  obtain ⟨v0, vs0, d0, ds0, p0, q0, hargs, rfl, rfl, h0, r0⟩ := trodAll_cons hA
  obtain ⟨v1, vs1, d1, ds1, p1, q1, rfl, rfl, rfl, h1, r1⟩ := trodAll_cons r0
  obtain ⟨v2, vs2, d2, ds2, p2, q2, rfl, rfl, rfl, h2, r2⟩ := trodAll_cons r1
  obtain ⟨v3, vs3, d3, ds3, p3, q3, rfl, rfl, rfl, h3, r3⟩ := trodAll_cons r2
  obtain ⟨v4, vs4, d4, ds4, p4, q4, rfl, rfl, rfl, h4, r4⟩ := trodAll_cons r3
  obtain ⟨rfl, rfl, rfl⟩ := trodAll_nil r4
  obtain rfl : args = #[v0, v1, v2, v3, v4] := Array.toList_inj.1 (by simpa using hargs)
  obtain ⟨a, ra⟩ := open_bytes_rd und.s_uint8 und.uint8 cells_u8 (hval 0 ty.s_uint8 v0 rfl rfl) h0
  obtain ⟨b, rb⟩ := open_bytes_rd und.s_uint8 und.uint8 cells_u8 (hval 1 ty.s_uint8 v1 rfl rfl) h1
  obtain ⟨c, rc⟩ := open_bytes_rd und.s_uint8 und.uint8 cells_u8 (hval 2 ty.s_uint8 v2 rfl rfl) h2
  obtain ⟨e, re⟩ := open_bytes_rd und.s_uint8 und.uint8 cells_u8 (hval 3 ty.s_uint8 v3 rfl rfl) h3
  obtain ⟨k, rfl, rfl, rfl, wk⟩ := open_int und.int (hval 4 ty.int v4 rfl rfl) h4
  have hk : -9223372036854775808 ≤ k ∧ k ≤ 9223372036854775807 := by
    have := wk
    simp [Lit.wf, IntKind.min, IntKind.max, IntKind.bits, IntKind.signed] at this
    omega
  refine (law5_DiskStays_ok (R := fun v W' => v = .bool true ∧ Chg none' W W') (DiskStays_law ra rb rc re hk fun w' hc => ⟨rfl, hc⟩)).mono ?_
  rintro _ W' ⟨_, rfl, rfl, hc⟩
  exact ⟨_, rfl, post_law Try.laid0 rfl hW' rfl rfl und.bool (by kernel_rfl) (below_of hc)⟩
theorem diskStays_holds : Rows.DiskStaysSaid :=
  OpenClaim.holds_of_wide nr.law5_DiskStays Try.f3 rfl rfl rfl rfl rfl rfl rfl ⟨rfl, rfl, rfl, rfl, rfl⟩ rfl rfl rfl rfl rfl (by kernel_rfl) (by kernel_rfl) (by kernel_rfl)
    (of_decide_eq_true (by kernel_rfl)) (by unfold Func.isWrapper; first | (rw [if_pos (by decide +kernel)]; kernel_rfl) | (rw [if_neg (by decide +kernel)]; exact ⟨rfl, rfl⟩))
    (fun os started H enc _ => diskStays_lifted os started H enc)
end Go.Proofs.Ytamejkogghpbhaa
