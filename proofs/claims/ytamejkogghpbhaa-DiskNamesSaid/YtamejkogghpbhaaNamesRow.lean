/- DiskNames holds: whatever the input, the law answers 'true', and what it was given reads as it did. No condition. -/
import Derived.Test.YtamejkogghpbhaaRows
import Derived.Test.YtamejkogghpbhaaRow
import Derived.Test.YtamejkogghpbhaaLawNames3
set_option linter.unusedVariables false
set_option linter.unusedSimpArgs false
namespace Go.Proofs.Ytamejkogghpbhaa
open Go.Sx Go.ChangeShapes Go.WideShapes Go.ChangeAt Go.RowKit

theorem Try.own1 : ownKnob Try.prog.godebug = none := by kernel_rfl
theorem Try.laid1 : laidOutB Try.prog = true := by kernel_rfl
theorem cells_string : P.cellsOf ty.string = 1 := by kernel_rfl
set_option maxRecDepth 100000 in
theorem diskNames_lifted (os : Os) (started : os.Started) (H : Type) (enc : TypeId × Value → H) :
    ReturnsInHanded {} Try.checked os nr.law5_DiskNames .any (Rows.diskNamesSpec.pre6 enc Try.prog Try.f4 Rows.diskNamesRow.domain false) (Rows.diskNamesSpec.post enc Try.prog Try.f4 false true false false) := by
  refine returnsInHanded_of_change (C := Try.checked) Try.own1 started (by kernel_rfl) (by kernel_rfl)
    (ChangeSpec.witness6 (enc := enc) (C := Try.checked) false ⟨#[], #[.slice none 0 0, .int .i64 0, .int .i64 0], []⟩ 8 (by kernel_rfl) (by kernel_rfl) (by kernel_rfl) (by kernel_rfl)) ?_
  intro W base args ds gs before hval0 hW hcnd _
  have hval : ∀ (j : Nat) t v, Try.f4.params[j]? = some t → args[j]? = some v → Value.okWide Try.prog W .any base t v := hval0
  have hW' := hW
  obtain ⟨p, q, hA0, hV, rfl, hfz, hnd⟩ := hW
  have hA : DataW.TrodAll enc Try.prog W 0 (fun _ => true) true [ty.s_string, ty.int, ty.int] args.toList ds p := hA0
  obtain ⟨rfl, rfl⟩ := trodVars_none hV
  obtain ⟨v0, vs0, d0, ds0, p0, q0, hargs, rfl, rfl, h0, r0⟩ := trodAll_cons hA
  obtain ⟨v1, vs1, d1, ds1, p1, q1, rfl, rfl, rfl, h1, r1⟩ := trodAll_cons r0
  obtain ⟨v2, vs2, d2, ds2, p2, q2, rfl, rfl, rfl, h2, r2⟩ := trodAll_cons r1
  obtain ⟨rfl, rfl, rfl⟩ := trodAll_nil r2
  obtain rfl : args = #[v0, v1, v2] := Array.toList_inj.1 (by simpa using hargs)
  obtain ⟨l, rl, _⟩ := open_strings_rd und.s_string und.string cells_string (hval 0 ty.s_string v0 rfl rfl) h0
  obtain ⟨a, rfl, rfl, rfl, _⟩ := open_int und.int (hval 1 ty.int v1 rfl rfl) h1
  obtain ⟨b, rfl, rfl, rfl, _⟩ := open_int und.int (hval 2 ty.int v2 rfl rfl) h2
  have hK : ∀ w', Chg none' W w' → (fun v W' => v = Value.bool true ∧ Chg none' W W') (.bool true) w' := fun w' hc => ⟨rfl, hc⟩
  refine (law5_DiskNames_ok (R := fun v W' => v = .bool true ∧ Chg none' W W') (DiskNames_law rl hK fun w' d D F h h2 h3 h4 h5 h6 h7 => DiskNames_j0 rl hK h h2 h3 h4 h5 h6 h7)).mono ?_
  rintro _ W' ⟨_, rfl, rfl, hc⟩
  exact ⟨_, rfl, post_law Try.laid1 rfl hW' rfl rfl und.bool (by kernel_rfl) (below_of hc)⟩
theorem diskNames_holds : Rows.DiskNamesSaid :=
  OpenClaim.holds_of_wide nr.law5_DiskNames Try.f4 rfl rfl rfl rfl rfl rfl rfl ⟨rfl, rfl, rfl, rfl, rfl⟩ rfl rfl rfl rfl rfl (by kernel_rfl) (by kernel_rfl) (by kernel_rfl)
    (of_decide_eq_true (by kernel_rfl)) (by unfold Func.isWrapper; first | (rw [if_pos (by decide +kernel)]; kernel_rfl) | (rw [if_neg (by decide +kernel)]; exact ⟨rfl, rfl⟩))
    (fun os started H enc _ => diskNames_lifted os started H enc)
end Go.Proofs.Ytamejkogghpbhaa
