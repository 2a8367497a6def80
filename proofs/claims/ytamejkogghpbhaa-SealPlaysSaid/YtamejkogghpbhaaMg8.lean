import Derived.Test.YtamejkogghpbhaaMg7
import Derived.Sort.Walk0
section
/- Strings: their order; elements of slices that came in. -/
set_option linter.unusedVariables false
set_option linter.unusedSimpArgs false
namespace Go.Sx
open Go
def slt (a b : ByteArray) : Bool := decide (kbytes a < kbytes b)
section
variable {P : Program} {w : World} {K : VCont}
theorem less_eq (a b : ByteArray) : Op.bytesLess a.toList b.toList = slt a b := by
  rw [byteArray_toList, byteArray_toList, Proofs.bytesLess_eq]
  rfl
theorem xLt_str (t : TypeId) (a b : ByteArray) : xBin P .lss t (.string a) (.string b) w K = K (.bool (slt a b)) w := by rw [xBin_slt, less_eq]
theorem xGe_str (t : TypeId) (a b : ByteArray) : xBin P .geq t (.string a) (.string b) w K = K (.bool (!slt a b)) w := by
  rw [← less_eq]
  exact xp_iff fun _ => by simp [binOp, Op.stringOp]
theorem index_rd {t e : TypeId} {i : TypeInfo} (ht : P.underlying t = some (.slice e)) (hi : P.info? e = some i) (hs : i.size = 1) {v x : Value} {k : Nat} {xs : List Value} (h : Rd w v xs) (hx : xs[k]? = some x) {w' : World} (hw : ∀ a, w.cell? a = some x → w'.cell? a = some x) :
    (xIndexAddr P t v (.int .i64 k) w' fun p w => xLoad1 p w K) = K x w' := by
  obtain ⟨a, cap, rfl, hl, hc⟩ := h
  have hk := (List.getElem?_eq_some_iff.1 hx).1
  cases a with
  | none => simp at hc; subst hc; simp at hk
  | some g =>
    have e : (xIndexAddr P t (.slice (some g) xs.length cap) (.int .i64 k) w' fun p w => xLoad1 p w K) = xLoad1 (.pointer (some (g.add k))) w' K := xp_iff fun _ => by
      unfold Instr.indexAt
      simp only [asIntOf, Sem.run_bind, Sem.run_pure, Result.andThen_ok, run_underlying ht]
      rw [if_pos ⟨by omega, by omega⟩]
      simp [sizeOf, typeInfo, hi, hs]
    rw [e, xLoad1_cell, hw _ (hc k x hx)]
/-- the first bytes of a string -/
theorem xSlice_str {t : TypeId} (ht : P.underlying t = some .string) (s : ByteArray) {k : Nat} (hk : k ≤ s.size) : xSlice P t (.string s) none (some (.int .i64 k)) none w K = K (.string (s.extract 0 k)) w := xp_iff fun w' => by
  have hb : (Instr.sliceBounds false s.size s.size none (some (.int .i64 (k : Int))) none).run P w' = .ok (0, k, s.size) w' := by
    simp [Instr.sliceBounds, Instr.sliceBound, asIntOf, hk]
  unfold Instr.sliceAt Instr.slice
  simp [Sem.run_bind, Result.andThen_ok, run_underlying ht, hb]
/-- .. where the load is a step of its own -/
theorem index_at {t e : TypeId} {i : TypeInfo} (ht : P.underlying t = some (.slice e)) (hi : P.info? e = some i) (hs : i.size = 1) {v x : Value} {k : Nat} {xs : List Value} (h : Rd w v xs) (hx : xs[k]? = some x) {w' : World} (hw : ∀ a, w.cell? a = some x → w'.cell? a = some x) :
    ∃ p : Addr, (∀ (w2 : World) (C : VCont), xIndexAddr P t v (.int .i64 k) w2 C = C (.pointer (some p)) w2) ∧ ∀ K : VCont, xLoad1 (.pointer (some p)) w' K = K x w' := by
  obtain ⟨a, cap, rfl, hl, hc⟩ := h
  have hk := (List.getElem?_eq_some_iff.1 hx).1
  cases a with
  | none => simp at hc; subst hc; simp at hk
  | some g =>
    refine ⟨g.add k, fun w2 C => xp_iff fun _ => ?_, fun K => by rw [xLoad1_cell, hw _ (hc k x hx)]⟩
    unfold Instr.indexAt
    simp only [asIntOf, Sem.run_bind, Sem.run_pure, Result.andThen_ok, run_underlying ht]
    rw [if_pos ⟨by omega, by omega⟩]
    simp [sizeOf, typeInfo, hi, hs]
end
theorem srt_pairwise {l : List ByteArray} (hn : l.Nodup) : (srt l).Pairwise fun a b => slt a b = true := by
  have hn2 : (srt l).Nodup := (srt_perm l).nodup_iff.2 hn
  have hs : (srt l).Pairwise fun a b => kbytes a ≤ kbytes b := by
    unfold srt
    rw [List.pairwise_map]
    have tr : ∀ a b c : List UInt8, leB a b = true → leB b c = true → leB a c = true := fun a b c h1 h2 => by simp only [leB, decide_eq_true_eq] at *; exact List.le_trans h1 h2
    have to : ∀ a b : List UInt8, (leB a b || leB b a) = true := fun a b => by simp only [leB, Bool.or_eq_true, decide_eq_true_eq]; exact List.le_total a b
    refine (List.pairwise_mergeSort tr to (l.map kbytes)).imp fun h => ?_
    simpa [leB] using h
  have := List.Pairwise.and hs hn2
  refine this.imp fun ⟨h1, h2⟩ => ?_
  unfold slt
  rw [decide_eq_true_eq]
  rcases List.le_iff_lt_or_eq.1 h1 with h | e
  · exact h
  · have := congrArg kstr e
    rw [kstr_kbytes, kstr_kbytes] at this
    exact absurd this h2
end Go.Sx
end
