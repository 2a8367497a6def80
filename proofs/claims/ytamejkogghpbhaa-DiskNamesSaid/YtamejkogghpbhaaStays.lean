/- DiskStays. -/
import Derived.Test.YtamejkogghpbhaaLaw5
import Derived.Test.YtamejkogghpbhaaTxtStays
set_option linter.unusedVariables false
set_option linter.unusedSimpArgs false
namespace Go.Sx
open Go
section
variable {P : Program} {w : World} {K : VCont}
theorem len_rd {t e : TypeId} (ht : P.underlying t = some (.slice e)) {w' : World} {v : Value} {xs : List Value} (h : Rd w v xs) : xLen P .pure #[t] v w' K = K (.int .i64 xs.length) w' := by
  obtain ⟨a, cap, rfl, _⟩ := h
  rw [xLen_slice ht]
theorem add_zero' (a : Addr) : a.add 0 = a := by simp [Addr.add]
/-- the first ones -/
theorem head_rd {t e : TypeId} {i : TypeInfo} (ht : P.underlying t = some (.slice e)) (hi : P.info? e = some i) {v : Value} {xs : List Value} (h : Rd w v xs) {k : Nat} (hk : k ≤ xs.length) {w' : World} :
    ∃ v', (∀ K : VCont, xSlice P t v none (some (.int .i64 k)) none w' K = K v' w') ∧ Rd w v' (xs.take k) := by
  obtain ⟨a, cap, rfl, hl, hc⟩ := h
  refine ⟨.slice a k cap, fun K => ?_, ⟨a, cap, by rw [List.length_take, Nat.min_eq_left hk], by rw [List.length_take]; omega, ?_⟩⟩
  · rw [xSlice_slice ht hi (bounds_hi (by omega) (by omega))]
    congr 2
    cases a with
    | none => split <;> rfl
    | some g =>
      split
      · rfl
      · simp [Addr.add]
  · cases a with
    | none => simp at hc; subst hc; simp
    | some g =>
      intro i u hu
      rw [List.getElem?_take] at hu
      split at hu
      · exact hc i u hu
      · cases hu
end
theorem cat_mk (a b : List UInt8) : (⟨a.toArray⟩ : ByteArray) ++ ⟨b.toArray⟩ = ⟨(a ++ b).toArray⟩ := by
  apply ByteArray.ext
  simp
theorem size_mk (a : List UInt8) : (⟨a.toArray⟩ : ByteArray).size = a.length := rfl
end Go.Sx
namespace Go.Proofs.Ytamejkogghpbhaa
open Go.Sx
theorem cr_eq (keep : Int) (a c : List UInt8) : cr keep (a ++ c, a.length) = (a ++ c.take (min (max keep 0).toNat c.length), a.length + min (max keep 0).toNat c.length) := by
  unfold cr
  simp only [List.length_append, Nat.add_sub_cancel_left, List.take_append, Prod.mk.injEq, and_true]
  rw [List.take_of_length_le (by omega)]
theorem DiskStays_law {w : World} {K : VCont} {va vb vc ve : Value} {a b c e : List UInt8} {keep : Int} (ra : Rd w va (a.map bv)) (rb : Rd w vb (b.map bv)) (rc : Rd w vc (c.map bv)) (re : Rd w ve (e.map bv))
    (hk : -9223372036854775808 ≤ keep ∧ keep ≤ 9223372036854775807) (hK : ∀ w', Chg none' w w' → K (.bool true) w') : law5_DiskStays_main K va vb vc ve (i64 keep) w := by
  unfold law5_DiskStays_main
  refine New_good 1000 (by omega) ?_
  intro d w1 F1 h1 hn1 hc1
  have h : DI w w1 d 1000 [] F1 := ⟨h1, hn1, hc1⟩
  simp only [xs, xb, xd]
  rw [xEq_ptr und.p_disk_Disk]
  simp only [xs, xb, xd, Option.isNone_some, len_rd und.s_uint8 ra, len_rd und.s_uint8 rb, len_rd und.s_uint8 rc, len_rd und.s_uint8 re, List.length_map]
  have told : xCall P nr.law5_told [] w1 fun t22 w => K t22 w := told_spec fun w' hc => hK w' (hc1.trans hc)
  by_cases ha : 100 < (a.length : Int)
  · simp only [ha, len_rd und.s_uint8 ra, len_rd und.s_uint8 rb, len_rd und.s_uint8 rc, len_rd und.s_uint8 re, List.length_map, xs, xb, xd]; exact told
  by_cases hb : 100 < (b.length : Int)
  · simp only [ha, hb, len_rd und.s_uint8 ra, len_rd und.s_uint8 rb, len_rd und.s_uint8 rc, len_rd und.s_uint8 re, List.length_map, xs, xb, xd]; exact told
  by_cases hcl : 100 < (c.length : Int)
  · simp only [ha, hb, hcl, len_rd und.s_uint8 ra, len_rd und.s_uint8 rb, len_rd und.s_uint8 rc, len_rd und.s_uint8 re, List.length_map, xs, xb, xd]; exact told
  by_cases he : 100 < (e.length : Int)
  · simp only [ha, hb, hcl, he, len_rd und.s_uint8 ra, len_rd und.s_uint8 rb, len_rd und.s_uint8 rc, len_rd und.s_uint8 re, List.length_map, xs, xb, xd]; exact told
  simp only [ha, hb, hcl, he, len_rd und.s_uint8 ra, len_rd und.s_uint8 rb, len_rd und.s_uint8 rc, len_rd und.s_uint8 re, List.length_map, xs, xb, xd]
  refine Append_spec h.disk (by simp) _ (ra.keep' h.chg) (by omega) (fun e => absurd e (by decide)) (fun _ hx => by simp [aused] at hx; omega) ?_
  intro _ _ w2 F2 hd2 hc2 hm2
  have h := (h.step hd2 hc2 hm2).eq (D' := [(⟨#[120]⟩, a, 0)]) (by kernel_rfl)
  refine Append_spec h.disk (by simp) _ (rb.keep' h.chg) (by omega) (fun e => absurd e (by decide)) (fun _ hx => by simp [aused] at hx; omega) ?_
  intro _ _ w3 F3 hd3 hc3 hm3
  have h := (h.step hd3 hc3 hm3).eq (D' := [(⟨#[120]⟩, a, 0), (⟨#[121]⟩, b, 0)]) (by kernel_rfl)
  refine Sync_spec h.disk _ (fun e => nomatch (show some (a, 0) = none from e)) ?_
  intro x hx w4 F4 hd4 hc4 hm4
  cases (show some (a, 0) = some x from hx)
  have h := (h.step hd4 hc4 hm4).eq (D' := [(⟨#[120]⟩, a, a.length), (⟨#[121]⟩, b, 0)]) (by kernel_rfl)
  simp only [xs, xb, xd]
  refine Sync_spec h.disk _ (fun e => nomatch (show some (b, 0) = none from e)) ?_
  intro x hx w5 F5 hd5 hc5 hm5
  cases (show some (b, 0) = some x from hx)
  have h := (h.step hd5 hc5 hm5).eq (D' := [(⟨#[120]⟩, a, a.length), (⟨#[121]⟩, b, b.length)]) (by kernel_rfl)
  simp only [xs, xb, xd]
  refine Append_spec h.disk (by simp) _ (rc.keep' h.chg) (by omega) (fun e => absurd e (by decide)) (fun _ hx => by simp [aused] at hx; omega) ?_
  intro _ _ w6 F6 hd6 hc6 hm6
  have h := (h.step hd6 hc6 hm6).eq (D' := [(⟨#[120]⟩, a ++ c, a.length), (⟨#[121]⟩, b, b.length)]) (by kernel_rfl)
  refine Append_spec h.disk (by simp) _ (re.keep' h.chg) (by omega) (fun e => absurd e (by decide)) (fun _ hx => by simp [aused] at hx; omega) ?_
  intro _ _ w7 F7 hd7 hc7 hm7
  have h := (h.step hd7 hc7 hm7).eq (D' := [(⟨#[120]⟩, a ++ c, a.length), (⟨#[121]⟩, b ++ e, b.length)]) (by kernel_rfl)
  refine Crash_spec h.disk (by simp) keep hk ?_
  intro w8 F8 hd8 hc8 hm8
  have h := (h.step hd8 hc8 hm8).eq (D' := [(⟨#[120]⟩, cr keep (a ++ c, a.length)), (⟨#[121]⟩, cr keep (b ++ e, b.length))]) (by kernel_rfl)
  rw [cr_eq, cr_eq] at h
  generalize hm : min (max keep 0).toNat c.length = m at h
  generalize hn : min (max keep 0).toNat e.length = n at h
  refine Read_spec h.disk _ (fun e => nomatch (show some _ = none from e)) ?_
  intro x hx v9 w9 ho9 hg9 hc9
  cases (show some (a ++ c.take m, a.length + m) = some x from hx)
  have h := h.keep' hc9
  simp only [xs, xb, xd]
  refine Read_spec h.disk _ (fun e => nomatch (show some _ = none from e)) ?_
  intro x hx v10 w10 ho10 hg10 hc10
  cases (show some (b ++ e.take n, b.length + n) = some x from hx)
  have h := h.keep' hc10
  have r9 := ho9.rd.keep' hc10
  have r10 := ho10.rd
  have em : max 0 (min keep (c.length : Int)) = (m : Int) := by omega
  have en : max 0 (min keep (e.length : Int)) = (n : Int) := by omega
  simp only [xs, xb, xd, em, en]
  have h := h.keep' (Chg.drew _ none')
  have r9 := r9.keep' (Chg.drew _ none')
  have r10 := r10.keep' (Chg.drew _ none')
  refine told_spec ?_
  intro w11 hc11
  have h := h.keep' hc11
  have r9 := r9.keep' hc11
  have r10 := r10.keep' hc11
  have ra := ra.keep' h.chg
  have rb := rb.keep' h.chg
  have rc := rc.keep' h.chg
  have re := re.keep' h.chg
  obtain ⟨v12, e12, r12⟩ := head_rd (P := P) und.s_uint8 inf.uint8 rc (k := m) (w' := w11) (by simp; omega)
  obtain ⟨v13, e13, r13⟩ := head_rd (P := P) und.s_uint8 inf.uint8 re (k := n) (w' := w11) (by simp; omega)
  rw [← List.map_take] at r12 r13
  simp only [xs, xb, xd, bytes_string und.s_uint8 und.uint8 und.string r9, bytes_string und.s_uint8 und.uint8 und.string r10, bytes_string und.s_uint8 und.uint8 und.string ra, bytes_string und.s_uint8 und.uint8 und.string rb, e12, e13,
    bytes_string und.s_uint8 und.uint8 und.string r12, bytes_string und.s_uint8 und.uint8 und.string r13, true_and]
  rw [xBin_cat _ _ _ (by simp only [size_mk, List.length_take]; omega), cat_mk, xEq_str]
  simp only [xs, xb, xd, true_and, bytes_string und.s_uint8 und.uint8 und.string r10, bytes_string und.s_uint8 und.uint8 und.string rb, e13, bytes_string und.s_uint8 und.uint8 und.string r13]
  rw [xBin_cat _ _ _ (by simp only [size_mk, List.length_take]; omega), cat_mk, xEq_str]
  simp only [xs, xb, xd, true_and, len_rd und.s_uint8 r9, len_rd und.s_uint8 r10]
  refine Synced_spec h.disk _ ?_
  have ea : ((asyn [((⟨#[120]⟩ : ByteArray), a ++ c.take m, a.length + m), (⟨#[121]⟩, b ++ e.take n, b.length + n)] ⟨#[120]⟩ : Nat) : Int) = ((a ++ c.take m).map bv).length := by
    show ((a.length + m : Nat) : Int) = _
    simp; omega
  rw [ea]
  simp only [xs, xb, xd, len_rd und.s_uint8 r9, len_rd und.s_uint8 r10]
  refine Used_spec h.disk (by simp) ?_
  intro w14 hc14
  have eu : ((aused [((⟨#[120]⟩ : ByteArray), a ++ c.take m, a.length + m), (⟨#[121]⟩, b ++ e.take n, b.length + n)] : Nat) : Int) = IntKind.i64.wrap (((a ++ c.take m).map bv).length + ((b ++ e.take n).map bv).length) := by
    rw [wrap_i64 (by omega) (by simp; omega)]
    simp [aused]
  rw [eu]
  simp only [xs, xb, xd]
  exact hK _ (h.chg.trans hc14)
end Go.Proofs.Ytamejkogghpbhaa
