/- Laws of the list that a disk is. -/
import Derived.Test.YtamejkogghpbhaaDisk6
set_option linter.unusedVariables false
set_option linter.unusedSimpArgs false
namespace Go.Proofs.Ytamejkogghpbhaa
open Go.Sx
abbrev Nd (D : Ab) : Prop := (D.map (·.1)).Nodup
theorem aget_cons (p : ByteArray × List UInt8 × Nat) (D : Ab) (a : ByteArray) : aget (p :: D) a = if p.1 = a then some p.2 else aget D a := by
  unfold aget
  rw [List.find?_cons]
  by_cases h : p.1 = a <;> simp [h]
theorem aget_nil (a : ByteArray) : aget [] a = none := rfl
theorem aget_append (D E : Ab) (a : ByteArray) : aget (D ++ E) a = (aget D a).or (aget E a) := by
  unfold aget
  rw [List.find?_append]
  cases List.find? (fun p => decide (p.1 = a)) D <;> simp
theorem aset_cons (p : ByteArray × List UInt8 × Nat) (D : Ab) (a : ByteArray) (x : List UInt8 × Nat) : aset (p :: D) a x = (if p.1 = a then (a, x) else p) :: aset D a x := rfl
theorem aget_aset (D : Ab) (a b : ByteArray) (x : List UInt8 × Nat) : aget (aset D a x) b = if a = b then (aget D b).map fun _ => x else aget D b := by
  induction D with
  | nil => simp [aset, aget]
  | cons p D ih =>
    rw [aset_cons, aget_cons, aget_cons, ih]
    by_cases h1 : p.1 = a
    · by_cases h2 : a = b
      · simp [h1, h2]
      · have : ¬ p.1 = b := fun e => h2 (h1 ▸ e)
        simp [h1, h2]
    · by_cases h2 : p.1 = b
      · have : ¬ a = b := fun e => h1 (e ▸ h2)
        have h3 : ¬ b = a := fun e => this e.symm
        simp [h1, h2, h3, this]
      · simp [h1, h2]
theorem aget_aput (D : Ab) (a b : ByteArray) (x : List UInt8 × Nat) : aget (aput D a x) b = if a = b then some x else aget D b := by
  unfold aput
  split
  · rename_i h
    rw [aget_aset]
    by_cases hab : a = b
    · subst hab
      obtain ⟨y, hy⟩ := Option.isSome_iff_exists.1 h
      simp [hy]
    · simp [hab]
  · rename_i h
    have hn : aget D a = none := by simpa using h
    rw [aget_append, aget_cons, aget_nil]
    by_cases hab : a = b
    · subst hab; simp [hn]
    · simp [hab]
theorem aget_arem (D : Ab) (a b : ByteArray) : aget (arem D a) b = if a = b then none else aget D b := by
  unfold arem
  induction D with
  | nil => simp [aget]
  | cons p D ih =>
    rw [List.filter_cons]
    by_cases h1 : p.1 = a
    · rw [if_neg (by simp [h1]), ih, aget_cons]
      by_cases h2 : a = b
      · simp [h2]
      · have : ¬ p.1 = b := fun e => h2 (h1 ▸ e)
        simp [h2, this]
    · rw [if_pos (by simp [h1]), aget_cons, aget_cons, ih]
      by_cases h2 : p.1 = b
      · have : ¬ a = b := fun e => h1 (e ▸ h2)
        simp [h2, this]
      · simp [h2]
theorem aset_names (D : Ab) (a : ByteArray) (x : List UInt8 × Nat) : (aset D a x).map (·.1) = D.map (·.1) := by
  unfold aset
  rw [List.map_map]
  apply List.map_congr_left
  intro p _
  simp only [Function.comp]
  split
  · rename_i h; exact h.symm
  · rfl
theorem aset_length (D : Ab) (a : ByteArray) (x : List UInt8 × Nat) : (aset D a x).length = D.length := by simp [aset]
theorem aput_length (D : Ab) (a : ByteArray) (x : List UInt8 × Nat) : (aput D a x).length = if (aget D a).isSome then D.length else D.length + 1 := by
  unfold aput
  split <;> simp [aset_length]
theorem Nd.aset {D : Ab} (h : Nd D) (a : ByteArray) (x : List UInt8 × Nat) : Nd (aset D a x) := by unfold Nd; rw [aset_names]; exact h
theorem Nd.aput {D : Ab} (h : Nd D) (a : ByteArray) (x : List UInt8 × Nat) : Nd (aput D a x) := by
  unfold Proofs.Ytamejkogghpbhaa.aput
  split
  · exact h.aset a x
  · rename_i hs
    have hn : aget D a = none := by simpa using hs
    unfold Nd
    rw [List.map_append, List.nodup_append]
    refine ⟨h, by simp, ?_⟩
    intro y hy z hz e
    simp at hz
    subst hz; subst e
    obtain ⟨p, hp, hpe⟩ := List.mem_map.1 hy
    exact aget_none.1 hn p hp hpe
theorem Nd.arem {D : Ab} (h : Nd D) (a : ByteArray) : Nd (arem D a) := h.sublist ((List.filter_sublist).map _)
theorem ab_split {D : Ab} (hn : Nd D) {a : ByteArray} {x : List UInt8 × Nat} (h : aget D a = some x) : ∃ D1 D2, D = D1 ++ (a, x) :: D2 ∧ (∀ p ∈ D1, p.1 ≠ a) ∧ ∀ p ∈ D2, p.1 ≠ a := by
  obtain ⟨D1, D2, rfl⟩ := List.append_of_mem (aget_some_mem h)
  refine ⟨D1, D2, rfl, ?_, ?_⟩
  · intro p hp hpa
    unfold Nd at hn
    rw [List.map_append, List.nodup_append] at hn
    exact hn.2.2 p.1 (List.mem_map.2 ⟨p, hp, rfl⟩) a (by simp) hpa
  · intro p hp hpa
    unfold Nd at hn
    rw [List.map_append, List.nodup_append] at hn
    have := hn.2.1
    rw [List.map_cons, List.nodup_cons] at this
    exact this.1 (List.mem_map.2 ⟨p, hp, hpa⟩)
theorem arem_split {D1 D2 : Ab} {a : ByteArray} {x : List UInt8 × Nat} (h1 : ∀ p ∈ D1, p.1 ≠ a) (h2 : ∀ p ∈ D2, p.1 ≠ a) : arem (D1 ++ (a, x) :: D2) a = D1 ++ D2 := by
  have f : ∀ E : Ab, (∀ p ∈ E, p.1 ≠ a) → arem E a = E := fun E hE => by unfold arem; rw [List.filter_eq_self]; intro p hp; simpa using hE p hp
  have e1 := f D1 h1
  have e2 := f D2 h2
  unfold arem at *
  rw [List.filter_append, List.filter_cons, e1, e2]
  simp
theorem aset_split {D1 D2 : Ab} {a : ByteArray} {x y : List UInt8 × Nat} (h1 : ∀ p ∈ D1, p.1 ≠ a) (h2 : ∀ p ∈ D2, p.1 ≠ a) : aset (D1 ++ (a, x) :: D2) a y = D1 ++ (a, y) :: D2 := by
  have f : ∀ E : Ab, (∀ p ∈ E, p.1 ≠ a) → aset E a y = E := fun E hE => by
    unfold aset
    exact (List.map_congr_left (g := id) fun p hp => by simp [hE p hp]).trans (by simp)
  have e1 := f D1 h1
  have e2 := f D2 h2
  unfold aset at *
  rw [List.map_append, List.map_cons, e1, e2]
  simp
theorem arem_len {D : Ab} (hn : Nd D) {a : ByteArray} {x : List UInt8 × Nat} (h : aget D a = some x) : (arem D a).length + 1 = D.length ∧ aused (arem D a) + x.1.length = aused D := by
  obtain ⟨D1, D2, rfl, h1, h2⟩ := ab_split hn h
  rw [arem_split h1 h2]
  simp only [aused, List.map_append, List.map_cons, List.sum_append, List.sum_cons, List.length_append, List.length_cons]
  omega
theorem aused_aset {D : Ab} (hn : Nd D) {a : ByteArray} {x y : List UInt8 × Nat} (h : aget D a = some x) : aused (aset D a y) + x.1.length = aused D + y.1.length := by
  obtain ⟨D1, D2, rfl, h1, h2⟩ := ab_split hn h
  rw [aset_split h1 h2]
  simp only [aused, List.map_append, List.map_cons, List.sum_append, List.sum_cons]
  omega
theorem aused_aput {D : Ab} (hn : Nd D) (a : ByteArray) (y : List UInt8 × Nat) : aused (aput D a y) + (aold D a).1.length = aused D + y.1.length := by
  unfold aput aold
  split
  · rename_i h
    obtain ⟨x, hx⟩ := Option.isSome_iff_exists.1 h
    have := aused_aset hn hx (y := y)
    rw [hx]; simpa using this
  · rename_i h
    have hx : aget D a = none := by simpa using h
    rw [hx]
    simp [aused]
end Go.Proofs.Ytamejkogghpbhaa
