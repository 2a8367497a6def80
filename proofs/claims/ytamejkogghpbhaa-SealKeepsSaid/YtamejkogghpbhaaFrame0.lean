/- Frames: the pure side. -/
import Derived.Test.YtamejkogghpbhaaReader2
set_option linter.unusedVariables false
set_option linter.unusedSimpArgs false
namespace Go.Proofs.Ytamejkogghpbhaa
open Go.Sx
def by8 (c : BitVec 32) (n : Nat) : UInt8 := ⟨(c >>> n).setWidth 8⟩
def word4 (a b c d : UInt8) : BitVec 32 := ((a.toBitVec.setWidth 32 ||| b.toBitVec.setWidth 32 <<< 8) ||| c.toBitVec.setWidth 32 <<< 16) ||| d.toBitVec.setWidth 32 <<< 24
theorem word4_by8 (c : BitVec 32) : word4 (by8 c 0) (by8 c 8) (by8 c 16) (by8 c 24) = c := by
  unfold word4 by8
  apply BitVec.eq_of_getLsbD_eq
  intro i hi
  simp only [BitVec.getLsbD_or, BitVec.getLsbD_shiftLeft, BitVec.getLsbD_setWidth, BitVec.getLsbD_ushiftRight]
  by_cases h1 : i < 8
  · simp [h1, show i < 16 by omega, show i < 24 by omega, hi]
  · by_cases h2 : i < 16
    · simp [h1, h2, show i < 24 by omega, hi, show i - 8 < 8 by omega, show 8 + (i - 8) = i by omega, show i - 8 < 32 by omega]
    · by_cases h3 : i < 24
      · simp [h1, h2, h3, hi, show ¬ i - 8 < 8 by omega, show i - 16 < 8 by omega, show 16 + (i - 16) = i by omega, show i - 16 < 32 by omega]
      · simp [h1, h2, h3, hi, show ¬ i - 8 < 8 by omega, show ¬ i - 16 < 8 by omega, show i - 24 < 8 by omega, show 24 + (i - 24) = i by omega, show i - 24 < 32 by omega]
def head6 (x : List UInt8) : List UInt8 := [by8 (crc x) 0, by8 (crc x) 8, by8 (crc x) 16, by8 (crc x) 24, UInt8.ofNat x.length, UInt8.ofNat (x.length / 256)]
def frame (x : List UInt8) : List UInt8 := head6 x ++ x
def frames (xs : List (List UInt8)) : List UInt8 := (xs.map frame).flatten
def fits (x : List UInt8) : Prop := 1 ≤ x.length ∧ x.length ≤ 1000
instance (x : List UInt8) : Decidable (fits x) := inferInstanceAs (Decidable (_ ∧ _))
/-- the record at the front -/
def one (D : List UInt8) : Option (List UInt8) := match D with
  | c0 :: c1 :: c2 :: c3 :: n0 :: n1 :: r =>
    if n0.toNat + 256 * n1.toNat < 1 ∨ 1000 < n0.toNat + 256 * n1.toNat ∨ r.length < n0.toNat + 256 * n1.toNat then none
    else if crc (r.take (n0.toNat + 256 * n1.toNat)) = word4 c0 c1 c2 c3 then some (r.take (n0.toNat + 256 * n1.toNat)) else none
  | _ => none
def unf : Nat → List UInt8 → List (List UInt8)
  | 0, _ => []
  | k + 1, D => match one D with
    | some x => x :: unf k (D.drop (6 + x.length))
    | none => []
theorem frame_len (x : List UInt8) : (frame x).length = 6 + x.length := by simp [frame, head6]; omega
theorem frames_cons (x : List UInt8) (xs : List (List UInt8)) : frames (x :: xs) = frame x ++ frames xs := rfl
theorem frames_nil : frames [] = [] := rfl
theorem frames_append (xs ys : List (List UInt8)) : frames (xs ++ ys) = frames xs ++ frames ys := by simp [frames]
theorem len_bytes {n : Nat} (h : n ≤ 1000) : (UInt8.ofNat n).toNat + 256 * (UInt8.ofNat (n / 256)).toNat = n := by simp; omega
theorem one_frame {x : List UInt8} (h : fits x) (r : List UInt8) : one (frame x ++ r) = some x := by
  obtain ⟨h1, h2⟩ := h
  unfold frame head6 one
  simp only [List.cons_append, List.nil_append, List.append_assoc]
  rw [len_bytes h2]
  rw [if_neg (by rw [List.length_append]; omega), List.take_left, if_pos (word4_by8 (crc x)).symm]
theorem one_short {D : List UInt8} (h : D.length < 6) : one D = none := by
  unfold one
  split
  · rename_i c0 c1 c2 c3 n0 n1 r
    simp only [List.length_cons] at h
    omega
  · rfl
theorem one_part {x : List UInt8} (h : fits x) {k : Nat} (hk : k < (frame x).length) : one ((frame x).take k) = none := by
  by_cases h6 : k < 6
  · exact one_short (by rw [List.length_take]; omega)
  · obtain ⟨j, rfl⟩ : ∃ j, k = j + 6 := ⟨k - 6, by omega⟩
    rw [frame_len] at hk
    have e : (frame x).take (j + 6) = head6 x ++ x.take j := by
      unfold frame
      rw [List.take_append, List.take_of_length_le (by simp [head6])]
      simp [head6]
    rw [e]
    unfold head6 one
    simp only [List.cons_append, List.nil_append]
    rw [len_bytes h.2, if_pos (.inr (.inr (by rw [List.length_take]; omega)))]
theorem one_fits {D x : List UInt8} (h : one D = some x) : fits x ∧ 6 + x.length ≤ D.length := by
  unfold one at h
  split at h
  · split at h
    · cases h
    · rename_i hc
      split at h
      · cases h
        have hl := List.length_take (i := ‹UInt8›.toNat) (l := ([] : List UInt8))
        rename_i c0 c1 c2 c3 n0 n1 r _
        have : (List.take (n0.toNat + 256 * n1.toNat) r).length = n0.toNat + 256 * n1.toNat := by rw [List.length_take]; omega
        refine ⟨⟨by omega, by omega⟩, ?_⟩
        simp only [List.length_cons]
        omega
      · cases h
  · cases h
theorem unf_frames : ∀ {xs : List (List UInt8)} {r : List UInt8} {k : Nat}, (∀ x ∈ xs, fits x) → one r = none → xs.length ≤ k → unf (k + 1) (frames xs ++ r) = xs
  | [], r, k, _, hr, _ => by unfold unf; rw [frames_nil, List.nil_append, hr]
  | x :: xs, r, k, hx, hr, hk => by
    obtain ⟨k, rfl⟩ : ∃ j, k = j + 1 := ⟨k - 1, by simp at hk; omega⟩
    unfold unf
    rw [frames_cons, List.append_assoc, one_frame (hx x (by simp))]
    simp only
    rw [← frame_len, List.drop_left, unf_frames (fun y hy => hx y (by simp [hy])) hr (by simp at hk; omega)]
/-- what is cut off leaves a beginning of the records, and nothing that counts -/
theorem frames_take : ∀ {xs : List (List UInt8)} (k : Nat), (∀ x ∈ xs, fits x) → ∃ m r, m ≤ xs.length ∧ (frames xs).take k = frames (xs.take m) ++ r ∧ one r = none ∧ (∀ j, j ≤ xs.length → (frames (xs.take j)).length ≤ k → j ≤ m) ∧ ((frames xs).length ≤ k → m = xs.length ∧ r = [])
  | [], k, _ => ⟨0, [], by simp, by simp [frames_nil], one_short (by simp), fun j hj _ => by simpa using hj, fun _ => ⟨rfl, rfl⟩⟩
  | x :: xs, k, hx => by
    by_cases hk : k < (frame x).length
    · refine ⟨0, (frame x).take k, by simp, ?_, one_part (hx x (by simp)) hk, fun j hj hl => ?_, fun hl => ?_⟩
      · rw [frames_cons, List.take_append_of_le_length (by omega)]; rfl
      · cases j with
        | zero => exact Nat.le_refl _
        | succ j =>
          rw [List.take_succ_cons, frames_cons, List.length_append] at hl
          omega
      · rw [frames_cons, List.length_append] at hl
        omega
    · obtain ⟨m, r, h1, h2, h3, h4, h5⟩ := frames_take (xs := xs) (k - (frame x).length) fun y hy => hx y (by simp [hy])
      refine ⟨m + 1, r, by simp; omega, ?_, h3, fun j hj hl => ?_, fun hl => ?_⟩
      · rw [frames_cons, List.take_append, List.take_of_length_le (by omega), h2, List.take_succ_cons, frames_cons, List.append_assoc]
      · cases j with
        | zero => omega
        | succ j =>
          rw [List.take_succ_cons, frames_cons, List.length_append] at hl
          have := h4 j (by simpa using hj) (by omega)
          omega
      · rw [frames_cons, List.length_append] at hl
        obtain ⟨h6, h7⟩ := h5 (by omega)
        exact ⟨by simp [h6], h7⟩
end Go.Proofs.Ytamejkogghpbhaa
