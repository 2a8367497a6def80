/- DiskNames: behind the loop. -/
import Derived.Test.YtamejkogghpbhaaLawNames
set_option linter.unusedVariables false
set_option linter.unusedSimpArgs false
namespace Go.Proofs.Ytamejkogghpbhaa
open Go.Sx
theorem names_lt {D : Ab} (hn : Nd D) {i : Nat} (h1 : 1 ≤ i) (h2 : i < (names D).length) : slt ((names D)[i - 1]'(by omega)) ((names D)[i]) = true := by
  have := List.pairwise_iff_getElem.1 (srt_pairwise hn) (i - 1) i (by unfold names at h2; omega) (by unfold names at h2; omega) (by omega)
  exact this
theorem asyn_of {D : Ab} {a : ByteArray} {x : List UInt8 × Nat} (h : aget D a = some x) : asyn D a = x.2 := by unfold asyn; rw [h]; rfl
theorem aold_of {D : Ab} {a : ByteArray} {x : List UInt8 × Nat} (h : aget D a = some x) : aold D a = x := by unfold aold; rw [h]; rfl
theorem DiskNames_j2 {w0 w : World} {K : VCont} {d : Nat} {D2 : Ab} {F : Nat → Prop} {f t : ByteArray} {x : List UInt8} {Y : List UInt8 × Nat} {vx vy vz vn : Value} (hK : ∀ w', Chg none' w0 w' → K (.bool true) w')
    (hn2 : Nd D2) (hf : aget D2 f = some (x ++ [116, 97, 105, 108], x.length)) (ht : aget D2 t = some Y) (hl2 : D2.length ≤ 12) (hu2 : aused D2 ≤ 16)
    (h : DI w0 w d 1000 (aput (arem D2 f) t (x ++ [116, 97, 105, 108], x.length)) F) (rx : Rd w vx ((x ++ [116, 97, 105, 108]).map bv)) (rz : Rd w vz ((x ++ [116, 97, 105, 108]).map bv)) (ry : Rd w vy (Y.1.map bv))
    (rn : Rd w vn ((names (aput (arem D2 f) t (x ++ [116, 97, 105, 108], x.length))).map .string)) :
    law5_DiskNames_j2 K (ptr d) (.string f) (.string t) vx (i64 D2.length) (i64 (aused D2)) vy vz (i64 0) vn w := by
  generalize hX : x ++ [(116 : UInt8), 97, 105, 108] = X at *
  have hXl : X.length = x.length + 4 := by rw [← hX]; simp
  generalize hD3 : aput (arem D2 f) t (X, x.length) = D3 at *
  have g3 : aget D3 t = some (X, x.length) := by rw [← hD3, aget_aput]; simp
  have n3 : Nd D3 := h.disk.nodup
  have hre := arem_len hn2 hf
  have hal := aput_length (arem D2 f) t (X, x.length)
  have hau := aused_aput (hn2.arem f) t (X, x.length)
  rw [hD3] at hal hau
  rw [aget_arem] at hal
  simp only at hre hau
  unfold law5_DiskNames_j2
  simp only [xs, xb, xd, bytes_string und.s_uint8 und.uint8 und.string rx, bytes_string und.s_uint8 und.uint8 und.string rz]
  rw [xNe_str]
  simp only [xs, xb, xd]
  refine Synced_spec h.disk _ ?_
  rw [asyn_of g3]
  simp only [xs, xb, xd, len_rd und.s_uint8 rx, List.length_map]
  have hfit := h.disk.fits
  have hxl : X.length ≤ 1000 := by
    have := sum_of_subset (fun p : ByteArray × List UInt8 × Nat => p.2.1.length) [(t, X, x.length)] D3 (by simp) (by intro p hp; simp at hp; subst hp; exact aget_some_mem g3)
    unfold aused at hfit
    simp at this
    omega
  have e1 : IntKind.i64.wrap ((X.length : Int) - 4) = (x.length : Int) := by rw [wrap_i64 (by omega) (by omega)]; omega
  rw [e1]
  simp only [xs, xb, xd]
  rw [xEq_str]
  by_cases hft : f = t
  · subst hft
    simp only [xs, xb, xd]
    refine told_spec ?_
    intro w1 hc1
    have h := h.keep' hc1
    simp only [if_true, Option.isSome_none, Bool.false_eq_true, if_false] at hal
    have ho : aold (arem D2 f) f = ([], 0) := by unfold aold; rw [aget_arem]; simp
    rw [ho] at hau
    simp only [List.length_nil] at hau
    have hlen : D3.length = D2.length := by omega
    have hu : aused D3 = aused D2 := by omega
    simp only [xs, xb, xd, len_rd und.s_string rn, List.length_map, names_length, hlen]
    refine Used_spec h.disk (by omega) ?_
    intro w2 hc2
    rw [hu]
    simp only [xs, xb, xd]
    exact hK _ (h.chg.trans hc2)
  · simp only [hft, xs, xb, xd]
    have hgf : aget D3 f = none := by rw [← hD3, aget_aput, aget_arem, if_neg (fun e => hft e.symm), if_pos rfl]
    refine Read_spec h.disk _ ?_ (fun y e => by rw [hgf] at e; cases e)
    intro _
    simp only [xs, xb, xd]
    refine told_spec ?_
    intro w1 hc1
    have h := h.keep' hc1
    simp only [if_neg hft, ht, Option.isSome_some, if_true] at hal
    have ho : aold (arem D2 f) t = Y := aold_of (by rw [aget_arem, if_neg hft, ht])
    rw [ho] at hau
    have e2 : IntKind.i64.wrap ((D2.length : Int) - 1) = (D3.length : Int) := by rw [wrap_i64 (by omega) (by omega)]; omega
    simp only [xs, xb, xd, len_rd und.s_string rn, List.length_map, names_length, e2]
    refine Used_spec h.disk (by omega) ?_
    intro w2 hc2
    have h := h.keep' hc2
    have e3 : IntKind.i64.wrap ((aused D2 : Int) - (Y.1.length : Int)) = (aused D3 : Int) := by rw [wrap_i64 (by omega) (by omega)]; omega
    simp only [xs, xb, xd, len_rd und.s_uint8 ry, List.length_map, e3]
    refine Rename_spec h.disk _ _ ?_ (fun y e => by rw [hgf] at e; cases e) (fun y e => by rw [hgf] at e; cases e)
    intro _
    simp only [xs, xb, xd]
    refine Rename_spec h.disk _ _ (fun e => by rw [g3] at e; cases e) ?_ (fun _ _ e => absurd e (by decide))
    intro _ _ _
    simp only [xs, xb, xd]
    exact hK _ h.chg
end Go.Proofs.Ytamejkogghpbhaa
