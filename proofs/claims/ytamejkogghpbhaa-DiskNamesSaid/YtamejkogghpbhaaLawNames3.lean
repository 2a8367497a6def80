/- DiskNames: the law. -/
import Derived.Test.YtamejkogghpbhaaLawNames2
set_option linter.unusedVariables false
set_option linter.unusedSimpArgs false
namespace Go.Proofs.Ytamejkogghpbhaa
open Go.Sx
theorem DiskNames_j0 {w0 w : World} {K : VCont} {v : Value} {l : List ByteArray} {a b : Int} {d : Nat} {D : Ab} {F : Nat → Prop} (rl : Rd w0 v (l.map .string)) (hK : ∀ w', Chg none' w0 w' → K (.bool true) w')
    (h : DI w0 w d 1000 D F) (hl : D.length ≤ 12) (hu : aused D ≤ 12) (h1 : 1 ≤ l.length) (h12 : l.length ≤ 12) (hall : ∀ x ∈ l, (aget D x).isSome = true) (hmay : ∀ x ∈ l, mayB x = true) : law5_DiskNames_j0 K v (i64 a) (i64 b) (ptr d) w := by
  obtain ⟨ka, hka, ea⟩ := place_of a h1 (by omega)
  obtain ⟨kb, hkb, eb⟩ := place_of b h1 (by omega)
  have hne : IntKind.u64.wrap (l.length : Int) ≠ 0 := by rw [wrap_u64 (by omega) (by omega)]; omega
  unfold law5_DiskNames_j0
  have h := h.keep' (Chg.drew w none')
  obtain ⟨pa, ia, la⟩ := index_at (P := P) (k := ka) (x := .string l[ka]) und.s_string inf.string rfl rl (by simp [hka]) (cell_keep h.chg)
  obtain ⟨pb, ib, lb⟩ := index_at (P := P) (k := kb) (x := .string l[kb]) und.s_string inf.string rfl rl (by simp [hkb]) (cell_keep h.chg)
  simp only [xs, xb, xd, len_rd und.s_string rl, List.length_map]
  rw [xConv_int 3 35 _ _ _ und.int und.uint, xConv_int 3 35 _ _ _ und.int und.uint, xBin_rem _ _ _ _ hne, xConv_int 35 3 _ _ _ und.uint und.int, ea, ia, la]
  refine ⟨rfl, ?_⟩
  rw [xConv_int 3 35 _ _ _ und.int und.uint, xConv_int 3 35 _ _ _ und.int und.uint, xBin_rem _ _ _ _ hne, xConv_int 35 3 _ _ _ und.uint und.int, eb, ib, lb]
  refine ⟨rfl, ?_⟩
  obtain ⟨x, hx⟩ := Option.isSome_iff_exists.1 (hall _ (List.getElem_mem hka))
  obtain ⟨y, hy⟩ := Option.isSome_iff_exists.1 (hall _ (List.getElem_mem hkb))
  have hmf := hmay _ (List.getElem_mem hka)
  have hmt := hmay _ (List.getElem_mem hkb)
  generalize l[ka] = f at *
  generalize l[kb] = t at *
  have hn : Nd D := h.disk.nodup
  refine Sync_spec h.disk _ (fun e => by rw [hx] at e; cases e) ?_
  intro x' hx' w1 F1 hd1 hc1 hm1
  rw [hx] at hx'; cases hx'
  have h := h.step hd1 hc1 hm1
  refine lit_bytes [116, 97, 105, 108] rfl (by kernel_rfl) (by omega) ?_
  intro v2 w2 hr2 hc2
  have h := h.keep' hc2
  have g1 : aget (aset D f (x.1, x.1.length)) f = some (x.1, x.1.length) := by rw [aget_aset, hx]; simp
  have u1 := aused_aset hn hx (y := (x.1, x.1.length))
  simp only at u1
  refine Append_spec h.disk (by rw [aset_length]; omega) _ hr2 (by simp) (fun e => by rw [hmf] at e; cases e) (fun _ e => by simp at e; omega) ?_
  intro _ _ w3 F3 hd3 hc3 hm3
  have hD := h.step hd3 hc3 hm3
  rw [aold_of g1] at hD
  simp only at hD
  have g2 : aget (aput (aset D f (x.1, x.1.length)) f (x.1 ++ [116, 97, 105, 108], x.1.length)) f = some (x.1 ++ [116, 97, 105, 108], x.1.length) := by rw [aget_aput]; simp
  have l2 := aput_length (aset D f (x.1, x.1.length)) f (x.1 ++ [116, 97, 105, 108], x.1.length)
  rw [g1, aset_length] at l2
  simp only [Option.isSome_some, if_true] at l2
  have u2 := aused_aput (hn.aset f (x.1, x.1.length)) f (x.1 ++ [116, 97, 105, 108], x.1.length)
  rw [aold_of g1] at u2
  simp only [List.length_append, List.length_cons, List.length_nil] at u2
  have n2 : Nd (aput (aset D f (x.1, x.1.length)) f (x.1 ++ [116, 97, 105, 108], x.1.length)) := (hn.aset f (x.1, x.1.length)).aput f _
  have gt : ∃ Y, aget (aput (aset D f (x.1, x.1.length)) f (x.1 ++ [116, 97, 105, 108], x.1.length)) t = some Y := by
    rw [aget_aput]
    by_cases hft : f = t
    · exact ⟨_, if_pos hft⟩
    · rw [if_neg hft, aget_aset, if_neg hft]; exact ⟨y, hy⟩
  obtain ⟨Y, hY⟩ := gt
  generalize hD2 : aput (aset D f (x.1, x.1.length)) f (x.1 ++ [116, 97, 105, 108], x.1.length) = D2 at *
  generalize x.1 = x0 at *
  have h := hD
  have hlt3 : ∀ b, F3 b → b < w3.heap.size := fun b hb => hd3.lt hb
  refine Read_spec h.disk _ (fun e => by rw [g2] at e; cases e) ?_
  intro x4 hx4 v4 w4 ho4 hg4 hc4
  rw [g2] at hx4; cases hx4
  have h := h.keep' hc4
  simp only [xs]
  refine Names_spec h.disk (by omega) ?_
  intro v5 w5 ho5 hg5 hc5
  have h := h.keep' hc5
  have ho4 := ho4.keep' hc5
  refine len_own und.s_string ho5 ?_
  refine Used_spec h.disk (by omega) ?_
  intro w6 hc6
  have h := h.keep' hc6
  have ho4 := ho4.keep' hc6
  refine Read_spec h.disk _ (fun e => by rw [hY] at e; cases e) ?_
  intro x7 hx7 v7 w7 ho7 hg7 hc7
  rw [hY] at hx7; cases hx7
  have h := h.keep' hc7
  have ho4 := ho4.keep' hc7
  simp only [xs]
  have s34 := hc4.size
  have s45 := hc5.size
  have s56 := hc6.size
  have s67 := hc7.size
  refine Rename_spec h.disk _ _ (fun e => by rw [g2] at e; cases e) (fun _ _ e => by rw [hmt] at e; cases e) ?_
  intro x8 hx8 _ w8 F8 hd8 hc8 hm8
  rw [g2] at hx8; cases hx8
  have ho4 := ho4.keep hc8 fun g hg hb => by have := hg4 g hg; have := hlt3 g hb; omega
  have ho7 := ho7.keep hc8 fun g hg hb => by have := hg7 g hg; have := hlt3 g hb; omega
  have h := h.step hd8 hc8 hm8
  simp only [xs, xb, xd]
  have n3 : Nd (aput (arem D2 f) t (x0 ++ [116, 97, 105, 108], x0.length)) := h.disk.nodup
  have l3 := aput_length (arem D2 f) t (x0 ++ [116, 97, 105, 108], x0.length)
  have hre := arem_len n2 g2
  have l3' : (aput (arem D2 f) t (x0 ++ [116, 97, 105, 108], x0.length)).length ≤ 13 := by rw [l3]; split <;> omega
  refine Read_spec h.disk _ (fun e => by rw [aget_aput, if_pos rfl] at e; cases e) ?_
  intro x9 hx9 v9 w9 ho9 hg9 hc9
  rw [aget_aput, if_pos rfl] at hx9; cases hx9
  have h := h.keep' hc9
  have ho4 := ho4.keep' hc9
  have ho7 := ho7.keep' hc9
  simp only [xs]
  refine Names_spec h.disk (by omega) ?_
  intro v10 w10 ho10 hg10 hc10
  have h := h.keep' hc10
  have ho4 := ho4.keep' hc10
  have ho7 := ho7.keep' hc10
  have ho9 := ho9.keep' hc10
  refine Lp.gen (fun n s w' => ∃ i : Nat, n + i = 13 ∧ 1 ≤ i ∧ s = [i64 i] ∧ Chg none' w10 w') 12 ⟨1, by omega, by omega, by simp, Chg.refl _ _⟩ ?_
  rintro n s w11 ⟨i, hni, hi1, rfl, hc11⟩ X hX
  have h := h.keep' hc11
  have r4 := (ho4.keep' hc11).rd
  have r7 := (ho7.keep' hc11).rd
  have r9 := (ho9.keep' hc11).rd
  have r10 := (ho10.keep' hc11).rd
  unfold law5_DiskNames_l3
  simp only [List.getD_cons_zero, xs, xb, xd, len_rd und.s_string r10, List.length_map, names_length]
  by_cases hlt : i < (aput (arem D2 f) t (x0 ++ [116, 97, 105, 108], x0.length)).length
  · have hlt' : (i : Int) < ((aput (arem D2 f) t (x0 ++ [116, 97, 105, 108], x0.length)).length : Int) := by omega
    have hlt2 : i < (names (aput (arem D2 f) t (x0 ++ [116, 97, 105, 108], x0.length))).length := by rw [names_length]; exact hlt
    have hs := names_lt n3 hi1 hlt2
    simp only [hlt', xs, xb, xd]
    have e1 : IntKind.i64.wrap ((i : Int) - 1) = ((i - 1 : Nat) : Int) := by rw [wrap_i64 (by omega) (by omega)]; omega
    obtain ⟨pc, ic, lc⟩ := index_at (P := P) und.s_string inf.string rfl r10 (k := i - 1) (x := .string ((names (aput (arem D2 f) t (x0 ++ [116, 97, 105, 108], x0.length)))[i - 1]'(by omega))) (by simp) (cell_keep (Chg.drew w11 none'))
    obtain ⟨pd, id, ld⟩ := index_at (P := P) und.s_string inf.string rfl r10 (k := i) (x := .string ((names (aput (arem D2 f) t (x0 ++ [116, 97, 105, 108], x0.length)))[i])) (by simp) (cell_keep (Chg.drew w11 none'))
    rw [e1, ic, lc]
    refine ⟨rfl, ?_⟩
    rw [id, ld]
    refine ⟨rfl, ?_⟩
    rw [xGe_str, hs]
    simp only [xs, xb, xd]
    rw [wrap_i64 (by omega) (by omega)]
    exact hX (n - 1) _ _ ⟨i + 1, by omega, by omega, by simp, hc11.trans (Chg.drew _ _)⟩ (by omega)
  · have hlt' : ¬ (i : Int) < ((aput (arem D2 f) t (x0 ++ [116, 97, 105, 108], x0.length)).length : Int) := by omega
    simp only [hlt', xs, xb, xd]
    exact DiskNames_j2 hK n2 g2 hY (by omega) (by omega) h r4 r9 r7 r10
end Go.Proofs.Ytamejkogghpbhaa
