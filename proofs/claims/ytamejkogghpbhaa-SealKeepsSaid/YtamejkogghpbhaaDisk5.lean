/- The disk: crashes and copies. -/
import Derived.Test.YtamejkogghpbhaaDisk4
import Derived.Test.YtamejkogghpbhaaRange
set_option linter.unusedVariables false
set_option linter.unusedSimpArgs false
namespace Go.Proofs.Ytamejkogghpbhaa
open Go.Sx
theorem names_nodup {D : Ab} (hn : (D.map (·.1)).Nodup) : (names D).Nodup := (srt_perm _).nodup_iff.2 hn
/-- what a crash leaves of a file -/
def cr (keep : Int) (x : List UInt8 × Nat) : List UInt8 × Nat :=
  let n := x.2 + min (max keep 0).toNat (x.1.length - x.2)
  (x.1.take n, n)
def acrash (keep : Int) (D : Ab) : Ab := D.map fun p => (p.1, cr keep p.2)
noncomputable local instance (a : ByteArray) (ks : List ByteArray) : Decidable (a ∈ ks) := Classical.propDecidable _
noncomputable def acr (keep : Int) (ks : List ByteArray) (D : Ab) : Ab := D.map fun p => if p.1 ∈ ks then (p.1, cr keep p.2) else p
theorem aget_acr {keep : Int} {ks : List ByteArray} {D : Ab} {a : ByteArray} (h : a ∉ ks) : aget (acr keep ks D) a = aget D a := by
  unfold aget acr
  induction D with
  | nil => rfl
  | cons p D ih =>
    rw [List.map_cons, List.find?_cons, List.find?_cons]
    by_cases hp : p.1 = a
    · have : p.1 ∉ ks := hp ▸ h
      rw [if_neg this]
      simp [hp]
    · have : (if p.1 ∈ ks then (p.1, cr keep p.2) else p).1 = p.1 := by split <;> rfl
      simp only [this, hp, decide_false]
      exact ih
theorem acr_step {keep : Int} {ks : List ByteArray} {D : Ab} {a : ByteArray} {x : List UInt8 × Nat} (hn : (D.map (·.1)).Nodup) (ha : a ∉ ks) (hx : aget D a = some x) : aset (acr keep ks D) a (cr keep x) = acr keep (ks ++ [a]) D := by
  unfold aset acr
  rw [List.map_map]
  apply List.map_congr_left
  intro p hp
  simp only [Function.comp]
  have h1 : (if p.1 ∈ ks then (p.1, cr keep p.2) else p).1 = p.1 := by split <;> rfl
  rw [h1]
  by_cases hpa : p.1 = a
  · have h2 := aget_mem hn hp
    rw [hpa, hx] at h2
    simp only [Option.some.injEq] at h2
    simp [hpa, ← h2]
  · simp [hpa]
theorem acr_all {keep : Int} {D : Ab} : acr keep (names D) D = acrash keep D := by
  unfold acr acrash
  apply List.map_congr_left
  intro p hp
  have : p.1 ∈ names D := mem_srt.2 (List.mem_map.2 ⟨p, hp, rfl⟩)
  simp [this]
theorem acr_nil {keep : Int} {D : Ab} : acr keep [] D = D := by simp [acr]
section
variable {w : World} {K : VCont} {d room : Nat} {D : Ab} {F : Nat → Prop}
theorem Crash_spec (h : Disk w d room D F) (hl : D.length ≤ 1000000) (keep : Int) (hk : -9223372036854775808 ≤ keep ∧ keep ≤ 9223372036854775807)
    (hK : ∀ w' F', Disk w' d room (acrash keep D) F' → Chg F w w' → Moves F F' w → K (.tuple #[]) w') : xCall P nr.disk_Disk_Crash [ptr d, i64 keep] w K := by
  refine disk_Disk_Crash_call ?_
  unfold disk_Disk_Crash_main
  refine Names_spec h hl ?_
  intro v w1 ho hg hc
  refine len_own und.s_string ho ?_
  have h' := h.keep' hc
  have hnd := h.nodup
  refine Lp.intro (fun s w' => ∃ i F', i ≤ D.length ∧ s = [i64 i] ∧ Disk w' d room (acr keep ((names D).take i) D) F' ∧ Chg F w w' ∧ Moves F F' w ∧ Own w' 9 1 v D.length ((names D).map .string))
    (fun s w' => match s with | [.int _ i] => D.length - i.toNat | _ => 0) ⟨0, F, by omega, by simp, by rw [List.take_zero, acr_nil]; exact h', hc.of_none, fun b hb => .inl hb, ho⟩ ?_
  rintro s w2 ⟨i, F', hi, rfl, hd, hcw, hmv, ho2⟩ X hX
  unfold disk_Disk_Crash_l0
  simp only [List.getD_cons_zero, xs, xb]
  by_cases hlt : i < D.length
  · have hlt' : (i : Int) < (D.length : Int) := by omega
    simp only [hlt', decide_true, xs, xb]
    have hin : i < (names D).length := by rw [names_length]; exact hlt
    refine index_own und.s_string inf.string rfl ho2 (k := i) (x := .string (names D)[i]) (by simp [hin]) ?_
    obtain ⟨m, L, h1, he, h3⟩ := hd
    have hnt : (names D)[i] ∉ (names D).take i := by
      intro hm
      obtain ⟨j, hj, hje⟩ := List.getElem_of_mem hm
      rw [List.getElem_take] at hje
      have hj' : j < i := by simp at hj; omega
      exact absurd ((List.nodup_iff_pairwise_ne.1 (names_nodup hnd) |> List.pairwise_iff_getElem.1) j i (by omega) hin hj') (fun hne => hne hje)
    obtain ⟨x, hx⟩ := mem_names.1 (List.getElem_mem hin)
    have hx' : aget (ab L) (names D)[i] = some x := by rw [he, aget_acr hnt, hx]
    have hx2 := hx'
    rw [aget_ab, Option.map_eq_some_iff] at hx2
    obtain ⟨f, hf, rfl⟩ := hx2
    have h1' := h1.keep' (Chg.drew w2 none')
    have hF := h1'.files _ (find_mem hf)
    simp only [xs, Nat.zero_add]
    rw [cell_of_block h1.blk]
    simp only [List.getElem?_toArray, List.getElem?_cons_zero]
    rw [xLookup_map (v := .string (names D)[i]) sk (names D)[i] und.m_string_p_disk_file inf.p_disk_file rfl h1.map rfl, getD_fptr]
    unfold fptr
    rw [hf]
    simp only [Option.map_some, xs, xb, Nat.zero_add]
    simp only [cell_of_block hF.blk, List.getElem?_toArray, List.getElem?_cons_zero, List.getElem?_cons_succ, true_and]
    refine len_own und.s_uint8 hF.own ?_
    simp only [xs, xb, Nat.zero_add]
    have hsyn := hF.syn
    have hfl := sum_ge (find_mem hf)
    have hfit := h1.fits
    have hroom := h1.hroom
    simp only at hsyn hfl
    have e1 : IntKind.i64.wrap ((f.bs.length : Int) - (f.syn : Int)) = ((f.bs.length - f.syn : Nat) : Int) := by rw [wrap_i64 (by omega) (by omega)]; omega
    have e2 : IntKind.i64.wrap ((f.syn : Int) + min (max keep 0) ((f.bs.length - f.syn : Nat) : Int)) = (((cr keep (f.bs, f.syn)).2 : Nat) : Int) := by
      unfold cr
      simp only
      rw [wrap_i64 (by omega) (by omega)]
      omega
    rw [e1, e2]
    have hcrl : (cr keep (f.bs, f.syn)).2 ≤ f.bs.length := by unfold cr; simp only; omega
    refine cut_file h1' hf hcrl ?_
    intro w3 f' hb hs hd3 hc3 hbl
    have hid : ∀ b, foot d m L b → F b ∨ w.heap.size ≤ b := fun b hb => hmv b ((h3 b).2 hb)
    have hcc : Chg F w w3 := hcw.then ((Chg.drew w2 _).trans hc3) fun b hb hb' => by
      rcases hid b (.inr (.inr ⟨_, find_mem hf, hb'⟩)) with h | h
      · exact h
      · omega
    have ho3 : Own w3 9 1 v D.length ((names D).map .string) := by
      refine (ho2.keep' (Chg.drew w2 none')).keep hc3 fun g hg' hgb => ?_
      -- a block of names is no block of bytes
      rcases ho2.2 with ⟨rfl, h0⟩ | ⟨g', cap, cur, rfl, hgb2, _⟩
      · omega
      · simp [Value.ownBlock] at hg'
        subst hg'
        simp only [FR.blocks, List.mem_cons, Option.mem_toList] at hgb
        rcases hgb with rfl | hgb
        · have := hF.blk
          rw [show w2.drew.heap = w2.heap from rfl, hgb2] at this
          cases this
        · rcases hF.own.2 with ⟨h, _⟩ | ⟨g2, cap2, cur2, h, hb2, _⟩
          · rw [show f.sv = .slice none 0 0 from h] at hgb; cases hgb
          · rw [show f.sv = _ from h] at hgb
            simp [Value.ownBlock] at hgb
            subst hgb
            rw [show w2.drew.heap = w2.heap from rfl, hgb2] at hb2
            cases hb2
    rw [wrap_i64 (by omega) (by omega)]
    refine hX _ _ ⟨i + 1, _, by omega, by simp, ⟨m, _, hd3, ?_, fun _ => Iff.rfl⟩, hcc, ?_, ho3⟩ ?_
    · rw [aset_ab, he, hb, hs, List.take_add_one, List.getElem?_eq_getElem hin]
      exact acr_step (x := (f.bs, f.syn)) hnd hnt hx
    · intro b hb'
      rcases foot_upd (w := w2) hf (fun b hb => .inl (hbl b hb)) b hb' with h | h
      · exact hid b h
      · have := hcw.size; exact .inr (by omega)
    · simp only; omega
  · have hlt' : ¬ (i : Int) < (D.length : Int) := by omega
    have hi' : i = D.length := by omega
    simp only [hlt', decide_false, xs, xb]
    subst hi'
    rw [List.take_of_length_le (by simp [names_length]), acr_all] at hd
    exact hK w2 F' hd hcw hmv
end
end Go.Proofs.Ytamejkogghpbhaa
