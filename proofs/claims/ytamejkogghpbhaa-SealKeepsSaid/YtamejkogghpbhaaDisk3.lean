/- The disk: used, appending, renaming, removing, cutting. -/
import Derived.Test.YtamejkogghpbhaaDisk2
set_option linter.unusedVariables false
set_option linter.unusedSimpArgs false
namespace Go.Sx
open Go
section
variable {P : Program} {w : World} {K : VCont}
/-- an element of a slice of the program's own -/
theorem index_own {t e : TypeId} {i : TypeInfo} (ht : P.underlying t = some (.slice e)) (hi : P.info? e = some i) (hs : i.size = 1) {v x : Value} {n k : Nat} {xs : List Value} (ho : Own w e 1 v n xs) (hx : xs[k]? = some x) (hK : K x w) :
    xIndexAddr P t v (.int .i64 k) w fun p w => xLoad1 p w K := by
  have hlen : xs.length = n := by simpa using ho.1
  have hkn : k < n := by have := (List.getElem?_eq_some_iff.1 hx).1; omega
  have hc := fun g hg => ho.cells (g := g) hg k x hx
  rcases ho.2 with ⟨rfl, h0⟩ | ⟨g, cap, cur, rfl, hb, _⟩
  · omega
  · rw [xIndexAddr_slice ht hi (by omega) (by omega), xLoad1_cell]
    have := hc g rfl
    rw [Addr.add_none] at this
    simp only [hs, Int.toNat_natCast, Nat.mul_one]
    rw [this]
    exact hK
theorem len_own {t e : TypeId} (ht : P.underlying t = some (.slice e)) {v : Value} {n size : Nat} {xs : List Value} (ho : Own w e size v n xs) (hK : K (.int .i64 n) w) : xLen P .pure #[t] v w K := by
  rcases ho.2 with ⟨rfl, h0⟩ | ⟨g, cap, cur, rfl, hb, _⟩
  · subst h0; rw [xLen_slice ht]; exact hK
  · rw [xLen_slice ht]; exact hK
/-- the first ones of a slice, all that there is room for -/
theorem cut_own {t e : TypeId} {i : TypeInfo} (ht : P.underlying t = some (.slice e)) (hi : P.info? e = some i) {v : Value} {n size k : Nat} {xs : List Value} (ho : Own w e size v n xs) (hk : k ≤ n)
    (hK : ∀ v', Own w e size v' k (xs.take (k * size)) → v'.ownBlock = v.ownBlock → K v' w) : xSlice P t v none (some (.int .i64 k)) (some (.int .i64 k)) w K := by
  rcases ho.2 with ⟨rfl, h0⟩ | ⟨g, cap, cur, rfl, hb, h1, h2, h3, h4⟩
  · have : k = 0 := by omega
    subst this
    rw [xSlice_slice ht hi (bounds_himax (by omega) (by omega) (by omega))]
    refine hK _ ⟨by simp, .inl ⟨by simp, rfl⟩⟩ (by simp [Value.ownBlock])
  · rw [xSlice_slice ht hi (bounds_himax (by omega) (by omega) (by omega))]
    have he : (if ((k : Int).toNat = 0) then some (⟨g, 0, none⟩ : Addr) else (some (⟨g, 0, none⟩ : Addr)).map (·.add (0 * i.size))) = some ⟨g, 0, none⟩ := by
      split
      · rfl
      · simp [Addr.add]
    rw [he]
    have hx : xs.length = n * size := ho.1
    have hkn : k * size ≤ n * size := Nat.mul_le_mul_right _ hk
    refine hK _ ⟨by rw [List.length_take]; omega, .inr ⟨g, k, cur, by simp, hb, Nat.le_refl _, by omega, by have := Nat.mul_le_mul_right size (Nat.le_trans hk h1); omega, ?_⟩⟩ (by simp [Value.ownBlock])
    rw [← h4, List.take_take, Nat.min_eq_left hkn]
end
end Go.Sx
namespace Go.Proofs.Ytamejkogghpbhaa
open Go.Sx
theorem aget_mem {D : Ab} (hn : (D.map (·.1)).Nodup) {p : ByteArray × List UInt8 × Nat} (hp : p ∈ D) : aget D p.1 = some p.2 := by
  unfold aget
  induction D with
  | nil => cases hp
  | cons q D ih =>
    rw [List.map_cons, List.nodup_cons] at hn
    rw [List.find?_cons]
    rcases List.mem_cons.1 hp with rfl | hp
    · simp
    · have : ¬ q.1 = p.1 := fun e => hn.1 (e ▸ List.mem_map.2 ⟨p, hp, rfl⟩)
      simp only [this, decide_false]
      exact ih hn.2 hp
theorem aget_some_mem {D : Ab} {a : ByteArray} {x : List UInt8 × Nat} (h : aget D a = some x) : (a, x) ∈ D := by
  unfold aget at h
  rw [Option.map_eq_some_iff] at h
  obtain ⟨p, hp, rfl⟩ := h
  have h1 := List.find?_some hp
  have h2 := List.mem_of_find?_eq_some hp
  have : p.1 = a := by simpa using h1
  rw [← this]; exact h2
theorem aget_none {D : Ab} {a : ByteArray} : aget D a = none ↔ ∀ p ∈ D, p.1 ≠ a := by
  unfold aget
  rw [Option.map_eq_none_iff, List.find?_eq_none]
  simp
def alen (D : Ab) (a : ByteArray) : Nat := ((aget D a).map fun x => x.1.length).getD 0
theorem sum_names {D : Ab} (hn : (D.map (·.1)).Nodup) : ((names D).map (alen D)).sum = aused D := by
  have : ((names D).map (alen D)).Perm ((D.map (·.1)).map (alen D)) := (srt_perm _).map _
  rw [this.sum_nat, List.map_map]
  unfold aused
  congr 1
  apply List.map_congr_left
  intro p hp
  simp only [Function.comp, alen, aget_mem hn hp, Option.map_some, Option.getD_some]
theorem Disk.nodup {w : World} {d room : Nat} {D : Ab} {F : Nat → Prop} (h : Disk w d room D F) : (D.map (·.1)).Nodup := by
  obtain ⟨m, L, h1, rfl, h3⟩ := h
  have := h1.nodup
  simpa [ab, List.map_map, Function.comp_def] using this
theorem Disk.mayb {w : World} {d room : Nat} {D : Ab} {F : Nat → Prop} (h : Disk w d room D F) : ∀ p ∈ D, mayB p.1 = true := by
  obtain ⟨m, L, h1, rfl, h3⟩ := h
  intro p hp
  obtain ⟨q, hq, rfl⟩ := List.mem_map.1 hp
  exact h1.names q hq
theorem Disk.synced {w : World} {d room : Nat} {D : Ab} {F : Nat → Prop} (h : Disk w d room D F) : ∀ p ∈ D, p.2.2 ≤ p.2.1.length := by
  obtain ⟨m, L, h1, rfl, h3⟩ := h
  intro p hp
  obtain ⟨q, hq, rfl⟩ := List.mem_map.1 hp
  exact (h1.files q hq).syn
theorem names_length (D : Ab) : (names D).length = D.length := by unfold names; rw [srt_length, List.length_map]
theorem mem_names {D : Ab} {a : ByteArray} : a ∈ names D ↔ ∃ x, aget D a = some x := by
  unfold names
  rw [mem_srt, List.mem_map]
  constructor
  · rintro ⟨p, hp, rfl⟩
    cases h : aget D p.1 with
    | none => exact absurd rfl (aget_none.1 h p hp)
    | some x => exact ⟨x, rfl⟩
  · rintro ⟨x, hx⟩
    exact ⟨_, aget_some_mem hx, rfl⟩
theorem take_sum {l : List Nat} (i : Nat) : (l.take i).sum ≤ l.sum := by
  have : l.sum = (l.take i ++ l.drop i).sum := by rw [List.take_append_drop]
  rw [this, List.sum_append]
  omega
theorem take_sum_succ {l : List Nat} {i x : Nat} (h : l[i]? = some x) : (l.take (i + 1)).sum = (l.take i).sum + x := by
  rw [List.take_add_one, h]
  simp

section
variable {w : World} {K : VCont} {d room : Nat} {D : Ab} {F : Nat → Prop}
theorem Used_spec (h : Disk w d room D F) (hl : D.length ≤ 1000000) (hK : ∀ w', Chg none' w w' → K (i64 (aused D)) w') : xCall P nr.disk_Disk_Used [ptr d] w K := by
  refine disk_Disk_Used_call ?_
  unfold disk_Disk_Used_main
  refine Names_spec h hl ?_
  intro v w1 ho hg hc
  refine len_own und.s_string ho ?_
  have h' := h.keep' hc
  have hsum := sum_names h.nodup
  have hfit := h.fits
  refine Lp.intro (fun s w' => w' = w1 ∧ ∃ i, i ≤ D.length ∧ s = [i64 ((((names D).map (alen D)).take i).sum), i64 i]) (fun s w' => match s with | [_, .int _ i] => D.length - i.toNat | _ => 0) ⟨rfl, 0, by omega, by simp⟩ ?_
  rintro s w' ⟨rfl, i, hi, rfl⟩ X hX
  unfold disk_Disk_Used_l1
  simp only [List.getD_cons_zero, List.getD_cons_succ, xs, xb]
  by_cases hlt : i < D.length
  · have hlt' : (i : Int) < (D.length : Int) := by omega
    simp only [hlt', decide_true, xs, xb]
    have hin : i < (names D).length := by rw [names_length]; exact hlt
    refine index_own und.s_string inf.string rfl ho (k := i) (x := .string (names D)[i]) (by simp [hin]) ?_
    simp only [xs, Nat.zero_add]
    obtain ⟨m, L, h1, rfl, h3⟩ := h'
    rw [cell_of_block h1.blk]
    simp only [List.getElem?_toArray, List.getElem?_cons_zero]
    rw [xLookup_map (v := .string (names (ab L))[i]) sk (names (ab L))[i] und.m_string_p_disk_file inf.p_disk_file rfl h1.map rfl, getD_fptr]
    obtain ⟨x, hx⟩ := mem_names.1 (List.getElem_mem hin)
    have hx' := hx
    rw [aget_ab, Option.map_eq_some_iff] at hx'
    obtain ⟨f, hf, rfl⟩ := hx'
    unfold fptr
    rw [hf]
    have hF := h1.files _ (find_mem hf)
    simp only [Option.map_some, xs, Nat.zero_add]
    rw [cell_of_block hF.blk]
    simp only [List.getElem?_toArray, List.getElem?_cons_zero]
    refine len_own und.s_uint8 hF.own ?_
    have hal : alen (ab L) (names (ab L))[i] = f.bs.length := by unfold alen; rw [hx]; rfl
    have hs1 := take_sum_succ (l := (names (ab L)).map (alen (ab L))) (i := i) (x := f.bs.length) (by simp [hin, hal])
    have hs2 := take_sum (l := (names (ab L)).map (alen (ab L))) (i + 1)
    simp only [xs, xb]
    rw [wrap_i64 (by omega) (by omega), wrap_i64 (by omega) (by omega)]
    refine hX _ _ ⟨rfl, i + 1, by omega, ?_⟩ ?_
    · simp only [hs1]; simp
    · simp only; omega
  · have hlt' : ¬ (i : Int) < (D.length : Int) := by omega
    have hi' : i = D.length := by omega
    simp only [hlt', decide_false, xs, xb]
    unfold disk_Disk_Used_j0
    subst hi'
    rw [List.take_of_length_le (by simp [names_length]), hsum]
    exact hK _ hc

theorem Remove_spec (h : Disk w d room D F) (a : ByteArray) (hN : aget D a = none → K (i64 5) w)
    (hK : ∀ x, aget D a = some x → ∀ w' F', Disk w' d room (arem D a) F' → Chg F w w' → Moves F F' w → K (i64 0) w') : xCall P nr.disk_Disk_Remove [ptr d, .string a] w K := by
  obtain ⟨m, L, h1, rfl, h3⟩ := h
  refine disk_Disk_Remove_call ?_
  unfold disk_Disk_Remove_main
  refine of_spec h1 a ?_
  unfold fptr
  rw [xEq_ptr und.p_disk_file]
  cases hf : find L a with
  | none =>
    simp only [Option.map_none, Option.isNone_none, xs, xb]
    exact hN (by rw [aget_ab, hf]; rfl)
  | some f =>
    simp only [Option.map_some, Option.isNone_some, xs, xb, Nat.zero_add]
    rw [cell_of_block h1.blk]
    simp only [List.getElem?_toArray, List.getElem?_cons_zero]
    refine xDelete_map sk a und.m_string_p_disk_file h1.map rfl ?_
    intro w' hm hc hs
    have hm' : MapAt .string w' m (ents (rem L a)) := by rw [ents_rem]; exact hm
    refine hK _ (by rw [aget_ab, hf]; rfl) w' _ ⟨m, _, h1.rem hm' hc, arem_ab L a, fun _ => Iff.rfl⟩ ?_ ?_
    · exact hc.mono fun b _ hb => (h3 b).2 (.inr (.inl hb))
    · intro b hb; exact .inl ((h3 b).2 (foot_rem hb))
end
end Go.Proofs.Ytamejkogghpbhaa
