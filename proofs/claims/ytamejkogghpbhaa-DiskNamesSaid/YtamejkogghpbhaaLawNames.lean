/- DiskNames: the loop that puts the files. -/
import Derived.Test.YtamejkogghpbhaaLaw5
import Derived.Test.YtamejkogghpbhaaAb
import Derived.Test.YtamejkogghpbhaaStrs
import Derived.Test.YtamejkogghpbhaaStays
import Derived.Test.YtamejkogghpbhaaTxtNames
set_option linter.unusedVariables false
set_option linter.unusedSimpArgs false
namespace Go.Proofs.Ytamejkogghpbhaa
open Go.Sx
theorem cell_keep {w w' : World} (h : Chg none' w w') {x : Value} : ∀ a, w.cell? a = some x → w'.cell? a = some x := fun a ha => h.cell ha fun h => h
/-- the place that is told by an unsigned remainder -/
theorem place_of (a : Int) {n : Nat} (hn : 1 ≤ n) (hn2 : n ≤ 1000) : ∃ k : Nat, k < n ∧ IntKind.i64.wrap ((IntKind.u64.wrap a).tmod (IntKind.u64.wrap n)) = k := by
  have h1 : IntKind.u64.wrap (n : Int) = n := wrap_u64 (by omega) (by omega)
  have h2 : 0 ≤ IntKind.u64.wrap a := by simp [IntKind.wrap, IntKind.signed, IntKind.bits]; omega
  rw [h1]
  have h3 := Int.tmod_nonneg (n : Int) h2
  have h4 := Int.tmod_lt_of_pos (IntKind.u64.wrap a) (b := (n : Int)) (by omega)
  refine ⟨((IntKind.u64.wrap a).tmod n).toNat, by omega, ?_⟩
  rw [wrap_i64 (by omega) (by omega)]
  omega
theorem DiskNames_law {w : World} {K : VCont} {v : Value} {l : List ByteArray} {a b : Int} (rl : Rd w v (l.map .string)) (hK : ∀ w', Chg none' w w' → K (.bool true) w')
    (hj0 : ∀ w' d D F, DI w w' d 1000 D F → D.length ≤ 12 → aused D ≤ 12 → 1 ≤ l.length → l.length ≤ 12 → (∀ x ∈ l, (aget D x).isSome = true) → (∀ x ∈ l, mayB x = true) → law5_DiskNames_j0 K v (i64 a) (i64 b) (ptr d) w') : law5_DiskNames_main K v (i64 a) (i64 b) w := by
  unfold law5_DiskNames_main
  refine New_good 1000 (by omega) ?_
  intro d w1 F1 h1 hn1 hc1
  have h : DI w w1 d 1000 [] F1 := ⟨h1, hn1, hc1⟩
  simp only [xs, xb, xd]
  rw [xEq_ptr und.p_disk_Disk]
  simp only [xs, xb, xd, Option.isNone_some, len_rd und.s_string rl, List.length_map]
  have told : xCall P nr.law5_told [] w1 fun t22 w => K t22 w := told_spec fun w' hc => hK w' (hc1.trans hc)
  by_cases hl1 : (l.length : Int) < 1
  · simp only [hl1, xs, xb, xd, len_rd und.s_string rl, List.length_map]; exact told
  by_cases hl2 : 12 < (l.length : Int)
  · simp only [hl1, hl2, xs, xb, xd, len_rd und.s_string rl, List.length_map]; exact told
  simp only [hl1, hl2, xs, xb, xd, len_rd und.s_string rl, List.length_map]
  refine Lp.gen (fun n s w' => ∃ i D F, n + i = l.length ∧ s = [i64 i] ∧ DI w w' d 1000 D F ∧ D.length ≤ i ∧ aused D ≤ i ∧ (∀ x ∈ l.take i, (aget D x).isSome = true) ∧ (∀ x ∈ l.take i, mayB x = true)) l.length
    ⟨0, [], F1, by omega, by simp, h, by simp, by simp [aused], by simp, by simp⟩ ?_
  rintro n s w2 ⟨i, D, F, hni, rfl, hd, hlen, hus, hall, hmay⟩ X hX
  unfold law5_DiskNames_l1
  simp only [List.getD_cons_zero, xs, xb, xd, len_rd und.s_string rl, List.length_map]
  by_cases hlt : i < l.length
  · have hlt' : (i : Int) < (l.length : Int) := by omega
    simp only [hlt', xs, xb, xd]
    have hx : (l.map Value.string)[i]? = some (.string l[i]) := by simp [hlt]
    have ix : ∀ (K : VCont), (xIndexAddr P 34 v (i64 i) w2 fun p w => xLoad1 p w K) = K (.string l[i]) w2 := fun K => index_rd und.s_string inf.string rfl rl hx (cell_keep hd.chg)
    rw [ix, xLen_string und.string]
    have told2 : xCall P nr.law5_told [] w2 fun t22 w => K t22 w := told_spec fun w' hc => hK w' (hd.chg.trans hc)
    simp only [xs, xb, xd]
    by_cases hs1 : ((l[i].size : Nat) : Int) < 1
    · simp only [hs1, xs, xb, xd]; exact told2
    simp only [hs1, xs, xb, xd]
    rw [ix, xLen_string und.string]
    simp only [xs, xb, xd]
    by_cases hs2 : 20 < ((l[i].size : Nat) : Int)
    · simp only [hs2, xs, xb, xd]; exact told2
    simp only [hs2, xs, xb, xd]
    have hmb : mayB l[i] = true := by unfold mayB; simp; omega
    rw [ix, xConv_int 3 5 _ _ _ und.int und.uint8, wrap_u8 (by omega) (by omega)]
    have eb : Value.int .u8 (i : Int) = bv (UInt8.ofNat i) := by
      unfold bv
      congr 1
      simp
      omega
    rw [eb]
    refine buildSlice_step (vs := [bv (UInt8.ofNat i)]) und.s_uint8 inf.uint8 rfl rfl rfl rfl rfl (by simp [bv, Value.oneCell']) (by omega) ?_
    intro v3 w3 ho3 hb3 hc3 hs3
    have hd3 := hd.keep' hc3
    refine Append_spec hd3.disk (by omega) _ (bs := [UInt8.ofNat i]) ho3.rd (by simp) (fun e => by rw [hmb] at e; cases e) (fun _ e => by simp at e; omega) ?_
    intro _ hroom w4 F4 hd4 hc4 hm4
    have hd4 := hd3.step hd4 hc4 hm4
    simp only [xs, xb, xd]
    rw [wrap_i64 (by omega) (by omega)]
    have hu := aused_aput hd.disk.nodup l[i] ((aold D l[i]).1 ++ [UInt8.ofNat i], (aold D l[i]).2)
    have hl := aput_length D l[i] ((aold D l[i]).1 ++ [UInt8.ofNat i], (aold D l[i]).2)
    simp only [List.length_append, List.length_cons, List.length_nil] at hu
    refine hX (n - 1) _ _ ⟨i + 1, _, F4, by omega, by simp, hd4, ?_, by omega, ?_, ?_⟩ (by omega)
    · rw [hl]; split <;> omega
    · intro x hx
      rw [List.take_add_one, List.getElem?_eq_getElem hlt] at hx
      rw [aget_aput]
      split
      · rfl
      · rename_i hne
        rcases List.mem_append.1 hx with hx | hx
        · exact hall x hx
        · simp at hx; exact absurd hx.symm hne
    · intro x hx
      rw [List.take_add_one, List.getElem?_eq_getElem hlt] at hx
      rcases List.mem_append.1 hx with hx | hx
      · exact hmay x hx
      · simp at hx; rw [hx]; exact hmb
  · have hlt' : ¬ (i : Int) < (l.length : Int) := by omega
    simp only [hlt', xs, xb, xd]
    have hi : l.length ≤ i := by omega
    rw [List.take_of_length_le hi] at hall hmay
    exact hj0 w2 d D F hd (by omega) (by omega) (by omega) (by omega) hall hmay
end Go.Proofs.Ytamejkogghpbhaa
