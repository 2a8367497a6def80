/- Arguments that are lists of bytes, of numbers. -/
import Derived.Test.YtamejkogghpbhaaFrame2
set_option linter.unusedVariables false
set_option linter.unusedSimpArgs false
namespace Go.Proofs.Ytamejkogghpbhaa
open Go.Sx Go.ChangeShapes Go.WideShapes Go.ChangeAt Go.RowKit
theorem Rdt_cap {W : World} {t e : TypeId} (ht : P.underlying t = some (.slice e)) {v : Value} (h : Rdt P W t [v]) : ∀ a n c, v = .slice a n c → n ≤ c := by
  rintro a n c rfl
  obtain ⟨H, enc, fuel, x, h⟩ := h
  rcases DataW.trod_slice ht h with ⟨h1, _⟩ | ⟨a', len, cap', elems, rest, n', _, h1, _, hb, hlc, hm, _⟩
  · cases h1; exact Nat.le_refl _
  · cases h1; exact hlc
theorem flat_one1 {es : List (List Value)} {us : List Value} (h : es = us.map fun u => [u]) : es.flatten = us := by
  subst h
  induction us with
  | nil => rfl
  | cons u us ih => simp [ih]
/-- a slice whose elements have one cell: the cells, each of which can be read -/
theorem open_ones {W : World} {t e : TypeId} (ht : P.underlying t = some (.slice e)) (hs : P.cellsOf e = 1) {v : Value} (h : Rdt P W t [v]) : ∃ us, Rd W v us ∧ us.length ≤ maxLen ∧ ∀ u ∈ us, Rdt P W e [u] := by
  obtain ⟨v', n, hv, hn, ess, hl, hr, hes⟩ := h.slice ht hs
  cases hv
  obtain ⟨us, h1, h2⟩ := exists_list (n := ess.length) (p := fun i u => ess[i]? = some [u] ∧ Rdt P W e [u]) fun i hi => by
    have := hes _ (List.getElem_mem hi)
    match hx : ess[i], this with
    | [u], ⟨_, hu⟩ => exact ⟨u, by rw [List.getElem?_eq_getElem hi, hx], hu⟩
  have he : ess = us.map fun u => [u] := by
    refine List.ext_getElem? fun i => ?_
    rw [List.getElem?_map]
    by_cases hi : i < us.length
    · rw [(h2 i _ (List.getElem?_eq_getElem hi)).1, List.getElem?_eq_getElem hi]; rfl
    · rw [List.getElem?_eq_none (by omega), List.getElem?_eq_none (by omega)]; rfl
  rw [flat_one1 he] at hr
  refine ⟨us, hr.rd (Rdt_cap ht h), by omega, fun u hu => ?_⟩
  obtain ⟨i, hi, rfl⟩ := List.getElem_of_mem hu
  exact (h2 i _ (List.getElem?_eq_getElem hi)).2
theorem open_bss {W : World} {v : Value} (h : Rdt P W ty.s_s_uint8 [v]) : ∃ xss, RdBs W v xss ∧ xss.length ≤ 9223372036854775807 ∧ ∀ x ∈ xss, x.length ≤ 9223372036854775807 := by
  obtain ⟨us, h1, h2, h3⟩ := open_ones und.s_s_uint8 (by kernel_rfl) h
  obtain ⟨xss, k1, k2⟩ := exists_list (n := us.length) (p := fun i (x : List UInt8) => (∃ u, us[i]? = some u ∧ Rd W u (x.map bv)) ∧ x.length ≤ 9223372036854775807) fun i hi => by
    obtain ⟨v', bs, e1, e2, e3⟩ := Rdt.bytes und.s_uint8 und.uint8 (by kernel_rfl) (h3 _ (List.getElem_mem hi))
    cases e1
    exact ⟨bs, ⟨_, List.getElem?_eq_getElem hi, e2⟩, e3⟩
  refine ⟨xss, ⟨us, h1, k1.symm, fun i u x hu hx => ?_⟩, by rw [k1]; exact h2, fun x hx => ?_⟩
  · obtain ⟨⟨u', hu', hr⟩, _⟩ := k2 i x hx
    rw [hu] at hu'; cases hu'; exact hr
  · obtain ⟨i, hi, rfl⟩ := List.getElem_of_mem hx
    exact (k2 i _ (List.getElem?_eq_getElem hi)).2
theorem open_i64s {W : World} {v : Value} (h : Rdt P W ty.s_int [v]) : ∃ ns : List Int, Rd W v (ns.map i64) ∧ ns.length ≤ 9223372036854775807 ∧ ∀ n ∈ ns, -9223372036854775808 ≤ n ∧ n ≤ 9223372036854775807 := by
  obtain ⟨us, h1, h2, h3⟩ := open_ones und.s_int (by kernel_rfl) h
  obtain ⟨ns, k1, k2⟩ := exists_list (n := us.length) (p := fun i (n : Int) => us[i]? = some (i64 n) ∧ -9223372036854775808 ≤ n ∧ n ≤ 9223372036854775807) fun i hi => by
    obtain ⟨n, e1, e2⟩ := Rdt.i64 und.int (h3 _ (List.getElem_mem hi))
    simp at e1
    exact ⟨n, by rw [List.getElem?_eq_getElem hi, e1], e2⟩
  have he : us = ns.map i64 := by
    refine List.ext_getElem? fun i => ?_
    rw [List.getElem?_map]
    by_cases hi : i < ns.length
    · rw [(k2 i _ (List.getElem?_eq_getElem hi)).1, List.getElem?_eq_getElem hi]; rfl
    · rw [List.getElem?_eq_none (by omega), List.getElem?_eq_none (by omega)]; rfl
  refine ⟨ns, by rw [← he]; exact h1, by rw [k1]; exact h2, fun n hn => ?_⟩
  obtain ⟨i, hi, rfl⟩ := List.getElem_of_mem hn
  exact (k2 i _ (List.getElem?_eq_getElem hi)).2
end Go.Proofs.Ytamejkogghpbhaa
