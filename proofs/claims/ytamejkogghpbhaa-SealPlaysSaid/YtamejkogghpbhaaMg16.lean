import Derived.Test.YtamejkogghpbhaaMg4
import Derived.Maps.Range
section
/- Ranging over a map. -/
set_option linter.unusedVariables false
set_option linter.unusedSimpArgs false
namespace Go.Sx
open Go
section
variable {α : Type} [DecidableEq α] {P : Program} {k : TypeId}
theorem len_of_subset {β : Type} : ∀ (l s : List β), l.Nodup → (∀ a ∈ l, a ∈ s) → l.length ≤ s.length
  | [], _, _, _ => by simp
  | a :: l, s, hn, hs => by
    obtain ⟨s1, s2, rfl⟩ := List.append_of_mem (hs a (by simp))
    rw [List.nodup_cons] at hn
    have := len_of_subset l (s1 ++ s2) hn.2 fun b hb => by
      have h1 := hs b (by simp [hb])
      have h2 : b ≠ a := fun e => hn.1 (e ▸ hb)
      simp only [List.mem_append, List.mem_cons] at h1 ⊢
      rcases h1 with h | h | h
      · exact .inl h
      · exact absurd h h2
      · exact .inr h
    simp only [List.length_append, List.length_cons] at this ⊢
    omega
theorem Keys.inj (X : Keys α P k) {a b : α} (h : X.enc a = X.enc b) : a = b := by
  have h1 := X.same a b
  have h2 := X.same a a
  rw [← h, h2] at h1
  simpa using h1
/-- Block r is an iterator over the map at m, which holds l; the keys dn have come. -/
def IterAt (E : α → Value) (w : World) (r m : Nat) (l : List (α × Value)) (dn : List α) : Prop :=
  ∃ es clock seen, w.heap[m]? = some (.map es clock) ∧ entries E l es.toList ∧ es.toList.Pairwise (fun x y => x.born < y.born) ∧ (∀ e ∈ es.toList, e.born < clock) ∧ (l.map (·.1)).Nodup ∧
    w.heap[r]? = some (.mapIter (some m) clock seen clock) ∧ dn.Nodup ∧ (∀ a ∈ dn, ∃ v, (a, v) ∈ l) ∧ (∀ e ∈ es.toList, seen.contains e.born = true ↔ ∃ a ∈ dn, e.key = E a)
omit [DecidableEq α] in
theorem IterAt.map {E : α → Value} {w : World} {r m : Nat} {l : List (α × Value)} {dn : List α} (h : IterAt E w r m l dn) : MapAt E w m l := by
  obtain ⟨es, c, seen, h1, h2, h3, h4, h5, _⟩ := h
  exact ⟨es, c, h1, h2, h3, h4, h5⟩
omit [DecidableEq α] in
theorem IterAt.keep {E : α → Value} {w w' : World} {r m : Nat} {l : List (α × Value)} {dn : List α} {S : Nat → Prop} (h : IterAt E w r m l dn) (hc : Chg S w w') (hm : ¬ S m) (hr : ¬ S r) : IterAt E w' r m l dn := by
  obtain ⟨es, c, seen, h1, h2, h3, h4, h5, h6, h7⟩ := h
  exact ⟨es, c, seen, hc.keep h1 hm, h2, h3, h4, h5, hc.keep h6 hr, h7⟩
omit [DecidableEq α] in
theorem IterAt.lt {E : α → Value} {w : World} {r m : Nat} {l : List (α × Value)} {dn : List α} (h : IterAt E w r m l dn) : r < w.heap.size := by
  obtain ⟨es, c, seen, h1, h2, h3, h4, h5, h6, _⟩ := h
  exact size_pos h6
omit [DecidableEq α] in
/-- fewer are to come each time -/
theorem IterAt.length {E : α → Value} {w : World} {r m : Nat} {l : List (α × Value)} {dn : List α} (h : IterAt E w r m l dn) : dn.length ≤ l.length := by
  obtain ⟨es, c, seen, h1, h2, h3, h4, h5, h6, h7, h8, _⟩ := h
  have := len_of_subset dn (l.map (·.1)) h7 fun a ha => by
    obtain ⟨v, hv⟩ := h8 a ha
    exact List.mem_map.2 ⟨_, hv, rfl⟩
  simpa using this
omit [DecidableEq α] in
theorem range_step {t e : TypeId} (ht : P.underlying t = some (.map k e)) {E : α → Value} {w : World} {K : VCont} {m : Nat} {l : List (α × Value)} (h : MapAt E w m l)
    (hK : ∀ r w', r = w.heap.size → IterAt E w' r m l [] → Chg none' w w' → w'.heap.size = w.heap.size + 1 → K (.pointer (some ⟨r, 0, none⟩)) w') : xRange P t (.map (some m)) w K := by
  have hlt := h.lt
  obtain ⟨es, c, h1, h2, h3, h4, h5⟩ := h
  unfold xRange
  rw [xv_iff (run_range_map w t k e m es c ht h1)]
  exact hK _ _ rfl ⟨es, c, #[], (Chg.alloc w _ none').keep h1 (fun h => h), h2, h3, h4, h5, heap_alloc_new w _, List.nodup_nil, by simp, by simp⟩ (Chg.alloc w _ _) (by simp)
theorem iter_step (X : Keys α P k) {w : World} {r m : Nat} {l : List (α × Value)} {dn : List α} (h : IterAt X.enc w r m l dn) {B : Value → World → Prop} {A : World → Prop}
    (hDone : (∀ p ∈ l, p.1 ∈ dn) → A w)
    (hMore : ∀ a v w', (a, v) ∈ l → a ∉ dn → IterAt X.enc w' r m l (dn ++ [a]) → Chg (· = r) w w' → w'.heap.size = w.heap.size → B (.tuple #[X.enc a, v]) w') {ty : TypeId} :
    xIter P (.pointer (some ⟨r, 0, none⟩)) false ty w fun t w => xExtract t 0 w fun c w => xIf c (xEntry P (.pointer (some ⟨r, 0, none⟩)) w fun e w => B e w) (A w) := by
  have hrlt := h.lt
  obtain ⟨es, c, seen, h1, h2, h3, h4, h5, h6, h7, h8, h9⟩ := h
  have hbn : (es.toList.map (·.born)).Nodup := by rw [List.Nodup, List.pairwise_map]; exact h3.imp fun h => Nat.ne_of_lt h
  have hkn : es.toList.Pairwise fun x y => x.key ≠ y.key := by
    have : (es.toList.map (·.key)) = (l.map (·.1)).map X.enc := by
      have := congrArg (List.map Prod.fst) h2
      simpa [List.map_map, Function.comp_def] using this
    have hk2 : (es.toList.map (·.key)).Nodup := by
      rw [this, List.Nodup, List.pairwise_map]
      exact h5.imp fun h e => h (X.inj e)
    rw [List.Nodup, List.pairwise_map] at hk2
    exact hk2
  have hent : ∀ x ∈ es.toList, ∃ p ∈ l, X.enc p.1 = x.key ∧ p.2 = x.val := by
    intro x hx
    have : (x.key, x.val) ∈ es.toList.map (fun e => (e.key, e.val)) := List.mem_map.2 ⟨x, hx, rfl⟩
    rw [h2] at this
    obtain ⟨p, hp, hpx⟩ := List.mem_map.1 this
    simp only [Prod.mk.injEq] at hpx
    exact ⟨p, hp, hpx.1, hpx.2⟩
  have hne : m ≠ r := by rintro rfl; rw [h1] at h6; cases h6
  unfold xIter
  rcases run_next_at (P := P) w ty r m c c seen es c h6 h1 h4 (Nat.le_refl _) with ⟨h0, hrun⟩ | ⟨e, he, w1, hal, hrun⟩
  · rw [xv_iff hrun, xExtract_0 (.bool false) [], xIf_false]
    refine hDone fun p hp => ?_
    have : (X.enc p.1, p.2) ∈ l.map fun p => (X.enc p.1, p.2) := List.mem_map.2 ⟨p, hp, rfl⟩
    rw [← h2] at this
    obtain ⟨x, hx, hxp⟩ := List.mem_map.1 this
    simp only [Prod.mk.injEq] at hxp
    obtain ⟨a, ha, hax⟩ := (h9 x hx).1 (all_seen es seen h0 x hx)
    rw [hxp.1] at hax
    rw [X.inj hax]; exact ha
  · obtain ⟨hem, hes⟩ := mem_left he
    obtain ⟨p, hp, hpk, hpv⟩ := hent e hem
    have hc1 : Chg none' w w1 := by rcases hal with rfl | rfl; exact Chg.refl _ _; exact Chg.drew _ _
    have hr1 := hc1.keep h6 (fun h => h)
    have hb1 := hc1.keep h1 (fun h => h)
    have hsz : w1.heap.size = w.heap.size := by rcases hal with rfl | rfl <;> rfl
    let w2 : World := ChangeMaps.setBlock w1 r (.mapIter (some m) c (seen.push e.born) c)
    have hw2r : w2.heap[r]? = some (.mapIter (some m) c (seen.push e.born) c) := by
      have : r < w1.heap.size := by omega
      simp [w2, ChangeMaps.setBlock, this]
    have hw2 : Chg (· = r) w1 w2 := chg_setObj w1 r _
    have hw2m := hw2.keep hb1 hne
    rw [xv_iff hrun, xExtract_0 (.bool true) [e.key, e.val], xIf_true]
    unfold xEntry
    rw [xv_iff (run_entry_at w2 r m c seen es c e hw2r hw2m hem hbn)]
    have hnd : p.1 ∉ dn := by
      intro hin
      have := (h9 e hem).2 ⟨p.1, hin, hpk.symm⟩
      rw [hes] at this; cases this
    rw [← hpk, ← hpv]
    refine hMore p.1 p.2 w2 hp hnd ⟨es, c, seen.push e.born, hw2m, h2, h3, h4, h5, hw2r, ?_, ?_, ?_⟩ (hc1.of_none.trans hw2) ?_
    · rw [List.nodup_append]
      exact ⟨h7, by simp, fun a ha b hb => by simp at hb; subst hb; exact fun e => hnd (e ▸ ha)⟩
    · intro a ha
      rcases List.mem_append.1 ha with ha | ha
      · exact h8 a ha
      · simp at ha; subst ha; exact ⟨p.2, hp⟩
    · intro x hx
      rw [contains_push, Bool.or_eq_true, h9 x hx]
      constructor
      · rintro (⟨a, ha, hax⟩ | hb)
        · exact ⟨a, by simp [ha], hax⟩
        · have hb' : x.born = e.born := by simpa using hb
          have := born_inj hbn hx hem hb'
          subst this
          exact ⟨p.1, by simp, hpk.symm⟩
      · rintro ⟨a, ha, hax⟩
        rcases List.mem_append.1 ha with ha | ha
        · exact .inl ⟨a, ha, hax⟩
        · simp at ha; subst ha
          have := entry_eq_of_key hkn hx hem (by rw [hax, hpk])
          subst this
          exact .inr (by simp)
    · simp [w2, ChangeMaps.setBlock, hsz]
end
end Go.Sx
end
