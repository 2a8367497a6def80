/- Slices whose elements are of several cells. -/
import Derived.Test.YtamejkogghpbhaaStrs
set_option linter.unusedVariables false
set_option linter.unusedSimpArgs false
namespace Go.Sx
open Go
section
variable {P : Program} {w : World} {K : VCont}
theorem size_setCell (w : World) (a : Addr) (v : Value) : (w.setCell a v).heap.size = w.heap.size := by simp [World.setCell]
/-- the place of an element -/
theorem own_at {t e : TypeId} {i : TypeInfo} {size : Nat} (ht : P.underlying t = some (.slice e)) (hi : P.info? e = some i) (hs : i.size = size) {v : Value} {n k : Nat} {xs : List Value} (ho : Own w e size v n xs) (hk : k < n) :
    ∃ g, v.ownBlock = some g ∧ (∀ (w2 : World) (C : VCont), xIndexAddr P t v (.int .i64 k) w2 C = C (.pointer (some ⟨g, k * size, none⟩)) w2) ∧
      (∀ j u, xs[j]? = some u → w.cell? ⟨g, j, none⟩ = some u) := by
  have hc := fun g hg => ho.cells (g := g) hg
  rcases ho.2 with ⟨rfl, h0⟩ | ⟨g, cap, cur, rfl, hb, _⟩
  · omega
  · refine ⟨g, rfl, fun w2 C => ?_, fun j u hj => ?_⟩
    · rw [xIndexAddr_slice ht hi (by omega) (by omega), hs]
      simp
    · have := hc g rfl j u hj
      rwa [Addr.add_none, Nat.zero_add] at this
/-- a cell of an element is set -/
theorem own_store {e u : TypeId} {i : TypeInfo} {size : Nat} (hi : P.info? u = some i) (hs : i.size = 1) {v x : Value} (hx : x.oneCell' = true) {n j g : Nat} {xs : List Value} (ho : Own w e size v n xs) (hg : v.ownBlock = some g) (hj : j < xs.length)
    (hK : ∀ w', Own w' e size v n (xs.set j x) → Chg (· = g) w w' → w'.heap.size = w.heap.size → K undef w') : xStore P u (.pointer (some ⟨g, j, none⟩)) x w K := by
  obtain ⟨h1, h2⟩ := ho
  rcases h2 with ⟨rfl, _⟩ | ⟨g', cap, cur, rfl, hb, r1, r2, r3, r4⟩
  · cases hg
  · have : g' = g := by simpa [Value.ownBlock] using hg
    subst this
    have hjc : j < cur.size := by
      have := congrArg List.length r4
      rw [List.length_take] at this
      have h3 : cur.toList.length = cur.size := by simp
      omega
    refine store_blk hi hs hx hb hjc ?_
    intro w' hb' hc hsz
    refine hK w' ⟨by rw [List.length_set]; exact h1, .inr ⟨g', cap, _, rfl, hb', r1, r2, by simpa using r3, ?_⟩⟩ hc hsz
    rw [Array.toList_setIfInBounds, List.take_set, r4]
theorem fill_all (off : Nat) : ∀ (cs pre z : List Value) (k : Nat), z.length = cs.length → pre.length = off + k →
    (cs.zipIdx k).foldl (fun c x => c.setIfInBounds (off + x.2) x.1) (pre ++ z).toArray = (pre ++ cs).toArray
  | [], pre, z, k, hz, _ => by
    have : z = [] := List.eq_nil_of_length_eq_zero (by simpa using hz)
    subst this; rfl
  | c :: cs, pre, z, k, hz, hp => by
    cases z with
    | nil => simp at hz
    | cons y z =>
      have := fill_all off cs (pre ++ [c]) z (k + 1) (by simpa using hz) (by simp; omega)
      simp only [List.zipIdx_cons, List.foldl_cons]
      have h2 : ((pre ++ y :: z).toArray).setIfInBounds (off + k) c = ((pre ++ [c]) ++ z).toArray := by
        rw [← hp]; simp
      rw [h2, this]
      simp
/-- []T{} -/
theorem buildSlice0 {t e : TypeId} {i : TypeInfo} {size : Nat} (ht : P.underlying t = some (.slice e)) (hi : P.info? e = some i) (hs : i.size = size)
    (hK : ∀ v w', Own w' e size v 0 [] → v.ownBlock = some w.heap.size → Chg none' w w' → w'.heap.size = w.heap.size + 1 → K v w') : xBuildSlice P t 0 [] w K := by
  unfold xBuildSlice
  have : (Instr.buildSlice t 0 #[]).run P w = .ok (.slice (some ⟨w.heap.size, 0, none⟩) 0 0) (w.alloc (.cells #[] e)) := by
    unfold Instr.buildSlice
    simp only [Sem.run_bind, run_underlying ht, Result.andThen_ok, sizeOf, typeInfo, run_program, hi, Sem.run_pure]
    have e0 : (Array.range 0).map (fun x => (#[] : Array Value)[x % (#[] : Array Value).size]!) = #[] := by simp
    simp [Instr.fill]
    have e1 : Array.map (fun _ => (default : Value)) (Array.range 0) = #[] := by simp
    rw [e1]
    rfl
  rw [xv_iff this]
  exact hK _ _ ⟨by simp, .inr ⟨w.heap.size, 0, #[], rfl, heap_alloc_new w _, Nat.le_refl _, by unfold maxLen; omega, by simp, by simp⟩⟩ rfl (Chg.alloc w _ _) (by simp)
/-- []T{v} -/
theorem buildSlice1 {t e : TypeId} {i : TypeInfo} {z : Value} {size : Nat} (ht : P.underlying t = some (.slice e)) (hi : P.info? e = some i) (hs : i.size = size) (h0 : size ≠ 0) (h16 : size ≤ 16777216) (hz : i.zero = some z) (hzs : z.cells.size = size) {cs : Array Value} (hc : cs.size = size) {v : Value} (hv : v.cells = cs)
    (hK : ∀ v' w', Own w' e size v' 1 cs.toList → v'.ownBlock = some w.heap.size → Chg none' w w' → w'.heap.size = w.heap.size + 1 → K v' w') : xBuildSlice P t 1 [(0, v)] w K := by
  unfold xBuildSlice
  have : (Instr.buildSlice t 1 #[(0, v)]).run P w = .ok (.slice (some ⟨w.heap.size, 0, none⟩) 1 1) (w.alloc (.cells cs e)) := by
    unfold Instr.buildSlice
    simp only [Sem.run_bind, run_underlying ht, Result.andThen_ok, sizeOf, typeInfo, run_program, hi, Sem.run_pure, hs, Nat.one_mul]
    rw [if_neg (by omega)]
    have hfill : ∀ z' : Array Value, z'.size = size → Instr.fill (fun i => some (i * size, size)) z' [(0, v)] = some cs := by
      intro z' hz'
      have hcond : ¬ (cs.size ≠ size || 0 * size + cs.size > z'.size) = true := by simp; omega
      simp only [Instr.fill, hv]
      rw [if_neg hcond]
      have := fill_all (0 * size) cs.toList [] z'.toList 0 (by simp; omega) (by simp)
      simp only [List.nil_append, Array.toArray_toList] at this
      refine congrArg some (Eq.trans ?_ this)
      rw [← Array.foldl_toList]
      simp
    simp only [h0, if_false, zeroValue, typeInfo, Sem.run_bind, run_program, hi, Result.andThen_ok, Sem.run_pure, hz]
    rw [hfill _ (by simp)]
    rfl
  rw [xv_iff this]
  exact hK _ _ ⟨by simp [hc], .inr ⟨w.heap.size, 1, cs, rfl, heap_alloc_new w _, Nat.le_refl _, by unfold maxLen; omega, by simp [hc], List.take_of_length_le (by simp [hc])⟩⟩ rfl (Chg.alloc w _ _) (by simp)
/-- m elements, of so many cells each, that can be read -/
def RdN (w : World) (size : Nat) (v : Value) (m : Nat) (xs : List Value) : Prop :=
  xs.length = m * size ∧ ∃ a cap, v = .slice a m cap ∧ match a with
    | none => m = 0
    | some g => ∀ j u, xs[j]? = some u → w.cell? (g.add j) = some u
theorem RdN.keep {S : Nat → Prop} {w w' : World} {size m : Nat} {v : Value} {xs : List Value} (h : RdN w size v m xs) (hc : Chg S w w') (hn : ∀ g, v.ownBlock = some g → ¬ S g) : RdN w' size v m xs := by
  obtain ⟨hl, a, cap, rfl, h⟩ := h
  refine ⟨hl, a, cap, rfl, ?_⟩
  cases a with
  | none => exact h
  | some g =>
    intro j u hu
    have hab : (g.add j).block = g.block := by unfold Addr.add; split <;> rfl
    exact hc.cell (h j u hu) (by rw [hab]; exact hn _ rfl)
theorem RdN.keep' {w w' : World} {size m : Nat} {v : Value} {xs : List Value} (h : RdN w size v m xs) (hc : Chg none' w w') : RdN w' size v m xs := h.keep hc fun _ _ h => h
theorem append_step {t ty e : TypeId} {i : TypeInfo} {z : Value} {size bytes : Nat} (ht : P.underlying t = some (.slice e)) (hi : P.info? e = some i) (hz : i.zero = some z) (hsize : i.size = size) (hby : i.bytes = bytes) (hzs : z.cells.size = size) {cs : List Bool}
    {v u : Value} {n m : Nat} {xs news : List Value} (hown : Own w e size v n xs) (hr : RdN w size u m news) (h1 : ∀ u ∈ news, u.oneCell' = true) (h63 : n + m ≤ maxLen) (hbytes : (n + m) * bytes ≤ 140737488355328)
    (hK : ∀ v' w', Own w' e size v' (n + m) (xs ++ news) → Chg (fun b => v.ownBlock = some b) w w' → (v'.ownBlock = v.ownBlock ∨ v'.ownBlock = some w.heap.size) → K v' w') : xBuiltin P .append #[t, t] ty cs [v, u] w K := by
  obtain ⟨hl, a, cap, rfl, hc⟩ := hr
  cases a with
  | none =>
    simp at hc
    subst hc
    have : news = [] := List.eq_nil_of_length_eq_zero (by simpa using hl)
    subst this
    refine xAppend_none ht hi hown ?_
    exact hK v w (by simpa using hown) (Chg.refl _ _) (.inl rfl)
  | some g => exact xAppend ht hi hz hsize hby hzs hown hl hc h1 h63 hbytes hK
theorem head_own {t e : TypeId} {i : TypeInfo} {size : Nat} (ht : P.underlying t = some (.slice e)) (hi : P.info? e = some i) {v : Value} {n k : Nat} {xs : List Value} (ho : Own w e size v n xs) (hk : k ≤ n) :
    ∃ v', (∀ (w2 : World) (C : VCont), xSlice P t v none (some (.int .i64 k)) none w2 C = C v' w2) ∧ RdN w size v' k (xs.take (k * size)) ∧ v'.ownBlock = v.ownBlock := by
  have hc := fun g hg => ho.cells (g := g) hg
  have hx : xs.length = n * size := ho.1
  have hks : k * size ≤ n * size := Nat.mul_le_mul_right _ hk
  rcases ho.2 with ⟨rfl, h0⟩ | ⟨g, cap, cur, rfl, hb, hn, _⟩
  · have : k = 0 := by omega
    subst this
    exact ⟨.slice none 0 0, fun w2 C => by rw [xSlice_slice ht hi (bounds_hi (by omega) (by omega))]; rfl, ⟨by simp, none, 0, rfl, rfl⟩, rfl⟩
  · refine ⟨.slice (some ⟨g, 0, none⟩) k cap, fun w2 C => ?_, ⟨by rw [List.length_take]; omega, _, _, rfl, fun j u hj => ?_⟩, rfl⟩
    · rw [xSlice_slice ht hi (bounds_hi (by omega) (by omega))]
      congr 2
      split <;> simp [Addr.add]
    · rw [List.getElem?_take] at hj
      split at hj
      · exact hc g rfl j u hj
      · cases hj
theorem tail_own {t e : TypeId} {i : TypeInfo} {size : Nat} (ht : P.underlying t = some (.slice e)) (hi : P.info? e = some i) (hs : i.size = size) {v : Value} {n k : Nat} {xs : List Value} (ho : Own w e size v n xs) (hk : k ≤ n) :
    ∃ v', (∀ (w2 : World) (C : VCont), xSlice P t v (some (.int .i64 k)) none none w2 C = C v' w2) ∧ RdN w size v' (n - k) (xs.drop (k * size)) ∧ v'.ownBlock = v.ownBlock := by
  have hc := fun g hg => ho.cells (g := g) hg
  have hx : xs.length = n * size := ho.1
  have hks : k * size ≤ n * size := Nat.mul_le_mul_right _ hk
  rcases ho.2 with ⟨rfl, h0⟩ | ⟨g, cap, cur, rfl, hb, hn, _⟩
  · have : k = 0 := by omega
    subst this; subst h0
    exact ⟨.slice none 0 0, fun w2 C => by rw [xSlice_slice ht hi (bounds_lo (by omega) (by omega))]; rfl, ⟨by simpa using hx, none, 0, rfl, rfl⟩, rfl⟩
  · refine ⟨.slice (some (if cap = k then ⟨g, 0, none⟩ else (⟨g, 0, none⟩ : Addr).add (k * size))) (n - k) (cap - k), fun w2 C => ?_, ⟨by rw [List.length_drop, hx, Nat.sub_mul], _, _, rfl, fun j u hj => ?_⟩, ?_⟩
    · rw [xSlice_slice ht hi (bounds_lo (by omega) (by omega)), hs]
      simp only [Int.toNat_natCast]
      split <;> rfl
    · rw [List.getElem?_drop] at hj
      have hjl := (List.getElem?_eq_some_iff.1 hj).1
      have hck : cap ≠ k := by
        intro e
        have : n = k := by omega
        subst this
        omega
      rw [if_neg hck]
      have := hc g rfl _ u hj
      rw [Addr.add_none] at this ⊢
      rw [Addr.add_none]
      simpa [Nat.add_comm, Nat.add_left_comm, Nat.add_assoc] using this
    · split
      · rfl
      · rw [Addr.add_none]; rfl
end
end Go.Sx
