import Derived.Test.YtamejkogghpbhaaMg8
section
/- Slices whose elements are of several cells. -/
set_option linter.unusedVariables false
set_option linter.unusedSimpArgs false
namespace Go.Sx
open Go
section
variable {P : Program} {w : World} {K : VCont}
theorem size_setCell (w : World) (a : Addr) (v : Value) : (w.setCell a v).heap.size = w.heap.size := by simp [World.setCell]
/-- the place of an element -/
theorem own_at {t e : TypeId} {i : TypeInfo} {size : Nat} (ht : P.underlying t = some (.slice e)) (hi : P.info? e = some i) (hs : i.size = size) {v : Value} {n k : Nat} {xs : List Value} (ho : Own w e size v n xs) (hk : k < n) :
    ∃ g, v.ownBlock = some g ∧ (∀ (w2 : World) (C : VCont), xIndexAddr P t v (.int .i64 k) w2 C = C (.pointer (some ⟨g, k * size, none⟩)) w2) ∧
      (∀ j u, xs[j]? = some u → w.cell? ⟨g, j, none⟩ = some u) := by
  have hc := fun g hg => ho.cells (g := g) hg
  rcases ho.2 with ⟨rfl, h0⟩ | ⟨g, cap, cur, rfl, hb, _⟩
  · omega
  · refine ⟨g, rfl, fun w2 C => ?_, fun j u hj => ?_⟩
    · rw [xIndexAddr_slice ht hi (by omega) (by omega), hs]
      simp
    · have := hc g rfl j u hj
      rwa [Addr.add_none, Nat.zero_add] at this
/-- a cell of an element is set -/
theorem own_store {e u : TypeId} {i : TypeInfo} {size : Nat} (hi : P.info? u = some i) (hs : i.size = 1) {v x : Value} (hx : x.oneCell' = true) {n j g : Nat} {xs : List Value} (ho : Own w e size v n xs) (hg : v.ownBlock = some g) (hj : j < xs.length)
    (hK : ∀ w', Own w' e size v n (xs.set j x) → Chg (· = g) w w' → w'.heap.size = w.heap.size → K undef w') : xStore P u (.pointer (some ⟨g, j, none⟩)) x w K := by
  obtain ⟨h1, h2⟩ := ho
  rcases h2 with ⟨rfl, _⟩ | ⟨g', cap, cur, rfl, hb, r1, r2, r3, r4⟩
  · cases hg
  · have : g' = g := by simpa [Value.ownBlock] using hg
    subst this
    have hjc : j < cur.size := by
      have := congrArg List.length r4
      rw [List.length_take] at this
      have h3 : cur.toList.length = cur.size := by simp
      omega
    refine store_blk hi hs hx hb hjc ?_
    intro w' hb' hc hsz
    refine hK w' ⟨by rw [List.length_set]; exact h1, .inr ⟨g', cap, _, rfl, hb', r1, r2, by simpa using r3, ?_⟩⟩ hc hsz
    rw [Array.toList_setIfInBounds, List.take_set, r4]
theorem fill_all (off : Nat) : ∀ (cs pre z : List Value) (k : Nat), z.length = cs.length → pre.length = off + k →
    (cs.zipIdx k).foldl (fun c x => c.setIfInBounds (off + x.2) x.1) (pre ++ z).toArray = (pre ++ cs).toArray
  | [], pre, z, k, hz, _ => by
    have : z = [] := List.eq_nil_of_length_eq_zero (by simpa using hz)
    subst this; rfl
  | c :: cs, pre, z, k, hz, hp => by
    cases z with
    | nil => simp at hz
    | cons y z =>
      have := fill_all off cs (pre ++ [c]) z (k + 1) (by simpa using hz) (by simp; omega)
      simp only [List.zipIdx_cons, List.foldl_cons]
      have h2 : ((pre ++ y :: z).toArray).setIfInBounds (off + k) c = ((pre ++ [c]) ++ z).toArray := by
        rw [← hp]; simp
      rw [h2, this]
      simp
/-- []T{} -/
theorem buildSlice0 {t e : TypeId} {i : TypeInfo} {size : Nat} (ht : P.underlying t = some (.slice e)) (hi : P.info? e = some i) (hs : i.size = size)
    (hK : ∀ v w', Own w' e size v 0 [] → v.ownBlock = some w.heap.size → Chg none' w w' → w'.heap.size = w.heap.size + 1 → K v w') : xBuildSlice P t 0 [] w K := by
  unfold xBuildSlice
  have : (Instr.buildSlice t 0 #[]).run P w = .ok (.slice (some ⟨w.heap.size, 0, none⟩) 0 0) (w.alloc (.cells #[] e)) := by
    unfold Instr.buildSlice
    simp only [Sem.run_bind, run_underlying ht, Result.andThen_ok, sizeOf, typeInfo, run_program, hi, Sem.run_pure]
    have e0 : (Array.range 0).map (fun x => (#[] : Array Value)[x % (#[] : Array Value).size]!) = #[] := by simp
    simp [Instr.fill]
    have e1 : Array.map (fun _ => (default : Value)) (Array.range 0) = #[] := by simp
    rw [e1]
    rfl
  rw [xv_iff this]
  exact hK _ _ ⟨by simp, .inr ⟨w.heap.size, 0, #[], rfl, heap_alloc_new w _, Nat.le_refl _, by unfold maxLen; omega, by simp, by simp⟩⟩ rfl (Chg.alloc w _ _) (by simp)
/-- []T{v} -/
theorem buildSlice1 {t e : TypeId} {i : TypeInfo} {z : Value} {size : Nat} (ht : P.underlying t = some (.slice e)) (hi : P.info? e = some i) (hs : i.size = size) (h0 : size ≠ 0) (h16 : size ≤ 16777216) (hz : i.zero = some z) (hzs : z.cells.size = size) {cs : Array Value} (hc : cs.size = size) {v : Value} (hv : v.cells = cs)
    (hK : ∀ v' w', Own w' e size v' 1 cs.toList → v'.ownBlock = some w.heap.size → Chg none' w w' → w'.heap.size = w.heap.size + 1 → K v' w') : xBuildSlice P t 1 [(0, v)] w K := by
  unfold xBuildSlice
  have : (Instr.buildSlice t 1 #[(0, v)]).run P w = .ok (.slice (some ⟨w.heap.size, 0, none⟩) 1 1) (w.alloc (.cells cs e)) := by
    unfold Instr.buildSlice
    simp only [Sem.run_bind, run_underlying ht, Result.andThen_ok, sizeOf, typeInfo, run_program, hi, Sem.run_pure, hs, Nat.one_mul]
    rw [if_neg (by omega)]
    have hfill : ∀ z' : Array Value, z'.size = size → Instr.fill (fun i => some (i * size, size)) z' [(0, v)] = some cs := by
      intro z' hz'
      have hcond : ¬ (cs.size ≠ size || 0 * size + cs.size > z'.size) = true := by simp; omega
      simp only [Instr.fill, hv]
      rw [if_neg hcond]
      have := fill_all (0 * size) cs.toList [] z'.toList 0 (by simp; omega) (by simp)
      simp only [List.nil_append, Array.toArray_toList] at this
      refine congrArg some (Eq.trans ?_ this)
      rw [← Array.foldl_toList]
      simp
    simp only [h0, if_false, zeroValue, typeInfo, Sem.run_bind, run_program, hi, Result.andThen_ok, Sem.run_pure, hz]
    rw [hfill _ (by simp)]
    rfl
  rw [xv_iff this]
  exact hK _ _ ⟨by simp [hc], .inr ⟨w.heap.size, 1, cs, rfl, heap_alloc_new w _, Nat.le_refl _, by unfold maxLen; omega, by simp [hc], List.take_of_length_le (by simp [hc])⟩⟩ rfl (Chg.alloc w _ _) (by simp)
/-- m elements, of so many cells each, that can be read -/
def RdN (w : World) (size : Nat) (v : Value) (m : Nat) (xs : List Value) : Prop :=
  xs.length = m * size ∧ ∃ a cap, v = .slice a m cap ∧ match a with
    | none => m = 0
    | some g => ∀ j u, xs[j]? = some u → w.cell? (g.add j) = some u
theorem RdN.keep {S : Nat → Prop} {w w' : World} {size m : Nat} {v : Value} {xs : List Value} (h : RdN w size v m xs) (hc : Chg S w w') (hn : ∀ g, v.ownBlock = some g → ¬ S g) : RdN w' size v m xs := by
  obtain ⟨hl, a, cap, rfl, h⟩ := h
  refine ⟨hl, a, cap, rfl, ?_⟩
  cases a with
  | none => exact h
  | some g =>
    intro j u hu
    have hab : (g.add j).block = g.block := by unfold Addr.add; split <;> rfl
    exact hc.cell (h j u hu) (by rw [hab]; exact hn _ rfl)
theorem RdN.keep' {w w' : World} {size m : Nat} {v : Value} {xs : List Value} (h : RdN w size v m xs) (hc : Chg none' w w') : RdN w' size v m xs := h.keep hc fun _ _ h => h
theorem append_step {t ty e : TypeId} {i : TypeInfo} {z : Value} {size bytes : Nat} (ht : P.underlying t = some (.slice e)) (hi : P.info? e = some i) (hz : i.zero = some z) (hsize : i.size = size) (hby : i.bytes = bytes) (hzs : z.cells.size = size) {cs : List Bool}
    {v u : Value} {n m : Nat} {xs news : List Value} (hown : Own w e size v n xs) (hr : RdN w size u m news) (h1 : ∀ u ∈ news, u.oneCell' = true) (h63 : n + m ≤ maxLen) (hbytes : (n + m) * bytes ≤ 140737488355328)
    (hK : ∀ v' w', Own w' e size v' (n + m) (xs ++ news) → Chg (fun b => v.ownBlock = some b) w w' → (v'.ownBlock = v.ownBlock ∨ v'.ownBlock = some w.heap.size) → K v' w') : xBuiltin P .append #[t, t] ty cs [v, u] w K := by
  obtain ⟨hl, a, cap, rfl, hc⟩ := hr
  cases a with
  | none =>
    simp at hc
    subst hc
    have : news = [] := List.eq_nil_of_length_eq_zero (by simpa using hl)
    subst this
    refine xAppend_none ht hi hown ?_
    exact hK v w (by simpa using hown) (Chg.refl _ _) (.inl rfl)
  | some g => exact xAppend ht hi hz hsize hby hzs hown hl hc h1 h63 hbytes hK
theorem head_own {t e : TypeId} {i : TypeInfo} {size : Nat} (ht : P.underlying t = some (.slice e)) (hi : P.info? e = some i) {v : Value} {n k : Nat} {xs : List Value} (ho : Own w e size v n xs) (hk : k ≤ n) :
    ∃ v', (∀ (w2 : World) (C : VCont), xSlice P t v none (some (.int .i64 k)) none w2 C = C v' w2) ∧ RdN w size v' k (xs.take (k * size)) ∧ v'.ownBlock = v.ownBlock := by
  have hc := fun g hg => ho.cells (g := g) hg
  have hx : xs.length = n * size := ho.1
  have hks : k * size ≤ n * size := Nat.mul_le_mul_right _ hk
  rcases ho.2 with ⟨rfl, h0⟩ | ⟨g, cap, cur, rfl, hb, hn, _⟩
  · have : k = 0 := by omega
    subst this
    exact ⟨.slice none 0 0, fun w2 C => by rw [xSlice_slice ht hi (bounds_hi (by omega) (by omega))]; rfl, ⟨by simp, none, 0, rfl, rfl⟩, rfl⟩
  · refine ⟨.slice (some ⟨g, 0, none⟩) k cap, fun w2 C => ?_, ⟨by rw [List.length_take]; omega, _, _, rfl, fun j u hj => ?_⟩, rfl⟩
    · rw [xSlice_slice ht hi (bounds_hi (by omega) (by omega))]
      congr 2
      split <;> simp [Addr.add]
    · rw [List.getElem?_take] at hj
      split at hj
      · exact hc g rfl j u hj
      · cases hj
theorem tail_own {t e : TypeId} {i : TypeInfo} {size : Nat} (ht : P.underlying t = some (.slice e)) (hi : P.info? e = some i) (hs : i.size = size) {v : Value} {n k : Nat} {xs : List Value} (ho : Own w e size v n xs) (hk : k ≤ n) :
    ∃ v', (∀ (w2 : World) (C : VCont), xSlice P t v (some (.int .i64 k)) none none w2 C = C v' w2) ∧ RdN w size v' (n - k) (xs.drop (k * size)) ∧ v'.ownBlock = v.ownBlock := by
  have hc := fun g hg => ho.cells (g := g) hg
  have hx : xs.length = n * size := ho.1
  have hks : k * size ≤ n * size := Nat.mul_le_mul_right _ hk
  rcases ho.2 with ⟨rfl, h0⟩ | ⟨g, cap, cur, rfl, hb, hn, _⟩
  · have : k = 0 := by omega
    subst this; subst h0
    exact ⟨.slice none 0 0, fun w2 C => by rw [xSlice_slice ht hi (bounds_lo (by omega) (by omega))]; rfl, ⟨by simpa using hx, none, 0, rfl, rfl⟩, rfl⟩
  · refine ⟨.slice (some (if cap = k then ⟨g, 0, none⟩ else (⟨g, 0, none⟩ : Addr).add (k * size))) (n - k) (cap - k), fun w2 C => ?_, ⟨by rw [List.length_drop, hx, Nat.sub_mul], _, _, rfl, fun j u hj => ?_⟩, ?_⟩
    · rw [xSlice_slice ht hi (bounds_lo (by omega) (by omega)), hs]
      simp only [Int.toNat_natCast]
      split <;> rfl
    · rw [List.getElem?_drop] at hj
      have hjl := (List.getElem?_eq_some_iff.1 hj).1
      have hck : cap ≠ k := by
        intro e
        have : n = k := by omega
        subst this
        omega
      rw [if_neg hck]
      have := hc g rfl _ u hj
      rw [Addr.add_none] at this ⊢
      rw [Addr.add_none]
      simpa [Nat.add_comm, Nat.add_left_comm, Nat.add_assoc] using this
    · split
      · rfl
      · rw [Addr.add_none]; rfl
end
end Go.Sx
end
section
/- Assertions that own blocks, side by side: a list of them holds of a world if each holds of blocks of its own. -/
set_option linter.unusedVariables false
set_option linter.unusedSimpArgs false
namespace Go.Sx
open Go
/-- An assertion over a world and the blocks that it owns. -/
structure Asn where
  holds : World → (Nat → Prop) → Prop
  keep : ∀ {w w' : World} {S F : Nat → Prop}, holds w F → Chg S w w' → (∀ b, F b → ¬ S b) → holds w' F
  lt : ∀ {w : World} {F : Nat → Prop} {b : Nat}, holds w F → F b → b < w.heap.size

def Sep : List Asn → World → (Nat → Prop) → Prop
  | [], _, _ => True
  | A :: l, w, F => ∃ F1, A.holds w F1 ∧ (∀ b, F1 b → F b) ∧ Sep l w fun b => F b ∧ ¬ F1 b
def Hp (w : World) (l : List Asn) : Prop := Sep l w fun _ => True
def Moves (F F' : Nat → Prop) (w : World) : Prop := ∀ b, F' b → F b ∨ w.heap.size ≤ b

theorem Sep.mono {w : World} : ∀ {l : List Asn} {F G : Nat → Prop}, (∀ b, F b → G b) → Sep l w F → Sep l w G
  | [], _, _, _, _ => trivial
  | A :: l, F, G, hs, ⟨F1, h1, h2, h3⟩ => ⟨F1, h1, fun b hb => hs b (h2 b hb), h3.mono fun b ⟨ha, hb⟩ => ⟨hs b ha, hb⟩⟩
theorem Sep.keep {w w' : World} {S : Nat → Prop} (hc : Chg S w w') : ∀ {l : List Asn} {F : Nat → Prop}, (∀ b, b < w.heap.size → F b → ¬ S b) → Sep l w F → Sep l w' F
  | [], _, _, _ => trivial
  | A :: l, F, hS, ⟨F1, h1, h2, h3⟩ => ⟨F1, A.keep h1 hc fun b hb => hS b (A.lt h1 hb) (h2 b hb), h2, h3.keep hc fun b hlt hb => hS b hlt hb.1⟩
/-- the blocks may be taken to be old ones -/
theorem Sep.lt {w : World} : ∀ {l : List Asn} {F : Nat → Prop}, Sep l w F → Sep l w fun b => F b ∧ b < w.heap.size
  | [], _, _ => trivial
  | A :: l, F, ⟨F1, h1, h2, h3⟩ => ⟨F1, h1, fun b hb => ⟨h2 b hb, A.lt h1 hb⟩, h3.lt.mono fun b ⟨⟨ha, hb⟩, hc⟩ => ⟨⟨ha, hc⟩, hb⟩⟩
theorem Sep.append {w : World} : ∀ {l m : List Asn} {F : Nat → Prop}, Sep (l ++ m) w F → ∃ F1, Sep l w F1 ∧ (∀ b, F1 b → F b) ∧ Sep m w fun b => F b ∧ ¬ F1 b
  | [], m, F, h => ⟨fun _ => False, trivial, fun _ h => h.elim, h.mono fun b hb => ⟨hb, fun h => h⟩⟩
  | A :: l, m, F, ⟨F1, h1, h2, h3⟩ => by
    obtain ⟨F2, k1, k2, k3⟩ := Sep.append h3
    refine ⟨fun b => F1 b ∨ F2 b, ⟨F1, h1, fun b hb => .inl hb, ?_⟩, ?_, ?_⟩
    · refine k1.mono fun b hb => ⟨.inr hb, (k2 b hb).2⟩
    · rintro b (hb | hb)
      · exact h2 b hb
      · exact (k2 b hb).1
    · exact k3.mono fun b ⟨⟨ha, hb⟩, hc⟩ => ⟨ha, fun h => h.elim hb hc⟩
theorem Sep.join {w : World} : ∀ {l m : List Asn} {F G : Nat → Prop}, Sep l w F → Sep m w G → (∀ b, F b → ¬ G b) → Sep (l ++ m) w fun b => F b ∨ G b
  | [], m, F, G, _, k, _ => k.mono fun b hb => .inr hb
  | A :: l, m, F, G, ⟨F1, h1, h2, h3⟩, k, hd => ⟨F1, h1, fun b hb => .inl (h2 b hb), (Sep.join h3 k fun b hb => hd b hb.1).mono fun b hb => by
      rcases hb with hb | hb
      · exact ⟨.inl hb.1, hb.2⟩
      · exact ⟨.inr hb, fun h => hd b (h2 b h) hb⟩⟩
theorem Sep.perm {w : World} {l m : List Asn} (h : l.Perm m) : ∀ {F : Nat → Prop}, Sep l w F → Sep m w F := by
  induction h with
  | nil => exact fun h => h
  | cons A _ ih => rintro F ⟨F1, h1, h2, h3⟩; exact ⟨F1, h1, h2, ih h3⟩
  | swap A B l =>
    rintro F ⟨F1, h1, h2, F2, k1, k2, k3⟩
    exact ⟨F2, k1, fun b hb => (k2 b hb).1, F1, h1, fun b hb => ⟨h2 b hb, fun h => (k2 b h).2 hb⟩, k3.mono fun b ⟨⟨ha, hb⟩, hc⟩ => ⟨⟨ha, hc⟩, hb⟩⟩
  | trans _ _ ih1 ih2 => exact fun h => ih2 (ih1 h)
theorem Hp.perm {w : World} {l m : List Asn} (h : Hp w l) (hp : l.Perm m) : Hp w m := Sep.perm hp h
theorem Hp.nil (w : World) : Hp w [] := trivial
theorem Hp.keep' {w w' : World} {l : List Asn} (h : Hp w l) (hc : Chg none' w w') : Hp w' l := Sep.keep hc (fun _ _ _ h => h) h
theorem Hp.drew {w : World} {l : List Asn} (h : Hp w l) : Hp w.drew l := h.keep' (Chg.drew _ _)
theorem Hp.tail {w : World} {A : Asn} {l : List Asn} (h : Hp w (A :: l)) : Hp w l := by
  obtain ⟨F1, h1, h2, h3⟩ := h; exact h3.mono fun _ _ => trivial
theorem Hp.head {w : World} {A : Asn} {l : List Asn} (h : Hp w (A :: l)) : ∃ F, A.holds w F := by
  obtain ⟨F1, h1, h2, h3⟩ := h; exact ⟨F1, h1⟩
/-- a step on some of them: the others stay -/
theorem Hp.frame {w : World} {L l : List Asn} (h : Hp w (L ++ l)) : ∃ F, Sep L w F ∧ ∀ w' F' L', Sep L' w' F' → Chg F w w' → Moves F F' w → Hp w' (L' ++ l) := by
  obtain ⟨F, h1, h2, h3⟩ := Sep.append h
  refine ⟨F, h1, fun w' F' L' hL hc hm => ?_⟩
  have h4 : Sep l w' fun b => (True ∧ ¬ F b) ∧ b < w.heap.size := h3.lt.keep hc fun b _ hb => hb.1.2
  refine (Sep.join hL h4 fun b hb hx => ?_).mono fun _ _ => trivial
  rcases hm b hb with h5 | h5
  · exact hx.1.2 h5
  · have := hx.2; omega
theorem Hp.frame1 {w : World} {A : Asn} {l : List Asn} (h : Hp w (A :: l)) : ∃ F, A.holds w F ∧ ∀ w' F' (B : Asn), B.holds w' F' → Chg F w w' → Moves F F' w → Hp w' (B :: l) := by
  obtain ⟨F, ⟨F1, h1, h2, _⟩, h3⟩ := Hp.frame (L := [A]) h
  refine ⟨F1, h1, fun w' F' B hB hc hm => ?_⟩
  exact h3 w' F' [B] ⟨F', hB, fun _ h => h, trivial⟩ (hc.mono fun b _ hb => h2 b hb) fun b hb => (hm b hb).imp (h2 b) id
/-- something new -/
theorem Hp.new {w w' : World} {A : Asn} {l : List Asn} {F : Nat → Prop} (h : Hp w l) (hA : A.holds w' F) (hF : ∀ b, F b → w.heap.size ≤ b) (hc : Chg none' w w') : Hp w' (A :: l) := by
  obtain ⟨F0, _, h3⟩ := Hp.frame (L := []) h
  exact h3 w' F [A] ⟨F, hA, fun _ h => h, trivial⟩ hc.of_none fun b hb => .inr (hF b hb)

/-! putting together, taking apart -/
def StarA (L : List Asn) : Asn where
  holds w F := Sep L w F ∧ ∀ b, F b → b < w.heap.size
  keep := fun h hc hn => ⟨h.1.keep hc fun b _ hb => hn b hb, fun b hb => Nat.lt_of_lt_of_le (h.2 b hb) hc.size⟩
  lt := fun h hb => h.2 _ hb
def ExA {α : Type} (f : α → Asn) : Asn where
  holds w F := ∃ x, (f x).holds w F
  keep := fun ⟨x, h⟩ hc hn => ⟨x, (f x).keep h hc hn⟩
  lt := fun ⟨x, h⟩ hb => (f x).lt h hb
/-- an assertion under a fact -/
def AndA (p : Prop) (A : Asn) : Asn where
  holds w F := p ∧ A.holds w F
  keep := fun h hc hn => ⟨h.1, A.keep h.2 hc hn⟩
  lt := fun h hb => A.lt h.2 hb
theorem Hp.star {w : World} {L l : List Asn} : Hp w (StarA L :: l) ↔ Hp w (L ++ l) := by
  constructor
  · rintro ⟨F1, ⟨h1, _⟩, _, h3⟩
    exact (Sep.join h1 h3 fun b hb hx => hx.2 hb).mono fun _ _ => trivial
  · intro h
    obtain ⟨F, h1, h2, h3⟩ := Sep.append h
    exact ⟨_, ⟨h1.lt, fun b hb => hb.2⟩, fun _ _ => trivial, h3.lt.mono fun b hb => ⟨trivial, fun hx => hb.1.2 hx.1⟩⟩
theorem Hp.ex {w : World} {α : Type} {f : α → Asn} {l : List Asn} : Hp w (ExA f :: l) ↔ ∃ x, Hp w (f x :: l) := by
  constructor
  · rintro ⟨F1, ⟨x, h1⟩, h2⟩; exact ⟨x, F1, h1, h2⟩
  · rintro ⟨x, F1, h1, h2⟩; exact ⟨F1, ⟨x, h1⟩, h2⟩
theorem Hp.and {w : World} {p : Prop} {A : Asn} {l : List Asn} : Hp w (AndA p A :: l) ↔ p ∧ Hp w (A :: l) := by
  constructor
  · rintro ⟨F1, ⟨hp, h1⟩, h2⟩; exact ⟨hp, F1, h1, h2⟩
  · rintro ⟨hp, F1, h1, h2⟩; exact ⟨F1, ⟨hp, h1⟩, h2⟩
section
variable {w : World} {A B C D E G I J : Asn} {l : List Asn}
theorem Hp.star0 : Hp w (StarA [] :: l) ↔ Hp w l := Hp.star
theorem Hp.star1 : Hp w (StarA [A] :: l) ↔ Hp w (A :: l) := Hp.star
theorem Hp.star2 : Hp w (StarA [A, B] :: l) ↔ Hp w (A :: B :: l) := Hp.star
theorem Hp.star3 : Hp w (StarA [A, B, C] :: l) ↔ Hp w (A :: B :: C :: l) := Hp.star
theorem Hp.star4 : Hp w (StarA [A, B, C, D] :: l) ↔ Hp w (A :: B :: C :: D :: l) := Hp.star
theorem Hp.star5 : Hp w (StarA [A, B, C, D, E] :: l) ↔ Hp w (A :: B :: C :: D :: E :: l) := Hp.star
theorem Hp.star6 : Hp w (StarA [A, B, C, D, E, G] :: l) ↔ Hp w (A :: B :: C :: D :: E :: G :: l) := Hp.star
theorem Hp.star7 : Hp w (StarA [A, B, C, D, E, G, I] :: l) ↔ Hp w (A :: B :: C :: D :: E :: G :: I :: l) := Hp.star
theorem Hp.star8 : Hp w (StarA [A, B, C, D, E, G, I, J] :: l) ↔ Hp w (A :: B :: C :: D :: E :: G :: I :: J :: l) := Hp.star
/-- one of them to the front -/
theorem Hp.pick1 (h : Hp w (A :: B :: l)) : Hp w (B :: A :: l) := h.perm (.swap _ _ _)
theorem Hp.pick2 (h : Hp w (A :: B :: C :: l)) : Hp w (C :: A :: B :: l) := h.perm (List.perm_append_comm (l₁ := [A, B]) (l₂ := [C]) |>.append_right l)
theorem Hp.pick3 (h : Hp w (A :: B :: C :: D :: l)) : Hp w (D :: A :: B :: C :: l) := h.perm (List.perm_append_comm (l₁ := [A, B, C]) (l₂ := [D]) |>.append_right l)
theorem Hp.pick4 (h : Hp w (A :: B :: C :: D :: E :: l)) : Hp w (E :: A :: B :: C :: D :: l) := h.perm (List.perm_append_comm (l₁ := [A, B, C, D]) (l₂ := [E]) |>.append_right l)
theorem Hp.pick5 (h : Hp w (A :: B :: C :: D :: E :: G :: l)) : Hp w (G :: A :: B :: C :: D :: E :: l) := h.perm (List.perm_append_comm (l₁ := [A, B, C, D, E]) (l₂ := [G]) |>.append_right l)
theorem Hp.pick6 (h : Hp w (A :: B :: C :: D :: E :: G :: I :: l)) : Hp w (I :: A :: B :: C :: D :: E :: G :: l) := h.perm (List.perm_append_comm (l₁ := [A, B, C, D, E, G]) (l₂ := [I]) |>.append_right l)
theorem Hp.pick7 (h : Hp w (A :: B :: C :: D :: E :: G :: I :: J :: l)) : Hp w (J :: A :: B :: C :: D :: E :: G :: I :: l) := h.perm (List.perm_append_comm (l₁ := [A, B, C, D, E, G, I]) (l₂ := [J]) |>.append_right l)
/-- the first one back to its place -/
theorem Hp.put2 (h : Hp w (C :: A :: B :: l)) : Hp w (A :: B :: C :: l) := h.perm (List.perm_append_comm (l₁ := [C]) (l₂ := [A, B]) |>.append_right l)
theorem Hp.put3 (h : Hp w (D :: A :: B :: C :: l)) : Hp w (A :: B :: C :: D :: l) := h.perm (List.perm_append_comm (l₁ := [D]) (l₂ := [A, B, C]) |>.append_right l)
theorem Hp.put4 (h : Hp w (E :: A :: B :: C :: D :: l)) : Hp w (A :: B :: C :: D :: E :: l) := h.perm (List.perm_append_comm (l₁ := [E]) (l₂ := [A, B, C, D]) |>.append_right l)
theorem Hp.put5 (h : Hp w (G :: A :: B :: C :: D :: E :: l)) : Hp w (A :: B :: C :: D :: E :: G :: l) := h.perm (List.perm_append_comm (l₁ := [G]) (l₂ := [A, B, C, D, E]) |>.append_right l)
theorem Hp.put6 (h : Hp w (I :: A :: B :: C :: D :: E :: G :: l)) : Hp w (A :: B :: C :: D :: E :: G :: I :: l) := h.perm (List.perm_append_comm (l₁ := [I]) (l₂ := [A, B, C, D, E, G]) |>.append_right l)
end

/-! what there is: blocks, slices, maps -/
def BlkA (b T : Nat) (cs : List Value) : Asn where
  holds w F := w.heap[b]? = some (.cells cs.toArray T (0, 0)) ∧ ∀ x, F x ↔ x = b
  keep := fun h hc hn => ⟨hc.keep h.1 (hn b ((h.2 b).2 rfl)), h.2⟩
  lt := fun h hb => by rw [(h.2 _).1 hb]; exact size_pos h.1
/-- a slice that owns its block -/
def SlA (e size : Nat) (v : Value) (n : Nat) (xs : List Value) : Asn where
  holds w F := Own w e size v n xs ∧ ∀ b, F b ↔ v.ownBlock = some b
  keep := fun h hc hn => ⟨h.1.keep hc fun g hg => hn g ((h.2 g).2 hg), h.2⟩
  lt := fun h hb => h.1.lt ((h.2 _).1 hb)
/-- a slice whose elements can be read, with its block -/
def RdA (v : Value) (xs : List Value) : Asn where
  holds w F := Rd w v xs ∧ ∀ b, F b ↔ (xs ≠ [] ∧ v.ownBlock = some b)
  keep := fun h hc hn => ⟨h.1.keep hc fun g n c e h0 => by
    subst e
    refine hn _ ((h.2 _).2 ⟨?_, rfl⟩)
    obtain ⟨a, cap, e, _⟩ := h.1
    cases e
    intro e; subst e; simp at h0, h.2⟩
  lt := fun {w F b} h hb => by
    obtain ⟨hx, hb⟩ := (h.2 _).1 hb
    obtain ⟨a, cap, e, hl, hc⟩ := h.1
    cases a with
    | none => exact absurd hc hx
    | some g =>
      subst e
      cases xs with
      | nil => exact absurd rfl hx
      | cons x xs =>
        have := hc 0 x rfl
        have h0 : (g.add 0).block = g.block := by unfold Addr.add; split <;> rfl
        have hlt := World.block_lt_of_cell? w (g.add 0) this
        have : g.block = b := by simpa [Value.ownBlock] using hb
        rw [h0] at hlt; omega
def MapA {α : Type} (E : α → Value) (m : Nat) (l : List (α × Value)) : Asn where
  holds w F := MapAt E w m l ∧ ∀ b, F b ↔ b = m
  keep := fun h hc hn => ⟨h.1.keep hc (hn m ((h.2 m).2 rfl)), h.2⟩
  lt := fun h hb => by rw [(h.2 _).1 hb]; exact h.1.lt
/-- all that was there at W is as it was -/
def InpA (W : World) : Asn where
  holds w F := RowKit.Below W.heap.size W w ∧ ∀ b, F b ↔ b < W.heap.size
  keep := fun {w w' S F} h hc hn => ⟨h.1.trans ⟨hc.os, hc.tape, hc.output, hc.size, fun b hb => hc.block b (Nat.lt_of_lt_of_le hb h.1.size) (hn b ((h.2 b).2 hb))⟩, h.2⟩
  lt := fun h hb => Nat.lt_of_lt_of_le ((h.2 _).1 hb) h.1.size
theorem Hp.inp (W : World) : Hp W [InpA W] := ⟨fun b => b < W.heap.size, ⟨⟨rfl, rfl, rfl, Nat.le_refl _, fun _ _ => rfl⟩, fun _ => Iff.rfl⟩, fun _ _ => trivial, trivial⟩
end Go.Sx
end
section
/- The operations, over assertions side by side. -/
set_option linter.unusedVariables false
set_option linter.unusedSimpArgs false
namespace Go.Sx
open Go
abbrev ptr0 (b o : Nat) : Value := .pointer (some ⟨b, o, none⟩)
section
variable {P : Program} {w : World} {K : VCont} {l : List Asn} {A0 A1 A2 A3 A4 A5 A6 : Asn}
theorem Hp.blk {b T : Nat} {cs : List Value} (h : Hp w (BlkA b T cs :: l)) : w.heap[b]? = some (.cells cs.toArray T (0, 0)) := by
  obtain ⟨F, h1, _⟩ := h; exact h1.1
theorem Hp.c0 {b T : Nat} {cs : List Value} (h : Hp w (BlkA b T cs :: l)) (o : Nat) : w.cell? ⟨b, o, none⟩ = cs[o]? := by
  rw [cell_of_block h.blk]; simp
theorem Hp.c1 {b T : Nat} {cs : List Value} (h : Hp w (A0 :: BlkA b T cs :: l)) (o : Nat) : w.cell? ⟨b, o, none⟩ = cs[o]? := h.pick1.c0 o
theorem Hp.c2 {b T : Nat} {cs : List Value} (h : Hp w (A0 :: A1 :: BlkA b T cs :: l)) (o : Nat) : w.cell? ⟨b, o, none⟩ = cs[o]? := h.pick2.c0 o
theorem Hp.c3 {b T : Nat} {cs : List Value} (h : Hp w (A0 :: A1 :: A2 :: BlkA b T cs :: l)) (o : Nat) : w.cell? ⟨b, o, none⟩ = cs[o]? := h.pick3.c0 o
theorem Hp.c4 {b T : Nat} {cs : List Value} (h : Hp w (A0 :: A1 :: A2 :: A3 :: BlkA b T cs :: l)) (o : Nat) : w.cell? ⟨b, o, none⟩ = cs[o]? := h.pick4.c0 o
theorem Hp.c5 {b T : Nat} {cs : List Value} (h : Hp w (A0 :: A1 :: A2 :: A3 :: A4 :: BlkA b T cs :: l)) (o : Nat) : w.cell? ⟨b, o, none⟩ = cs[o]? := h.pick5.c0 o
theorem Hp.c6 {b T : Nat} {cs : List Value} (h : Hp w (A0 :: A1 :: A2 :: A3 :: A4 :: A5 :: BlkA b T cs :: l)) (o : Nat) : w.cell? ⟨b, o, none⟩ = cs[o]? := h.pick6.c0 o
theorem Hp.own {e size n : Nat} {v : Value} {xs : List Value} (h : Hp w (SlA e size v n xs :: l)) : Own w e size v n xs := by
  obtain ⟨F, h1, _⟩ := h; exact h1.1
theorem Hp.sc0 {e size n g : Nat} {v : Value} {xs : List Value} (h : Hp w (SlA e size v n xs :: l)) (hg : v.ownBlock = some g) (j : Nat) (u : Value) (hj : xs[j]? = some u) : w.cell? ⟨g, j, none⟩ = some u := by
  have := h.own.cells (g := g) hg j u hj
  rwa [Addr.add_none, Nat.zero_add] at this
theorem Hp.sc1 {e size n g : Nat} {v : Value} {xs : List Value} (h : Hp w (A0 :: SlA e size v n xs :: l)) (hg : v.ownBlock = some g) (j : Nat) (u : Value) (hj : xs[j]? = some u) : w.cell? ⟨g, j, none⟩ = some u := h.pick1.sc0 hg j u hj
theorem Hp.sc2 {e size n g : Nat} {v : Value} {xs : List Value} (h : Hp w (A0 :: A1 :: SlA e size v n xs :: l)) (hg : v.ownBlock = some g) (j : Nat) (u : Value) (hj : xs[j]? = some u) : w.cell? ⟨g, j, none⟩ = some u := h.pick2.sc0 hg j u hj
theorem Hp.sc3 {e size n g : Nat} {v : Value} {xs : List Value} (h : Hp w (A0 :: A1 :: A2 :: SlA e size v n xs :: l)) (hg : v.ownBlock = some g) (j : Nat) (u : Value) (hj : xs[j]? = some u) : w.cell? ⟨g, j, none⟩ = some u := h.pick3.sc0 hg j u hj
theorem Hp.sc4 {e size n g : Nat} {v : Value} {xs : List Value} (h : Hp w (A0 :: A1 :: A2 :: A3 :: SlA e size v n xs :: l)) (hg : v.ownBlock = some g) (j : Nat) (u : Value) (hj : xs[j]? = some u) : w.cell? ⟨g, j, none⟩ = some u := h.pick4.sc0 hg j u hj
theorem Hp.mapAt {α : Type} {E : α → Value} {m : Nat} {L : List (α × Value)} (h : Hp w (MapA E m L :: l)) : MapAt E w m L := by
  obtain ⟨F, h1, _⟩ := h; exact h1.1
theorem Hp.rdOf {v : Value} {xs : List Value} (h : Hp w (RdA v xs :: l)) : Rd w v xs := by
  obtain ⟨F, h1, _⟩ := h; exact h1.1
theorem Hp.inpOf {W : World} (h : Hp w (InpA W :: l)) : RowKit.Below W.heap.size W w := by
  obtain ⟨F, h1, _⟩ := h; exact h1.1
theorem Hp.mem {A : Asn} (h : Hp w l) (hm : A ∈ l) : ∃ F, A.holds w F := by
  obtain ⟨l1, l2, rfl⟩ := List.append_of_mem hm
  exact (h.perm (List.perm_middle)).head
theorem Hp.inp_mem {W : World} (h : Hp w l) (hm : InpA W ∈ l) : RowKit.Below W.heap.size W w := by
  obtain ⟨F, h1⟩ := h.mem hm; exact h1.1
theorem Rd.inp {W : World} {v : Value} {xs : List Value} (hr : Rd W v xs) (h : Hp w l) (hm : InpA W ∈ l) : Rd w v xs := by
  have hb := h.inp_mem hm
  exact hr.keep' ⟨hb.os, hb.tape, hb.output, hb.size, fun b hlt _ => hb.block b hlt⟩
theorem RdN.inp {W : World} {size n : Nat} {v : Value} {xs : List Value} (hr : RdN W size v n xs) (h : Hp w l) (hm : InpA W ∈ l) : RdN w size v n xs := by
  have hb := h.inp_mem hm
  exact hr.keep' ⟨hb.os, hb.tape, hb.output, hb.size, fun b hlt _ => hb.block b hlt⟩
theorem Own.rdN {e size n : Nat} {v : Value} {xs : List Value} (ho : Own w e size v n xs) : RdN w size v n xs := by
  have hc := fun g hg => ho.cells (g := g) hg
  refine ⟨ho.1, ?_⟩
  rcases ho.2 with ⟨rfl, h0⟩ | ⟨g, cap, cur, rfl, hb, hn, _⟩
  · subst h0
    exact ⟨none, 0, rfl, rfl⟩
  · exact ⟨_, _, rfl, hc g rfl⟩
theorem Own.one {e size n : Nat} {v : Value} {xs : List Value} (ho : Own w e size v n xs) : v.oneCell' = true := by
  rcases ho.2 with ⟨rfl, h0⟩ | ⟨g, cap, cur, rfl, hb, hn, _⟩ <;> rfl
theorem RdN.rd {n : Nat} {v : Value} {xs : List Value} (h : RdN w 1 v n xs) (hc : ∀ a n c, v = .slice a n c → n ≤ c) : Rd w v xs := by
  obtain ⟨hl, a, cap, rfl, h⟩ := h
  have hl : xs.length = n := by simpa using hl
  refine ⟨a, cap, by rw [hl], by rw [hl]; exact hc _ _ _ rfl, ?_⟩
  cases a with
  | none => have h0 : n = 0 := h; exact List.eq_nil_of_length_eq_zero (by omega)
  | some g => exact h
theorem Rd.rdN {v : Value} {xs : List Value} (h : Rd w v xs) : RdN w 1 v xs.length xs := by
  obtain ⟨a, cap, rfl, hl, h⟩ := h
  refine ⟨by simp, a, cap, rfl, ?_⟩
  cases a with
  | none => have h0 : xs = [] := h; simp [h0]
  | some g => exact h

theorem xLoadN_of {n b o : Nat} {cs : List Value} (hl : cs.length = n) (h : ∀ i, i < n → w.cell? ⟨b, o + i, none⟩ = cs[i]?) : xLoadN n (ptr0 b o) w K = K (.agg cs.toArray) w := by
  unfold xLoadN
  refine propext ⟨?_, fun hk => ⟨_, cs, rfl, hl, fun i hi => by rw [Addr.add_none]; exact h i hi, hk⟩⟩
  rintro ⟨a, cs', ha, hl', h', hk⟩
  cases ha
  have : cs' = cs := by
    apply List.ext_getElem?
    intro i
    by_cases hi : i < n
    · rw [← h' i hi, Addr.add_none, h i hi]
    · rw [List.getElem?_eq_none (by omega), List.getElem?_eq_none (by omega)]
  rw [← this]; exact hk
/-- a whole block is loaded -/
theorem xLoadN_blk {n b T : Nat} {cs : List Value} (h : Hp w (BlkA b T cs :: l)) (hl : cs.length = n) : xLoadN n (ptr0 b 0) w K = K (.agg cs.toArray) w :=
  xLoadN_of hl fun i _ => by rw [Nat.zero_add]; exact h.c0 i
/-! writing -/
theorem Hp.st {t b T o : Nat} {cs : List Value} (h : Hp w (BlkA b T cs :: l)) {i : TypeInfo} (hi : P.info? t = some i) (hs : i.size = 1) {v : Value} (hv : v.oneCell' = true) (ho : o < cs.length)
    (hK : ∀ w', Hp w' (BlkA b T (cs.set o v) :: l) → K undef w') : xStore P t (ptr0 b o) v w K := by
  obtain ⟨F, hF, fr⟩ := h.frame1
  refine store_blk hi hs hv hF.1 (by simpa using ho) ?_
  intro w' hb hc hsz
  exact hK w' (fr w' F _ ⟨by rw [hb]; simp, hF.2⟩ (hc.mono fun x _ hx => (hF.2 x).2 hx) fun _ h => .inl h)
theorem storeCells_run {P : Program} {b o T : Nat} : ∀ (cs : List Value) (w : World) (i : Nat) (cur : List Value), w.heap[b]? = some (.cells cur.toArray T (0, 0)) → o + i + cs.length ≤ cur.length → (∀ u ∈ cs, u.oneCell' = true) →
    ∃ w', (storeCells ⟨b, o, none⟩ cs i).run P w = .ok () w' ∧ w'.heap[b]? = some (.cells (cur.take (o + i) ++ cs ++ cur.drop (o + i + cs.length)).toArray T (0, 0)) ∧ Chg (· = b) w w'
  | [], w, i, cur, hb, _, _ => ⟨w, rfl, by simpa using hb, Chg.refl _ _⟩
  | c :: cs, w, i, cur, hb, hl, h1 => by
    simp only [List.length_cons] at hl
    have hb1 : (w.setCell ⟨b, o + i, none⟩ c).heap[b]? = some (.cells (cur.set (o + i) c).toArray T (0, 0)) := by
      simp [World.setCell, Array.getElem?_modify, hb]
    have hlt : o + i < cur.length := by omega
    have hc0 : w.cell? ⟨b, o + i, none⟩ = some (cur[o + i]'hlt) := by
      rw [cell_of_block hb]; simp [hlt]
    obtain ⟨w', hr, hw, hc⟩ := storeCells_run (P := P) (o := o) cs (w.setCell ⟨b, o + i, none⟩ c) (i + 1) (cur.set (o + i) c) hb1 (by rw [List.length_set]; omega) (fun u hu => h1 u (by simp [hu]))
    refine ⟨w', ?_, ?_, Chg.trans (b := w.setCell ⟨b, o + i, none⟩ c) (Chg.setCell w ⟨b, o + i, none⟩ c (S := fun x => x = b) rfl) hc⟩
    · unfold storeCells
      rw [Addr.add_none, Sem.run_bind, run_store P w ⟨b, o + i, none⟩ c .plain (h1 c (by simp))]
      have hf : w.frozen? ⟨b, o + i, none⟩ = false := by simp [World.frozen?, hb]
      simp only [hc0, hf, Bool.false_eq_true, if_false, Result.andThen_ok]
      exact hr
    · rw [hw]
      refine congrArg some (congrArg (fun z : List Value => Obj.cells z.toArray T (0, 0)) ?_)
      rw [← Nat.add_assoc, List.take_add_one, List.drop_set_of_lt (by omega), List.take_set_of_le (by omega)]
      simp only [List.getElem?_set_self (show o + i < cur.length by omega), Option.toList_some, List.length_cons, List.append_assoc, List.cons_append, List.nil_append]
      rw [show o + i + 1 + cs.length = o + i + (cs.length + 1) by omega]
theorem Hp.stN {t b T o n : Nat} {cs new : List Value} (h : Hp w (BlkA b T cs :: l)) {i : TypeInfo} (hi : P.info? t = some i) (hs : i.size = n) {v : Value} (hv : v.cells = new.toArray) (hn : new.length = n) (h1 : ∀ u ∈ new, u.oneCell' = true) (ho : o + n ≤ cs.length)
    (hK : ∀ w', Hp w' (BlkA b T (cs.take o ++ new ++ cs.drop (o + n)) :: l) → K undef w') : xStore P t (ptr0 b o) v w K := by
  obtain ⟨F, hF, fr⟩ := h.frame1
  obtain ⟨w', hr, hw, hc⟩ := storeCells_run (P := P) (o := o) new w 0 cs hF.1 (by omega) h1
  unfold xStore
  have : (Instr.storeAt t (ptr0 b o) v).run P w = .ok () w' := by
    unfold Instr.storeAt Instr.sureAddr storeVar sizeOf typeInfo
    simp only [Sem.run_bind, Sem.run_pure, Result.andThen_ok, run_program, hi, hv, hs]
    rw [if_neg (by simp [hn])]
    simpa using hr
  rw [xu_iff this]
  refine hK w' (fr w' F (BlkA b T _) ⟨by rw [hw, Nat.add_zero, hn], hF.2⟩ (hc.mono fun x _ hx => (hF.2 x).2 hx) fun _ h => .inl h)
theorem Hp.box {t : Nat} {v : Value} {cs : List Value} (h : Hp w l) (hv : v.cells = cs.toArray) (hK : ∀ b w', Hp w' (BlkA b t cs :: l) → K (ptr0 b 0) w') : xBox P t v w K := by
  refine box_step ?_
  rintro b w' rfl hb hc hsz
  exact hK _ w' (h.new (A := BlkA _ t cs) (F := fun x => x = w.heap.size) ⟨by rw [hb, hv], fun _ => Iff.rfl⟩ (fun b e => by omega) hc)
theorem Hp.alloc {t : Nat} {cs : List Value} (h : Hp w l) {i : TypeInfo} {z : Value} (hi : P.info? t = some i) (hz : i.zero = some z) (hv : z.cells = cs.toArray) (hK : ∀ b w', Hp w' (BlkA b t cs :: l) → K (ptr0 b 0) w') : xAlloc P t w K := by
  refine alloc_step hi hz ?_
  rintro b w' rfl hb hc hsz
  exact hK _ w' (h.new (A := BlkA _ t cs) (F := fun x => x = w.heap.size) ⟨by rw [hb, hv], fun _ => Iff.rfl⟩ (fun b e => by omega) hc)
theorem Hp.mkMap {t : Nat} {α : Type} (E : α → Value) (h : Hp w l) (hK : ∀ b w', Hp w' (MapA E b [] :: l) → K (.map (some b)) w') : xMakeMap P t none w K := by
  refine makeMap_step E ?_
  rintro b w' rfl hb hc hsz
  exact hK _ w' (h.new (A := MapA E _ []) (F := fun x => x = w.heap.size) ⟨hb, fun _ => Iff.rfl⟩ (fun b e => by omega) hc)
theorem Hp.mset {α : Type} [DecidableEq α] {k t e : TypeId} (X : Keys α P k) (a : α) {v : Value} {L : List (α × Value)} {m : Nat} (ht : P.underlying t = some (.map k e)) (h : Hp w (MapA X.enc m L :: l)) {kv : Value} (hkv : kv = X.enc a)
    (hK : ∀ w', Hp w' (MapA X.enc m (ins L a v) :: l) → K undef w') : xMapUpdate P t (.map (some m)) kv v w K := by
  obtain ⟨F, hF, fr⟩ := h.frame1
  refine xMapUpdate_map X a v ht hF.1 hkv ?_
  intro w' hm hc hsz
  exact hK w' (fr w' F (MapA X.enc m _) ⟨hm, hF.2⟩ (hc.mono fun x _ hx => (hF.2 x).2 hx) fun _ h => .inl h)
theorem Hp.mdel {α : Type} [DecidableEq α] {k t e : TypeId} (X : Keys α P k) (a : α) {L : List (α × Value)} {m : Nat} (ht : P.underlying t = some (.map k e)) (h : Hp w (MapA X.enc m L :: l)) {ts : List TypeId} {ty : TypeId} {cs : List Bool} {kv : Value} (hkv : kv = X.enc a)
    (hK : ∀ w', Hp w' (MapA X.enc m (del L a) :: l) → K (.tuple #[]) w') : xBuiltin P .delete (List.toArray (t :: ts)) ty cs [.map (some m), kv] w K := by
  obtain ⟨F, hF, fr⟩ := h.frame1
  refine xDelete_map X a ht hF.1 hkv ?_
  intro w' hm hc hsz
  exact hK w' (fr w' F (MapA X.enc m _) ⟨hm, hF.2⟩ (hc.mono fun x _ hx => (hF.2 x).2 hx) fun _ h => .inl h)
theorem Hp.app {t ty e : TypeId} {i : TypeInfo} {z : Value} {size bytes : Nat} (ht : P.underlying t = some (.slice e)) (hi : P.info? e = some i) (hz : i.zero = some z) (hsize : i.size = size) (hby : i.bytes = bytes) (hzs : z.cells.size = size) {cs : List Bool}
    {v u : Value} {n m : Nat} {xs news : List Value} (h : Hp w (SlA e size v n xs :: l)) (hr : RdN w size u m news) (h1 : ∀ u ∈ news, u.oneCell' = true) (h63 : n + m ≤ 1000000000) (hb : bytes ≤ 100000)
    (hK : ∀ v' w', Hp w' (SlA e size v' (n + m) (xs ++ news) :: l) → K v' w') : xBuiltin P .append #[t, t] ty cs [v, u] w K := by
  obtain ⟨F, hF, fr⟩ := h.frame1
  refine append_step ht hi hz hsize hby hzs hF.1 hr h1 (by unfold maxLen; omega) ?_ ?_
  · exact Nat.le_trans (Nat.mul_le_mul h63 hb) (by omega)
  intro v' w' ho hc hv
  refine hK v' w' (fr w' _ (SlA e size v' _ _) ⟨ho, fun _ => Iff.rfl⟩ (hc.mono fun x _ hx => (hF.2 x).2 hx) fun b hb => ?_)
  rcases hv with h | h
  · rw [h] at hb; exact .inl ((hF.2 b).2 hb)
  · rw [h] at hb; cases hb; exact .inr (Nat.le_refl _)
theorem Hp.sl0 {t e : TypeId} {i : TypeInfo} {size : Nat} (ht : P.underlying t = some (.slice e)) (hi : P.info? e = some i) (hs : i.size = size) (h : Hp w l)
    (hK : ∀ v w', Hp w' (SlA e size v 0 [] :: l) → K v w') : xBuildSlice P t 0 [] w K := by
  refine buildSlice0 ht hi hs ?_
  intro v w' ho hb hc hsz
  exact hK v w' (h.new (A := SlA e size v 0 []) (F := fun x => v.ownBlock = some x) ⟨ho, fun _ => Iff.rfl⟩ (fun b e => by rw [hb] at e; cases e; omega) hc)
theorem Hp.sl1 {t e : TypeId} {i : TypeInfo} {z : Value} {size : Nat} (ht : P.underlying t = some (.slice e)) (hi : P.info? e = some i) (hs : i.size = size) (h0 : size ≠ 0) (h16 : size ≤ 16777216) (hz : i.zero = some z) (hzs : z.cells.size = size) (h : Hp w l)
    {cs : List Value} {x : Value} (hx : x.cells = cs.toArray) (hc : cs.length = size)
    (hK : ∀ v w', Hp w' (SlA e size v 1 cs :: l) → K v w') : xBuildSlice P t 1 [(0, x)] w K := by
  refine buildSlice1 ht hi hs h0 h16 hz hzs (by simpa using hc) hx ?_
  intro v w' ho hb hc hsz
  exact hK v w' (h.new (A := SlA e size v 1 cs) (F := fun x => v.ownBlock = some x) ⟨ho, fun _ => Iff.rfl⟩ (fun b e => by rw [hb] at e; cases e; omega) hc)
/-- []T{a, b, ..}, a cell each -/
theorem Hp.sln {t e : TypeId} {i : TypeInfo} {z : Value} (ht : P.underlying t = some (.slice e)) (hi : P.info? e = some i) (hs : i.size = 1) (hz : i.zero = some z) (hz1 : z.cells.size = 1) (h : Hp w l) {vs : List Value} {n : Nat} {ps : List (Nat × Value)}
    (hn : vs.length = n) (hps : ps = (vs.zipIdx 0).map fun p => (p.2, p.1)) (h1 : ∀ u ∈ vs, u.oneCell' = true) (hbig : n ≤ 16777216)
    (hK : ∀ v w', Hp w' (SlA e 1 v n vs :: l) → K v w') : xBuildSlice P t n ps w K := by
  refine buildSlice_step ht hi hs hz hz1 hn hps h1 hbig ?_
  intro v w' ho hb hc hsz
  exact hK v w' (h.new (A := SlA e 1 v n vs) (F := fun x => v.ownBlock = some x) ⟨ho, fun _ => Iff.rfl⟩ (fun b e => by rw [hb] at e; cases e; omega) hc)
/-- a cell of a slice's is set -/
theorem Hp.sst {e u : TypeId} {i : TypeInfo} {size : Nat} (hi : P.info? u = some i) (hs : i.size = 1) {v x : Value} (hx : x.oneCell' = true) {n j g : Nat} {xs : List Value} (h : Hp w (SlA e size v n xs :: l)) (hg : v.ownBlock = some g) (hj : j < xs.length)
    (hK : ∀ w', Hp w' (SlA e size v n (xs.set j x) :: l) → K undef w') : xStore P u (ptr0 g j) x w K := by
  obtain ⟨F, hF, fr⟩ := h.frame1
  refine own_store hi hs hx hF.1 hg hj ?_
  intro w' ho hc hsz
  exact hK w' (fr w' F (SlA e size v n _) ⟨ho, hF.2⟩ (hc.mono fun x _ hx => (hF.2 x).2 (by rw [hx]; exact hg)) fun _ h => .inl h)
/-- the first elements; the last ones -/
theorem head_sl {t e : TypeId} {i : TypeInfo} {size : Nat} (ht : P.underlying t = some (.slice e)) (hi : P.info? e = some i) {v : Value} {n k : Nat} {xs : List Value} (ho : Own w e size v n xs) (hk : k ≤ n) :
    ∃ v', (∀ (w2 : World) (C : VCont), xSlice P t v none (some (.int .i64 k)) none w2 C = C v' w2) ∧ v'.ownBlock = v.ownBlock ∧ ∀ w', Own w' e size v n xs → RdN w' size v' k (xs.take (k * size)) := by
  have hx : xs.length = n * size := ho.1
  have hks : k * size ≤ n * size := Nat.mul_le_mul_right _ hk
  rcases ho.2 with ⟨rfl, h0⟩ | ⟨g, cap, cur, rfl, hb, hn, _⟩
  · have : k = 0 := by omega
    subst this
    exact ⟨.slice none 0 0, fun w2 C => by rw [xSlice_slice ht hi (bounds_hi (by omega) (by omega))]; rfl, rfl, fun w' _ => ⟨by simp, none, 0, rfl, rfl⟩⟩
  · refine ⟨.slice (some ⟨g, 0, none⟩) k cap, fun w2 C => ?_, rfl, fun w' ho' => ⟨by rw [List.length_take]; omega, _, _, rfl, fun j u hj => ?_⟩⟩
    · rw [xSlice_slice ht hi (bounds_hi (by omega) (by omega))]
      congr 2
      split <;> simp [Addr.add]
    · rw [List.getElem?_take] at hj
      split at hj
      · exact ho'.cells (g := g) rfl j u hj
      · cases hj
theorem tail_sl {t e : TypeId} {i : TypeInfo} {size : Nat} (ht : P.underlying t = some (.slice e)) (hi : P.info? e = some i) (hs : i.size = size) {v : Value} {n k : Nat} {xs : List Value} (ho : Own w e size v n xs) (hk : k ≤ n) :
    ∃ v', (∀ (w2 : World) (C : VCont), xSlice P t v (some (.int .i64 k)) none none w2 C = C v' w2) ∧ v'.ownBlock = v.ownBlock ∧ ∀ w', Own w' e size v n xs → RdN w' size v' (n - k) (xs.drop (k * size)) := by
  have hx : xs.length = n * size := ho.1
  have hks : k * size ≤ n * size := Nat.mul_le_mul_right _ hk
  rcases ho.2 with ⟨rfl, h0⟩ | ⟨g, cap, cur, rfl, hb, hn, _⟩
  · have : k = 0 := by omega
    subst this; subst h0
    exact ⟨.slice none 0 0, fun w2 C => by rw [xSlice_slice ht hi (bounds_lo (by omega) (by omega))]; rfl, rfl, fun w' _ => ⟨by simpa using hx, none, 0, rfl, rfl⟩⟩
  · refine ⟨.slice (some (if cap = k then ⟨g, 0, none⟩ else (⟨g, 0, none⟩ : Addr).add (k * size))) (n - k) (cap - k), fun w2 C => ?_, ?_, fun w' ho' => ⟨by rw [List.length_drop, hx, Nat.sub_mul], _, _, rfl, fun j u hj => ?_⟩⟩
    · rw [xSlice_slice ht hi (bounds_lo (by omega) (by omega)), hs]
      simp only [Int.toNat_natCast]
      split <;> rfl
    · split
      · rfl
      · rw [Addr.add_none]; rfl
    · rw [List.getElem?_drop] at hj
      have hjl := (List.getElem?_eq_some_iff.1 hj).1
      have hck : cap ≠ k := by
        intro e
        have : n = k := by omega
        subst this
        omega
      rw [if_neg hck]
      have := ho'.cells (g := g) rfl _ u hj
      rw [Addr.add_none] at this ⊢
      rw [Addr.add_none]
      simpa [Nat.add_comm, Nat.add_left_comm, Nat.add_assoc] using this
end
theorem drw {P : Program} {w : World} {K : World → Prop} (h : K w.drew) : Sx.dr w K := h
end Go.Sx
end
section
/- Words of bits. -/
set_option linter.unusedVariables false
set_option linter.unusedSimpArgs false
namespace Go.Sx
open Go
abbrev u32 (c : BitVec 32) : Value := .int .u32 (c.toNat : Int)
abbrev u64 (c : BitVec 64) : Value := .int .u64 (c.toNat : Int)
theorem wrap_u32_nat (c : BitVec 32) : IntKind.u32.wrap (c.toNat : Int) = c.toNat := wrap_u32 (by omega) (by have := c.isLt; omega)
theorem wrap_u64_nat (c : BitVec 64) : IntKind.u64.wrap (c.toNat : Int) = c.toNat := wrap_u64 (by omega) (by have := c.isLt; omega)
theorem ofInt_u32 (c : BitVec 32) : BitVec.ofInt IntKind.u32.bits (c.toNat : Int) = c := by show BitVec.ofInt 32 (c.toNat : Int) = c; rw [BitVec.ofInt_natCast, BitVec.ofNat_toNat, BitVec.setWidth_eq]
theorem ofInt_u64 (c : BitVec 64) : BitVec.ofInt IntKind.u64.bits (c.toNat : Int) = c := by show BitVec.ofInt 64 (c.toNat : Int) = c; rw [BitVec.ofInt_natCast, BitVec.ofNat_toNat, BitVec.setWidth_eq]
section
variable {P : Program} {w : World} {K : VCont} {t : TypeId}
theorem and_u32 (c d : BitVec 32) : xBin P .and t (u32 c) (u32 d) w K = K (u32 (c &&& d)) w := by rw [xBin_and, ofInt_u32, ofInt_u32]; exact congrArg (fun z => K (.int .u32 z) w) (wrap_u32_nat (c &&& d))
theorem or_u32 (c d : BitVec 32) : xBin P .or t (u32 c) (u32 d) w K = K (u32 (c ||| d)) w := by rw [xBin_or, ofInt_u32, ofInt_u32]; exact congrArg (fun z => K (.int .u32 z) w) (wrap_u32_nat (c ||| d))
theorem xor_u32 (c d : BitVec 32) : xBin P .xor t (u32 c) (u32 d) w K = K (u32 (c ^^^ d)) w := by rw [xBin_xor, ofInt_u32, ofInt_u32]; exact congrArg (fun z => K (.int .u32 z) w) (wrap_u32_nat (c ^^^ d))
theorem shr_u32 (k : IntKind) (c : BitVec 32) (n : Nat) (hn : n ≤ 32) : xBin P .shr t (u32 c) (.int k n) w K = K (u32 (c >>> n)) w := by
  rw [xBin_shr _ _ _ _ _ (by omega)]
  have h1 : min ((n : Int)).toNat IntKind.u32.bits = n := by show min ((n : Int)).toNat 32 = n; omega
  rw [h1]
  have h2 : (c.toNat : Int).fdiv (2 ^ n) = ((c >>> n).toNat : Int) := by
    rw [BitVec.toNat_ushiftRight, Nat.shiftRight_eq_div_pow, Int.fdiv_eq_ediv_of_nonneg _ (by have : (0:Int) < 2 ^ n := Int.pow_pos (by omega); omega)]
    simp
  rw [h2]
theorem shl_u32 (k : IntKind) (c : BitVec 32) (n : Nat) (hn : n ≤ 32) : xBin P .shl t (u32 c) (.int k n) w K = K (u32 (c <<< n)) w := by
  rw [xBin_shl _ _ _ _ _ (by omega)]
  have h1 : min ((n : Int)).toNat IntKind.u32.bits = n := by show min ((n : Int)).toNat 32 = n; omega
  rw [h1]
  have h2 : IntKind.u32.wrap ((c.toNat : Int) * 2 ^ n) = ((c <<< n).toNat : Int) := by
    rw [BitVec.toNat_shiftLeft, Nat.shiftLeft_eq]
    simp [IntKind.wrap, IntKind.bits, IntKind.signed]
  rw [h2]
theorem not_u32 (c : BitVec 32) : xUn P .xor (u32 c) w K = K (u32 (~~~c)) w := by
  refine xp_iff fun w' => ?_
  have h : Op.unary .xor (u32 c) = pure (u32 (~~~c)) := by
    unfold Op.unary
    simp only [Op.intBits, IntKind.signed, IntKind.max, Bool.false_eq_true, if_false]
    have h1 : (BitVec.ofInt IntKind.u32.bits ((2:Int) ^ IntKind.u32.bits - 1) ^^^ BitVec.ofInt IntKind.u32.bits (c.toNat : Int)) = ~~~c := by
      rw [ofInt_u32]
      exact BitVec.allOnes_xor
    rw [h1]
    exact congrArg (fun z => (pure (.int .u32 z) : Sem Value)) (wrap_u32_nat (~~~c))
  rw [h]; rfl
theorem eq_u32 (cx cy : Bool) (c d : BitVec 32) : xEq P .eql t cx cy (u32 c) (u32 d) w K = K (.bool (decide (c = d))) w := by
  rw [xEq_int]
  congr 2
  exact decide_eq_decide.2 ⟨fun h => BitVec.eq_of_toNat_eq (by omega), fun h => by rw [h]⟩
theorem ne_u32 (cx cy : Bool) (c d : BitVec 32) : xEq P .neq t cx cy (u32 c) (u32 d) w K = K (.bool (!decide (c = d))) w := by
  rw [xNe_int]
  congr 3
  exact decide_eq_decide.2 ⟨fun h => BitVec.eq_of_toNat_eq (by omega), fun h => by rw [h]⟩
/-- a byte as a word -/
theorem conv_u8_u32 {s d : TypeId} (hs : P.underlying s = some (.int .u8)) (hd : P.underlying d = some (.int .u32)) (x : UInt8) : xConvK P .pure s d (bv x) w K = K (u32 (x.toBitVec.setWidth 32)) w := by
  unfold bv
  rw [xConv_int s d .u32 .u8 _ hs hd]
  congr 2
  have : x.toNat < 256 := x.toNat_lt
  rw [wrap_u32 (by omega) (by omega)]
  rw [BitVec.toNat_setWidth, UInt8.toNat_toBitVec, Nat.mod_eq_of_lt (by omega)]
/-- a word's low byte -/
theorem conv_u32_u8 {s d : TypeId} (hs : P.underlying s = some (.int .u32)) (hd : P.underlying d = some (.int .u8)) (c : BitVec 32) : xConvK P .pure s d (u32 c) w K = K (bv ⟨c.setWidth 8⟩) w := by
  rw [xConv_int s d .u8 .u32 _ hs hd]
  unfold bv
  congr 2
theorem conv_i64_u8 {s d : TypeId} (hs : P.underlying s = some (.int .i64)) (hd : P.underlying d = some (.int .u8)) (n : Nat) : xConvK P .pure s d (.int .i64 (n : Int)) w K = K (bv (UInt8.ofNat n)) w := by
  rw [xConv_int s d .u8 .i64 _ hs hd]
  unfold bv
  congr 2
theorem conv_u8_i64 {s d : TypeId} (hs : P.underlying s = some (.int .u8)) (hd : P.underlying d = some (.int .i64)) (x : UInt8) : xConvK P .pure s d (bv x) w K = K (.int .i64 (x.toNat : Int)) w := by
  unfold bv
  rw [xConv_int s d .i64 .u8 _ hs hd]
  congr 2
  have : x.toNat < 256 := x.toNat_lt
  rw [wrap_i64 (by omega) (by omega)]
end
end Go.Sx
end
