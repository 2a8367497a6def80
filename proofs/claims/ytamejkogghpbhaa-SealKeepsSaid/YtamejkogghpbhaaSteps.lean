/- Steps: the operations that touch memory, the world behind them a name; a bundle of the plain ones; loops. -/
import Derived.Test.YtamejkogghpbhaaMaps
set_option linter.unusedVariables false
set_option linter.unusedSimpArgs false
namespace Go.Sx
open Go

theorem xLoad1_cell {w : World} {K : VCont} (a : Addr) : xLoad1 (.pointer (some a)) w K = (match w.cell? a with | some x => K x w | none => False) := by
  unfold xLoad1
  cases h : w.cell? a with
  | none => simp [h]
  | some x =>
    refine propext ⟨?_, fun hk => ⟨a, x, rfl, h, hk⟩⟩
    rintro ⟨b, y, hb, hy, hk⟩
    cases hb
    rw [h] at hy; cases hy; exact hk

/-- the plain ones, for 'simp only': those that ask for no program, and those that do -/
theorem xs : (∀ a b : Prop, xIf (.bool true) a b = a) ∧
    (∀ a b : Prop, xIf (.bool false) a b = b) ∧
    (∀ (t : Bool) (a b : Value) (w : World) (K : VCont), xPick (.bool t) a b w K = K (cond t a b) w) ∧
    (∀ (f : VCont → Prop) (w : World) (K : VCont), xWhen (.bool true) true f w K = f K) ∧
    (∀ (f : VCont → Prop) (w : World) (K : VCont), xWhen (.bool false) false f w K = f K) ∧
    (∀ (f : VCont → Prop) (w : World) (K : VCont), xWhen (.bool true) false f w K = K undef w) ∧
    (∀ (f : VCont → Prop) (w : World) (K : VCont), xWhen (.bool false) true f w K = K undef w) ∧
    (∀ (t : Bool) (f : VCont → Prop) (w : World) (K : VCont), xWhen undef t f w K = K undef w) ∧
    (∀ (a : Addr) (w : World) (K : VCont), xNil (.pointer (some a)) w K = K (.pointer (some a)) w) ∧
    (∀ (n b o : Nat) (w : World) (K : VCont), xOff (some n) (.pointer (some ⟨b, o, none⟩)) w K = K (.pointer (some ⟨b, o + n, none⟩)) w) ∧
    (∀ (a : Value) (l : List Value) (w : World) (K : VCont), xExtract (.tuple (List.toArray (a :: l))) 0 w K = K a w) ∧
    (∀ (a b : Value) (l : List Value) (w : World) (K : VCont), xExtract (.tuple (List.toArray (a :: b :: l))) 1 w K = K b w) ∧
    (∀ (a b c : Value) (l : List Value) (w : World) (K : VCont), xExtract (.tuple (List.toArray (a :: b :: c :: l))) 2 w K = K c w) ∧
    (∀ (a b c d : Value) (l : List Value) (w : World) (K : VCont), xExtract (.tuple (List.toArray (a :: b :: c :: d :: l))) 3 w K = K d w) ∧
    (∀ (a : Addr) (w : World) (K : VCont), xLoad1 (.pointer (some a)) w K = (match w.cell? a with | some x => K x w | none => False)) ∧
    (∀ (w : World) (K : World → Prop), Sx.dr w K = K w.drew) :=
  ⟨xIf_true,
    xIf_false,
    fun t a b w K => xPick_bool t a b,
    fun f w K => xWhen_yes true f,
    fun f w K => xWhen_yes false f,
    fun f w K => xWhen_tf f,
    fun f w K => xWhen_ft f,
    fun t f w K => xWhen_undef t f,
    fun a w K => xNil_some a,
    fun n b o w K => xOff_some n b o,
    fun a l w K => xExtract_0 a l,
    fun a b l w K => xExtract_1 a b l,
    fun a b c l w K => xExtract_2 a b c l,
    fun a b c d l w K => xExtract_3 a b c d l,
    fun a w K => xLoad1_cell a,
    fun w K => rfl⟩
theorem xb {P : Program} : (∀ (t : TypeId) (k : IntKind) (a b : Int) (w : World) (K : VCont), xBin P .add t (.int k a) (.int k b) w K = K (.int k (k.wrap (a + b))) w) ∧
    (∀ (t : TypeId) (k : IntKind) (a b : Int) (w : World) (K : VCont), xBin P .sub t (.int k a) (.int k b) w K = K (.int k (k.wrap (a - b))) w) ∧
    (∀ (t : TypeId) (k : IntKind) (a b : Int) (w : World) (K : VCont), xBin P .mul t (.int k a) (.int k b) w K = K (.int k (k.wrap (a * b))) w) ∧
    (∀ (t : TypeId) (k : IntKind) (a b : Int) (w : World) (K : VCont), xBin P .lss t (.int k a) (.int k b) w K = K (.bool (decide (a < b))) w) ∧
    (∀ (t : TypeId) (k : IntKind) (a b : Int) (w : World) (K : VCont), xBin P .leq t (.int k a) (.int k b) w K = K (.bool (decide (a ≤ b))) w) ∧
    (∀ (t : TypeId) (k : IntKind) (a b : Int) (w : World) (K : VCont), xBin P .gtr t (.int k a) (.int k b) w K = K (.bool (decide (b < a))) w) ∧
    (∀ (t : TypeId) (k : IntKind) (a b : Int) (w : World) (K : VCont), xBin P .geq t (.int k a) (.int k b) w K = K (.bool (decide (b ≤ a))) w) ∧
    (∀ (b : Bool) (w : World) (K : VCont), xUn P .not (.bool b) w K = K (.bool (!b)) w) ∧
    (∀ (t : TypeId) (cx cy : Bool) (k : IntKind) (a b : Int) (w : World) (K : VCont), xEq P .eql t cx cy (.int k a) (.int k b) w K = K (.bool (decide (a = b))) w) ∧
    (∀ (t : TypeId) (cx cy : Bool) (k : IntKind) (a b : Int) (w : World) (K : VCont), xEq P .neq t cx cy (.int k a) (.int k b) w K = K (.bool (!decide (a = b))) w) ∧
    (∀ (a b : Int) (w : World) (K : VCont), xMinMax P true [.int .i64 a, .int .i64 b] w K = K (.int .i64 (max a b)) w) ∧
    (∀ (a b : Int) (w : World) (K : VCont), xMinMax P false [.int .i64 a, .int .i64 b] w K = K (.int .i64 (min a b)) w) :=
  ⟨fun t k a b w K => xBin_add t k a b,
    fun t k a b w K => xBin_sub t k a b,
    fun t k a b w K => xBin_mul t k a b,
    fun t k a b w K => xBin_lss t k a b,
    fun t k a b w K => xBin_leq t k a b,
    fun t k a b w K => xBin_gtr t k a b,
    fun t k a b w K => xBin_geq t k a b,
    fun b w K => xUn_not b,
    fun t cx cy k a b w K => xEq_int t cx cy k a b,
    fun t cx cy k a b w K => xNe_int t cx cy k a b,
    fun a b w K => xMax_i64 a b,
    fun a b w K => xMin_i64 a b⟩

/-- booleans that are known -/
theorem xd : (∀ h : Decidable True, @decide True h = true) ∧ (∀ h : Decidable False, @decide False h = false) ∧ (∀ a b : Value, cond true a b = a) ∧ (∀ a b : Value, cond false a b = b) ∧ (!true) = false ∧ (!false) = true :=
  ⟨fun h => by simp, fun h => by simp, fun a b => rfl, fun a b => rfl, rfl, rfl⟩
section
variable {P : Program} {w : World} {K : VCont}
theorem store_blk {t b o T : Nat} {i : TypeInfo} {v : Value} {cs : Array Value} (hi : P.info? t = some i) (hs : i.size = 1) (hv : v.oneCell' = true) (hb : w.heap[b]? = some (.cells cs T (0, 0))) (ho : o < cs.size)
    (hK : ∀ w', w'.heap[b]? = some (.cells (cs.setIfInBounds o v) T (0, 0)) → Chg (· = b) w w' → w'.heap.size = w.heap.size → K undef w') :
    xStore P t (.pointer (some ⟨b, o, none⟩)) v w K := by
  rw [xStore1 hi hs hv (x := cs[o]) (by rw [cell_of_block hb]; simp [ho]) (by simp [World.frozen?, hb])]
  refine hK _ ?_ (Chg.setCell w _ v rfl) (by simp [World.setCell])
  simp [World.setCell, Array.getElem?_modify, hb]
theorem box_step {t : TypeId} {v : Value} (hK : ∀ b w', b = w.heap.size → w'.heap[b]? = some (.cells v.cells t (0, 0)) → Chg none' w w' → w'.heap.size = w.heap.size + 1 → K (.pointer (some ⟨b, 0, none⟩)) w') :
    xBox P t v w K := by
  rw [xBox_eq]
  exact hK _ _ rfl (heap_alloc_new w _) (Chg.alloc w _ _) (by simp)
theorem alloc_step {t : TypeId} {i : TypeInfo} {z : Value} (hi : P.info? t = some i) (hz : i.zero = some z)
    (hK : ∀ b w', b = w.heap.size → w'.heap[b]? = some (.cells z.cells t (0, 0)) → Chg none' w w' → w'.heap.size = w.heap.size + 1 → K (.pointer (some ⟨b, 0, none⟩)) w') : xAlloc P t w K := by
  rw [xAlloc_eq hi hz]
  exact hK _ _ rfl (heap_alloc_new w _) (Chg.alloc w _ _) (by simp)
theorem makeMap_step {t : TypeId} {α : Type} (E : α → Value) (hK : ∀ b w', b = w.heap.size → MapAt E w' b [] → Chg none' w w' → w'.heap.size = w.heap.size + 1 → K (.map (some b)) w') : xMakeMap P t none w K := by
  rw [xMakeMap_eq]
  exact hK _ _ rfl (MapAt.new E w) (Chg.alloc w _ _) (by simp)
/-- bytes as a string -/
theorem bytes_string {s d e : TypeId} (hs : P.underlying s = some (.slice e)) (he : P.underlying e = some (.int .u8)) (hd : P.underlying d = some .string) {v : Value} {l : List UInt8} (h : Rd w v (l.map bv)) :
    xConvK P .read s d v w K = K (.string ⟨l.toArray⟩) w := by
  obtain ⟨a, cap, rfl, hl, h⟩ := h
  unfold xConvK
  refine xv_iff ?_
  rw [run_convert_bytes_string w s d e a _ _ hs he hd]
  cases a with
  | none =>
    have : l = [] := by simpa using h
    subst this
    rfl
  | some g =>
    have hc : (loadCells g (l.map bv).length).run P w = .ok ((l.map fun x => (x.toNat : Int)).map (Value.int .u8)).toArray w := by
      have := loadCells_run (P := P) (w := w) (a := g) (cs := l.map bv) rfl (fun i hi => by
        rw [List.getElem?_eq_getElem hi]
        exact h i _ (List.getElem?_eq_getElem hi))
      rw [this]
      have h3 : (l.map fun x => (x.toNat : Int)).map (Value.int .u8) = l.map bv := by rw [List.map_map]; rfl
      rw [h3]
    rw [run_bytesToString w g _ cap _ hc]
    congr 2
    have : ∀ (l : List UInt8) (s : ByteArray), (l.map fun x => (x.toNat : Int)).foldl (fun r n => r.push (UInt8.ofNat n.toNat)) s = ⟨s.data ++ l.toArray⟩ := by
      intro l
      induction l with
      | nil => intro s; simp
      | cons x l ih =>
        intro s
        simp only [List.map_cons, List.foldl_cons]
        rw [ih]
        have hx : UInt8.ofNat ((x.toNat : Int)).toNat = x := by simp
        rw [hx]
        simp [ByteArray.push]
    rw [this]
    simp
theorem fill_bytes (vs : List Value) (h1 : ∀ u ∈ vs, u.oneCell' = true) : ∀ (n : Nat) (pre : List Value), pre.length + vs.length = n → ∀ z : List Value, z.length = vs.length →
    Instr.fill (fun i => some (i, 1)) (pre ++ z).toArray ((vs.zipIdx pre.length).map fun p => (p.2, p.1)) = some (pre ++ vs).toArray := by
  induction vs with
  | nil => intro n pre _ z hz; have : z = [] := List.eq_nil_of_length_eq_zero (by simpa using hz); subst this; rfl
  | cons v vs ih =>
    intro n pre hn z hz
    cases z with
    | nil => simp at hz
    | cons y z =>
      have hv : v.cells = #[v] := by have := h1 v (by simp); cases v <;> simp_all [Value.cells, Value.oneCell']
      simp only [List.zipIdx_cons, List.map_cons, Instr.fill, hv]
      have hcond : ¬ ((#[v] : Array Value).size ≠ 1 || pre.length + (#[v] : Array Value).size > (pre ++ y :: z).toArray.size) = true := by simp
      rw [if_neg hcond]
      have := ih (fun u hu => h1 u (by simp [hu])) n (pre ++ [v]) (by simp at hn ⊢; omega) z (by simpa using hz)
      have h2 : (List.foldl (fun cs x => cs.setIfInBounds (pre.length + x.2) x.1) (pre ++ y :: z).toArray (#[v] : Array Value).zipIdx.toList) = (pre ++ [v] ++ z).toArray := by
        simp
      have h3 : ((#[v] : Array Value).zipIdx.foldl (fun cs (x : Value × Nat) => cs.setIfInBounds (pre.length + x.2) x.1) (pre ++ y :: z).toArray) = (pre ++ [v] ++ z).toArray := by
        rw [← Array.foldl_toList]; exact h2
      rw [show (pre ++ [v]).length = pre.length + 1 by simp] at this
      rw [show (pre ++ v :: vs) = (pre ++ [v]) ++ vs by simp]
      rw [← this, ← h3]
/-- a slice that is written out: elements of one cell each -/
theorem buildSlice_step {t e : TypeId} {i : TypeInfo} {z : Value} (ht : P.underlying t = some (.slice e)) (hi : P.info? e = some i) (hs : i.size = 1) (hz : i.zero = some z) (hz1 : z.cells.size = 1) {vs : List Value} {n : Nat} {ps : List (Nat × Value)}
    (hn : vs.length = n) (hps : ps = (vs.zipIdx 0).map fun p => (p.2, p.1)) (h1 : ∀ u ∈ vs, u.oneCell' = true) (hbig : n ≤ 16777216)
    (hK : ∀ v w', Own w' e 1 v n vs → v.ownBlock = some w.heap.size → Chg none' w w' → w'.heap.size = w.heap.size + 1 → K v w') : xBuildSlice P t n ps w K := by
  unfold xBuildSlice
  have : (Instr.buildSlice t n ps.toArray).run P w = .ok (.slice (some ⟨w.heap.size, 0, none⟩) n n) (w.alloc (.cells vs.toArray e)) := by
    unfold Instr.buildSlice
    simp only [Sem.run_bind, run_underlying ht, Result.andThen_ok, sizeOf, typeInfo, run_program, hi, Sem.run_pure, hs, Nat.mul_one]
    rw [if_neg (by omega)]
    subst hps
    have hfill : ∀ z' : Array Value, z'.size = n → Instr.fill (fun i => some (i, 1)) z' ((vs.zipIdx 0).map fun p => (p.2, p.1)) = some vs.toArray := by
      intro z' hz'
      have := fill_bytes vs h1 n [] (by simpa using hn) z'.toList (by simpa [hn] using hz')
      simpa using this
    by_cases h0 : n = 0
    · subst h0
      simp only [if_true, pure_bind]
      rw [hfill _ (by simp)]
      rfl
    · simp only [h0, if_false, zeroValue, typeInfo, Sem.run_bind, run_program, hi, Result.andThen_ok, Sem.run_pure, hz]
      rw [hfill _ (by simp)]
      rfl
  rw [xv_iff this]
  refine hK _ _ ⟨by simpa using hn, .inr ⟨w.heap.size, n, vs.toArray, rfl, heap_alloc_new w _, Nat.le_refl _, by unfold maxLen; omega, by simp [hn], by simp [← hn]⟩⟩ rfl (Chg.alloc w _ _) (by simp)
end

/-- A loop: what holds at its head, and what goes down. -/
theorem Lp.intro {T : LX → List Value → World → Prop} {s : List Value} {w : World} (I : List Value → World → Prop) (μ : List Value → World → Nat) (h0 : I s w)
    (round : ∀ s w, I s w → ∀ X : LX, (∀ s' w', I s' w' → μ s' w' < μ s w → X s' w') → T X s w) : Lp T s w := by
  intro X hX
  have key : ∀ n s w, μ s w = n → I s w → X s w := by
    intro n
    induction n using Nat.strongRecOn with
    | _ n ih =>
      intro s w hn hI
      exact hX s w (round s w hI X fun s' w' hI' hlt => ih (μ s' w') (hn ▸ hlt) s' w' rfl hI')
  exact key _ s w rfl h0
/-- .. with a number that goes down beside the state. -/
theorem Lp.gen {T : LX → List Value → World → Prop} {s : List Value} {w : World} (I : Nat → List Value → World → Prop) (n : Nat) (h0 : I n s w)
    (round : ∀ n s w, I n s w → ∀ X : LX, (∀ n' s' w', I n' s' w' → n' < n → X s' w') → T X s w) : Lp T s w := by
  intro X hX
  have key : ∀ n s w, I n s w → X s w := by
    intro n
    induction n using Nat.strongRecOn with
    | _ n ih =>
      intro s w hI
      exact hX s w (round n s w hI X fun n' s' w' hI' hlt => ih n' hlt s' w' hI')
  exact key n s w h0
end Go.Sx
