import Derived.Test.YtamejkogghpbhaaMg12
import Derived.Test.YtamejkogghpbhaaMg9
import Derived.Test.YtamejkogghpbhaaMg11
section
/- Arguments, opened by their types' shapes. -/
set_option linter.unusedVariables false
set_option linter.unusedSimpArgs false
namespace Go.Sx
open Go Go.ChangeShapes Go.WideShapes Go.ChangeAt Go.RowKit
/-- These cells can be read as a value of the type. -/
def Rdt (P : Program) (W : World) (t : TypeId) (cs : List Value) : Prop :=
  ∃ (H : Type) (enc : TypeId × Value → H) (fuel : Nat) (x : DataW H × List MemPlace), DataW.trod enc P W 0 (fun _ => true) true fuel t cs = some x
section
variable {H : Type} {enc : TypeId × Value → H} {P : Program} {W : World} {t e : TypeId} {cs : List Value}
theorem Rdt.of_trod {v : Value} {d : DataW H} {p : List MemPlace} (h : DataW.Trod enc P W 0 (fun _ => true) true t v d p) : Rdt P W t v.cells.toList := by
  obtain ⟨fuel, h⟩ := h; exact ⟨H, enc, fuel, _, h⟩
theorem Rdt.int {k : IntKind} (ht : P.underlying t = some (.int k)) (h : Rdt P W t cs) : ∃ n, cs = [.int k n] ∧ (Lit.int k n).wf = true := by
  obtain ⟨H, enc, fuel, x, h⟩ := h
  obtain ⟨n, h1, _, h2⟩ := DataW.trod_int ht h
  exact ⟨n, h1, h2⟩
theorem Rdt.i64 (ht : P.underlying t = some (.int .i64)) (h : Rdt P W t cs) : ∃ n, cs = [.int .i64 n] ∧ -9223372036854775808 ≤ n ∧ n ≤ 9223372036854775807 := by
  obtain ⟨n, h1, h2⟩ := h.int ht
  refine ⟨n, h1, ?_⟩
  simp [Lit.wf, IntKind.min, IntKind.max, IntKind.bits, IntKind.signed] at h2
  omega
theorem Rdt.u8 (ht : P.underlying t = some (.int .u8)) (h : Rdt P W t cs) : ∃ x : UInt8, cs = [bv x] := by
  obtain ⟨n, h1, h2⟩ := h.int ht
  have hb : 0 ≤ n ∧ n ≤ 255 := by simpa [Lit.wf, IntKind.min, IntKind.max, IntKind.bits, IntKind.signed] using h2
  refine ⟨UInt8.ofNat n.toNat, ?_⟩
  rw [h1]
  unfold bv
  congr 2
  simp
  omega
theorem Rdt.string (ht : P.underlying t = some .string) (h : Rdt P W t cs) : ∃ s, cs = [.string s] ∧ s.size ≤ maxLen := by
  obtain ⟨H, enc, fuel, x, h⟩ := h
  obtain ⟨n, h1, _, h2⟩ := DataW.trod_string ht h
  exact ⟨n, h1, h2⟩
theorem Rdt.bool (ht : P.underlying t = some .bool) (h : Rdt P W t cs) : ∃ b, cs = [.bool b] := by
  obtain ⟨H, enc, fuel, x, h⟩ := h
  obtain ⟨n, h1, _⟩ := DataW.trod_bool ht h
  exact ⟨n, h1⟩
theorem Rdt.struct {fs : Array Field} (ht : P.underlying t = some (.struct fs)) (h : Rdt P W t cs) : cs.length = P.cellsOf t ∧ ∀ (i : Nat) (f : Field), fs[i]? = some f → Rdt P W f.type ((cs.drop f.offset).take (P.cellsOf f.type)) := by
  obtain ⟨H, enc, fuel, x, h⟩ := h
  obtain ⟨xs, n, _, _, h1, h2, h3⟩ := DataW.trod_struct ht h
  refine ⟨h1, fun i f hf => ?_⟩
  have hlt : i < xs.length := by rw [h2]; exact (Array.getElem?_eq_some_iff.1 hf).1
  exact ⟨H, enc, n, xs[i], by rw [h3 i f hf]; exact List.getElem?_eq_getElem hlt⟩
theorem Rdt.array {n : Nat} (ht : P.underlying t = some (.array n e)) (h : Rdt P W t cs) : cs.length = P.cellsOf t ∧ ∀ (i : Nat), i < n → Rdt P W e ((cs.drop (i * P.cellsOf e)).take (P.cellsOf e)) := by
  obtain ⟨H, enc, fuel, x, h⟩ := h
  obtain ⟨xs, m, _, _, h1, h2, h3⟩ := DataW.trod_array ht h
  refine ⟨h1, fun i hi => ?_⟩
  exact ⟨H, enc, m, xs[i], by rw [h3 i hi]; exact List.getElem?_eq_getElem (by omega)⟩
theorem exists_list {α : Type} {n : Nat} {p : Nat → α → Prop} (h : ∀ i, i < n → ∃ x, p i x) : ∃ l : List α, l.length = n ∧ ∀ i x, l[i]? = some x → p i x := by
  induction n with
  | zero => exact ⟨[], rfl, by simp⟩
  | succ n ih =>
    obtain ⟨l, hl, hp⟩ := ih fun i hi => h i (by omega)
    obtain ⟨x, hx⟩ := h n (by omega)
    refine ⟨l ++ [x], by simp [hl], fun i y hy => ?_⟩
    by_cases hi : i < l.length
    · rw [List.getElem?_append_left hi] at hy; exact hp i y hy
    · rw [List.getElem?_append_right (by omega)] at hy
      have h0 : i - l.length = 0 := by have := (List.getElem?_eq_some_iff.1 hy).1; simp at this; omega
      rw [h0] at hy
      simp at hy
      subst hy
      rw [show i = n by omega]; exact hx
theorem add_add (a : Addr) (i j : Nat) : (a.add i).add j = a.add (i + j) := by
  unfold Addr.add
  by_cases h1 : i = 0
  · subst h1; simp
  · by_cases h2 : j = 0
    · subst h2; simp
    · rw [if_neg h1, if_neg h2, if_neg (by omega)]
      simp [Nat.add_assoc]
theorem flatten_len {α : Type} {size : Nat} : ∀ {ess : List (List α)}, (∀ es ∈ ess, es.length = size) → ess.flatten.length = ess.length * size
  | [], _ => by simp
  | es :: ess, h => by
    rw [List.flatten_cons, List.length_append, flatten_len fun x hx => h x (by simp [hx]), h es (by simp), List.length_cons, Nat.succ_mul, Nat.add_comm]
theorem flatten_at {α : Type} {size : Nat} : ∀ {ess : List (List α)}, (∀ es ∈ ess, es.length = size) → ∀ {j : Nat} {u : α}, ess.flatten[j]? = some u → ∃ (i r : Nat) (es : List α), ess[i]? = some es ∧ r < size ∧ j = i * size + r ∧ es[r]? = some u
  | [], _, j, u, h => by simp at h
  | es :: ess, hs, j, u, h => by
    have he := hs es (by simp)
    rw [List.flatten_cons] at h
    by_cases hj : j < es.length
    · rw [List.getElem?_append_left hj] at h
      exact ⟨0, j, es, rfl, by omega, by omega, h⟩
    · rw [List.getElem?_append_right (by omega)] at h
      obtain ⟨i, r, es', h1, h2, h3, h4⟩ := flatten_at (fun x hx => hs x (by simp [hx])) h
      exact ⟨i + 1, r, es', by simpa using h1, h2, by rw [Nat.succ_mul]; omega, h4⟩
theorem flatten_get {α : Type} {size : Nat} : ∀ {ess : List (List α)}, (∀ es ∈ ess, es.length = size) → ∀ {i r : Nat} {es : List α}, ess[i]? = some es → r < size → ess.flatten[i * size + r]? = es[r]?
  | [], _, i, r, es, h, _ => by simp at h
  | x :: ess, hs, 0, r, es, h, hr => by
    simp at h; subst h
    rw [List.flatten_cons, List.getElem?_append_left (by rw [hs x (by simp)]; omega)]
    simp
  | x :: ess, hs, i + 1, r, es, h, hr => by
    have hx := hs x (by simp)
    rw [List.flatten_cons, List.getElem?_append_right (by rw [Nat.succ_mul]; omega), hx, show (i + 1) * size + r - size = i * size + r by rw [Nat.succ_mul]; omega]
    exact flatten_get (fun y hy => hs y (by simp [hy])) (by simpa using h) hr
/-- a slice: its elements' cells -/
theorem Rdt.slice {size : Nat} (ht : P.underlying t = some (.slice e)) (hs : P.cellsOf e = size) (h : Rdt P W t cs) :
    ∃ v n, cs = [v] ∧ n ≤ maxLen ∧ ∃ ess : List (List Value), ess.length = n ∧ RdN W size v n ess.flatten ∧ ∀ es ∈ ess, es.length = size ∧ Rdt P W e es := by
  obtain ⟨H, enc, fuel, x, h⟩ := h
  rcases DataW.trod_slice ht h with ⟨h1, _⟩ | ⟨a, len, cap, elems, rest, n, _, h1, _, hb, hl, hm, hlen, hel, _, _⟩
  · exact ⟨_, 0, h1, by omega, [], rfl, ⟨by simp, none, 0, rfl, rfl⟩, by simp⟩
  · refine ⟨_, len, h1, by omega, ?_⟩
    obtain ⟨ess, hl2, hp⟩ := exists_list (n := len) (p := fun i es => W.cells? 0 (a.add (i * P.cellsOf e)) (P.cellsOf e) = some es ∧ Rdt P W e es) fun i hi => by
      have := hel i hi
      rw [List.getElem?_eq_getElem (by omega), Option.bind_eq_some_iff] at this
      obtain ⟨es, h2, h3⟩ := this
      exact ⟨es, h2, H, enc, n, _, h3⟩
    have hsz : ∀ es ∈ ess, es.length = size := by
      intro es hes
      obtain ⟨i, hi, rfl⟩ := List.getElem_of_mem hes
      have := (World.cells?_some (hp i _ (List.getElem?_eq_getElem hi)).1).2.1
      omega
    refine ⟨ess, hl2, ⟨?_, some a, cap, rfl, ?_⟩, fun es hes => ⟨hsz es hes, ?_⟩⟩
    · rw [flatten_len hsz, hl2]
    · intro j u hj
      obtain ⟨i, r, es, h1, h2, h3, h4⟩ := flatten_at hsz hj
      have := (World.cells?_some (hp i es h1).1).2.2 r (by omega)
      rw [add_add, h4, hs] at this
      rw [h3]; exact this
    · obtain ⟨i, hi, rfl⟩ := List.getElem_of_mem hes
      exact (hp i _ (List.getElem?_eq_getElem hi)).2
/-- an element's place -/
theorem rdN_at {w : World} {i : TypeInfo} {size k n : Nat} (ht : P.underlying t = some (.slice e)) (hi : P.info? e = some i) (hs : i.size = size) {v : Value} {xs : List Value} (h : RdN w size v n xs) (hk : k < n) :
    ∃ p : Addr, (∀ (w2 : World) (C : VCont), xIndexAddr P t v (.int .i64 k) w2 C = C (.pointer (some p)) w2) ∧ ∀ w', RdN w' size v n xs → ∀ j, j < size → w'.cell? (p.add j) = xs[k * size + j]? := by
  obtain ⟨hl, a, cap, rfl, hc⟩ := h
  cases a with
  | none => have : n = 0 := hc; omega
  | some g =>
    refine ⟨g.add (k * size), fun w2 C => xp_iff fun _ => ?_, fun w' h' j hj => ?_⟩
    · unfold Instr.indexAt
      simp only [asIntOf, Sem.run_bind, Sem.run_pure, Result.andThen_ok, run_underlying ht]
      rw [if_pos ⟨by omega, by omega⟩]
      simp [sizeOf, typeInfo, hi, hs]
    · obtain ⟨_, a, cap', he, h'⟩ := h'
      cases he
      have h3 : k * size + size ≤ n * size := by rw [← Nat.succ_mul]; exact Nat.mul_le_mul_right _ hk
      rw [add_add, List.getElem?_eq_getElem (by omega)]
      exact h' _ _ (List.getElem?_eq_getElem (by omega))
/-- bytes -/
theorem Rdt.bytes (ht : P.underlying t = some (.slice e)) (he : P.underlying e = some (.int .u8)) (hs : P.cellsOf e = 1) (h : Rdt P W t cs) : ∃ v, ∃ bs : List UInt8, cs = [v] ∧ Rd W v (bs.map bv) ∧ bs.length ≤ maxLen := by
  obtain ⟨v, n, h1, hn, ess, hl, hr, hes⟩ := h.slice ht hs
  obtain ⟨bs, hb1, hb2⟩ := exists_list (n := ess.length) (p := fun i (x : UInt8) => ess[i]? = some [bv x]) fun i hi => by
    obtain ⟨x, hx⟩ := (hes _ (List.getElem_mem hi)).2.u8 he
    exact ⟨x, by rw [List.getElem?_eq_getElem hi, hx]⟩
  have hess : ess = bs.map fun x => [bv x] := by
    refine List.ext_getElem? fun i => ?_
    rw [List.getElem?_map]
    by_cases hi : i < bs.length
    · rw [hb2 i _ (List.getElem?_eq_getElem hi), List.getElem?_eq_getElem hi]; rfl
    · rw [List.getElem?_eq_none (by omega), List.getElem?_eq_none (by omega)]; rfl
  have hfl : ess.flatten = bs.map bv := by
    rw [hess]
    clear hess hb2 hb1
    induction bs with
    | nil => rfl
    | cons x bs ih => simp [ih]
  rw [hfl] at hr
  refine ⟨v, bs, h1, ?_, by omega⟩
  obtain ⟨hl2, a, cap, rfl, hc⟩ := hr
  have hln : (bs.map bv).length = n := by simpa using hl2
  -- the capacity
  obtain ⟨H, enc, fuel, x, h⟩ := h
  rcases DataW.trod_slice ht h with ⟨h1', _⟩ | ⟨a', len, cap', elems, rest, n', _, h1', _, hb, hlc, hm, _⟩
  · rw [h1] at h1'; cases h1'
    exact ⟨none, 0, by rw [hln], by omega, List.eq_nil_of_length_eq_zero (by omega)⟩
  · rw [h1] at h1'; cases h1'
    exact ⟨_, _, by rw [hln], by omega, hc⟩
def fieldOk (P : Program) (t : TypeId) (i : Nat) (ft : TypeId) (off sz : Nat) : Bool := match P.underlying t with
  | some (.struct fs) => match fs[i]? with
    | some f => Nat.beq f.type ft && Nat.beq f.offset off && Nat.beq (P.cellsOf ft) sz
    | none => false
  | _ => false
/-- a struct's field -/
theorem Rdt.field {i ft off sz : Nat} (hf : fieldOk P t i ft off sz = true) (h : Rdt P W t cs) : Rdt P W ft ((cs.drop off).take sz) := by
  unfold fieldOk at hf
  split at hf
  · rename_i fs hu
    split at hf
    · rename_i f hff
      simp only [Bool.and_eq_true] at hf
      obtain ⟨⟨h1, h2⟩, h3⟩ := hf
      have h1 := Nat.eq_of_beq_eq_true h1
      have h2 := Nat.eq_of_beq_eq_true h2
      have h3 := Nat.eq_of_beq_eq_true h3
      subst h1; subst h2; subst h3
      exact (h.struct hu).2 i f hff
    · cases hf
  · cases hf
def structOk (P : Program) (t : TypeId) (n : Nat) : Bool := match P.underlying t with
  | some (.struct _) => Nat.beq (P.cellsOf t) n
  | _ => false
theorem Rdt.len {n : Nat} (hf : structOk P t n = true) (h : Rdt P W t cs) : cs.length = n := by
  unfold structOk at hf
  split at hf
  · rename_i fs hu
    rw [(h.struct hu).1]
    exact Nat.eq_of_beq_eq_true hf
  · cases hf
end
end Go.Sx
end
section
/- What is only read; calls of function values; parts of slices that are read. -/
set_option linter.unusedVariables false
set_option linter.unusedSimpArgs false
namespace Go.Sx
open Go
/-- a fact that hangs on the blocks that are owned, and on nothing else -/
def RoA (p : World → Prop) : Asn where
  holds w F := (∀ b, F b → b < w.heap.size) ∧ ∀ w' : World, (∀ b, F b → w'.heap[b]? = w.heap[b]?) → p w'
  keep := fun {w w' S F} h hc hn => ⟨fun b hb => Nat.lt_of_lt_of_le (h.1 b hb) hc.size, fun w'' hw => h.2 w'' fun b hb => (hw b hb).trans (hc.block b (h.1 b hb) (hn b hb))⟩
  lt := fun h hb => h.1 _ hb
theorem Rd.same {w w' : World} {v : Value} {xs : List Value} (h : Rd w v xs) (hb : ∀ b, v.ownBlock = some b → w'.heap[b]? = w.heap[b]?) : Rd w' v xs := by
  obtain ⟨a, cap, rfl, hl, h⟩ := h
  refine ⟨a, cap, rfl, hl, ?_⟩
  cases a with
  | none => exact h
  | some g =>
    intro i u hu
    have hab : (g.add i).block = g.block := by unfold Addr.add; split <;> rfl
    exact (World.cell?_of_block (by rw [hab]; exact hb _ rfl)).trans (h i u hu)
section
variable {P : Program} {w : World} {K : VCont} {l : List Asn} {p q : World → Prop}
theorem Hp.ro (h : Hp w (RoA p :: l)) : p w := by
  obtain ⟨F, h1⟩ := h.head; exact h1.2 w fun _ _ => rfl
theorem Hp.roAt (i : Nat) (h : Hp w l) (hi : l[i]? = some (RoA p)) : p w := by
  obtain ⟨F, h1⟩ := h.mem (List.mem_of_getElem? hi)
  exact h1.2 w fun _ _ => rfl
theorem Hp.roMono (h : Hp w (RoA p :: l)) (hpq : ∀ w, p w → q w) : Hp w (RoA q :: l) := by
  obtain ⟨F, h1, h2, h3⟩ := h
  exact ⟨F, ⟨h1.1, fun w' hw => hpq w' (h1.2 w' hw)⟩, h2, h3⟩
theorem Hp.roAnd (h : Hp w (RoA p :: RoA q :: l)) : Hp w (RoA (fun w => p w ∧ q w) :: l) := by
  obtain ⟨F, h1, h2, G, k1, k2, k3⟩ := h
  refine ⟨fun b => F b ∨ G b, ⟨fun b hb => hb.elim (h1.1 b) (k1.1 b), fun w' hw => ⟨h1.2 w' fun b hb => hw b (.inl hb), k1.2 w' fun b hb => hw b (.inr hb)⟩⟩, fun _ _ => trivial, k3.mono fun b hb => ⟨trivial, fun e => e.elim hb.1.2 hb.2⟩⟩
theorem Own.same {w w' : World} {e size n : Nat} {v : Value} {xs : List Value} (h : Own w e size v n xs) (hb : ∀ b, v.ownBlock = some b → w'.heap[b]? = w.heap[b]?) : Own w' e size v n xs := by
  obtain ⟨h1, h2⟩ := h
  refine ⟨h1, ?_⟩
  rcases h2 with h2 | ⟨g, cap, cur, rfl, hg, r⟩
  · exact .inl h2
  · exact .inr ⟨g, cap, cur, rfl, (hb g rfl).trans hg, r⟩
theorem Hp.ofSl {e size n : Nat} {v : Value} {xs : List Value} (h : Hp w (SlA e size v n xs :: l)) : Hp w (RoA (fun w => Own w e size v n xs) :: l) := by
  obtain ⟨F, h1, h2, h3⟩ := h
  exact ⟨F, ⟨fun b hb => h1.1.lt ((h1.2 b).1 hb), fun w' hw => h1.1.same fun b hb => hw b ((h1.2 b).2 hb)⟩, h2, h3⟩
theorem Hp.roTrue (h : Hp w l) (hp : ∀ w, p w) : Hp w (RoA p :: l) := h.new (A := RoA p) (F := fun _ => False) ⟨fun _ h => h.elim, fun w' _ => hp w'⟩ (fun _ h => h.elim) (Chg.refl _ _)
theorem xCallV_func (f : FuncId) (cs : List Value) (args : List Value) : xCallV P (.func (.func f) #[] cs.toArray) args w K = xCall P f (args ++ cs) w K := by
  unfold xCallV xCall
  have : (do let d ← Deferred.ofValue (.func (.func f) #[] cs.toArray) args.toArray; invoke d.target d.args : Sem Next) = callFunc f (args ++ cs).toArray := by
    simp [Deferred.ofValue, invoke]
  rw [this]
/-- a part of a slice that is read -/
theorem slice_rd {t e : TypeId} {i : TypeInfo} (ht : P.underlying t = some (.slice e)) (hi : P.info? e = some i) (hs : i.size = 1) {v : Value} {xs : List Value} (h : Rd w v xs) {lo hi' : Nat} (h1 : lo ≤ hi') (h2 : hi' ≤ xs.length) :
    ∃ v', (∀ (w2 : World) (C : VCont), xSlice P t v (some (.int .i64 lo)) (some (.int .i64 hi')) none w2 C = C v' w2) ∧ ∀ w', Rd w' v xs → Rd w' v' ((xs.take hi').drop lo) := by
  obtain ⟨a, cap, rfl, hl, _⟩ := h
  have hlen : ((xs.take hi').drop lo).length = hi' - lo := by rw [List.length_drop, List.length_take]; omega
  refine ⟨.slice (if cap = lo then a else a.map (·.add (lo * i.size))) (hi' - lo) (cap - lo), fun w2 C => ?_, fun w' hr => ?_⟩
  · rw [xSlice_slice ht hi (bounds_lohi (by omega) (by omega) (by omega))]
    simp only [Int.toNat_natCast]
  · obtain ⟨a', cap', he, _, hc⟩ := hr
    cases he
    refine ⟨_, _, by rw [hlen], by rw [hlen]; omega, ?_⟩
    cases a with
    | none =>
      have hx : xs = [] := hc
      subst hx
      have : (if cap = lo then (none : Option Addr) else Option.map (fun x : Addr => x.add (lo * i.size)) none) = none := by split <;> rfl
      rw [this]
      simp
    | some g =>
      by_cases hcl : cap = lo
      · rw [if_pos hcl]
        intro j u hj
        have := (List.getElem?_eq_some_iff.1 hj).1
        omega
      · rw [if_neg hcl]
        intro j u hj
        rw [List.getElem?_drop, List.getElem?_take] at hj
        split at hj
        · rw [hs, Nat.mul_one, add_add]; exact hc _ u hj
        · cases hj
theorem tail_rd {t e : TypeId} {i : TypeInfo} (ht : P.underlying t = some (.slice e)) (hi : P.info? e = some i) (hs : i.size = 1) {v : Value} {xs : List Value} (h : Rd w v xs) {lo : Nat} (h1 : lo ≤ xs.length) :
    ∃ v', (∀ (w2 : World) (C : VCont), xSlice P t v (some (.int .i64 lo)) none none w2 C = C v' w2) ∧ ∀ w', Rd w' v xs → Rd w' v' (xs.drop lo) := by
  obtain ⟨v', h2, h3⟩ := slice_rd (P := P) ht hi hs h (lo := lo) (hi' := xs.length) h1 (Nat.le_refl _)
  refine ⟨v', fun w2 C => ?_, fun w' hr => by have := h3 w' hr; rwa [List.take_length] at this⟩
  rw [← h2 w2 C]
  obtain ⟨a, cap, rfl, hl, _⟩ := h
  rw [xSlice_slice ht hi (bounds_lo (by omega) (by omega)), xSlice_slice ht hi (bounds_lohi (by omega) (by omega) (by omega))]
  simp
/-- an element that is read -/
theorem at_rd {t e : TypeId} {i : TypeInfo} (ht : P.underlying t = some (.slice e)) (hi : P.info? e = some i) (hs : i.size = 1) {v : Value} {k : Nat} {xs : List Value} (h : Rd w v xs) (hk : k < xs.length) :
    ∃ p : Addr, (∀ (w2 : World) (C : VCont), xIndexAddr P t v (.int .i64 k) w2 C = C (.pointer (some p)) w2) ∧ ∀ w', Rd w' v xs → w'.cell? p = some xs[k] := by
  obtain ⟨p, h1, h2⟩ := rdN_at (P := P) (size := 1) ht hi hs h.rdN hk
  refine ⟨p, h1, fun w' hr => ?_⟩
  have := h2 w' hr.rdN 0 (by omega)
  have h0 : p.add 0 = p := rfl
  rw [h0] at this
  rw [this]; simp
end
end Go.Sx
end
section
/- Numbers as groups of seven bits: the pure side. -/
set_option linter.unusedVariables false
set_option linter.unusedSimpArgs false
namespace Go.Proofs.Ytamejkogghpbhaa
open Go.Sx
def vintF : Nat → Nat → List UInt8
  | 0, n => [UInt8.ofNat n]
  | k + 1, n => if n < 128 then [UInt8.ofNat n] else UInt8.ofNat (n % 128 + 128) :: vintF k (n / 128)
def vint (n : Nat) : List UInt8 := vintF 9 n
def zig (v : Int) : Nat := if 0 ≤ v then (2 * v).toNat else (-2 * v - 1).toNat
theorem vintF_len : ∀ (k n : Nat), 1 ≤ (vintF k n).length ∧ (vintF k n).length ≤ k + 1
  | 0, n => by simp [vintF]
  | k + 1, n => by
    unfold vintF
    split
    · simp
    · have := vintF_len k (n / 128)
      simp only [List.length_cons]; omega
theorem vint_len (n : Nat) : 1 ≤ (vint n).length ∧ (vint n).length ≤ 10 := vintF_len 9 n
theorem vintF_small {k n : Nat} (h : n < 128) : vintF k n = [UInt8.ofNat n] := by
  cases k <;> simp [vintF, h]
theorem u8_or (n : Nat) : UInt8.ofNat n ||| 128 = UInt8.ofNat (n % 128 + 128) := by
  have h : ∀ x : Fin 256, UInt8.ofNat x.val ||| 128 = UInt8.ofNat (x.val % 128 + 128) := by decide +kernel
  have h1 := h ⟨n % 256, Nat.mod_lt _ (by omega)⟩
  have e1 : UInt8.ofNat (n % 256) = UInt8.ofNat n := by
    apply UInt8.toNat_inj.1; simp
  simp only at h1
  rw [e1] at h1
  rw [h1]
  congr 2
  omega
theorem u8_and (n : Nat) (h : n < 256) : (UInt8.ofNat n &&& 127) = UInt8.ofNat (n % 128) := by
  have h : ∀ x : Fin 256, UInt8.ofNat x.val &&& 127 = UInt8.ofNat (x.val % 128) := by decide +kernel
  exact h ⟨n, by omega⟩
/-! operations on numbers below 2^64 -/
section
variable {P : Program} {w : World} {K : VCont} {t : TypeId}
abbrev un (n : Nat) : Value := .int .u64 (n : Int)
theorem or_un (a b : Nat) (ha : a < 2 ^ 64) (hb : b < 2 ^ 64) : xBin P .or t (un a) (un b) w K = K (un (a ||| b)) w := by
  rw [xBin_or]
  have h : ((BitVec.ofInt IntKind.u64.bits (a : Int) ||| BitVec.ofInt IntKind.u64.bits (b : Int)).toNat : Nat) = a ||| b := by
    show (BitVec.ofInt 64 (a : Int) ||| BitVec.ofInt 64 (b : Int)).toNat = a ||| b
    rw [BitVec.ofInt_natCast, BitVec.ofInt_natCast, BitVec.toNat_or, BitVec.toNat_ofNat, BitVec.toNat_ofNat, Nat.mod_eq_of_lt ha, Nat.mod_eq_of_lt hb]
  rw [h, wrap_u64 (by omega) (by have := Nat.or_lt_two_pow ha hb; omega)]
theorem and1_un (a : Nat) (ha : a < 2 ^ 64) : xBin P .and t (un a) (.int .u64 1) w K = K (un (a % 2)) w := by
  rw [xBin_and]
  have h : ((BitVec.ofInt IntKind.u64.bits (a : Int) &&& BitVec.ofInt IntKind.u64.bits (1 : Int)).toNat : Nat) = a % 2 := by
    show (BitVec.ofInt 64 (a : Int) &&& BitVec.ofInt 64 ((1 : Nat) : Int)).toNat = a % 2
    rw [BitVec.ofInt_natCast, BitVec.ofInt_natCast, BitVec.toNat_and, BitVec.toNat_ofNat, BitVec.toNat_ofNat, Nat.mod_eq_of_lt ha]
    exact Nat.and_two_pow_sub_one_eq_mod a 1
  rw [h, wrap_u64 (by omega) (by omega)]
theorem shr_un (k : IntKind) (a : Nat) (n : Nat) (hn : n ≤ 64) : xBin P .shr t (un a) (.int k n) w K = K (un (a / 2 ^ n)) w := by
  rw [xBin_shr _ _ _ _ _ (by omega)]
  have h1 : min ((n : Int)).toNat IntKind.u64.bits = n := by show min ((n : Int)).toNat 64 = n; omega
  rw [h1]
  have h2 : (a : Int).fdiv (2 ^ n) = ((a / 2 ^ n : Nat) : Int) := by
    rw [Int.fdiv_eq_ediv_of_nonneg _ (by have : (0:Int) < 2 ^ n := Int.pow_pos (by omega); omega)]
    simp
  rw [h2]
theorem shl_un (k : IntKind) (a : Nat) (n : Nat) (hn : n ≤ 64) (h : a * 2 ^ n < 2 ^ 64) : xBin P .shl t (un a) (.int k n) w K = K (un (a <<< n)) w := by
  rw [xBin_shl _ _ _ _ _ (by omega)]
  have h1 : min ((n : Int)).toNat IntKind.u64.bits = n := by show min ((n : Int)).toNat 64 = n; omega
  rw [h1, Nat.shiftLeft_eq]
  have h2 : (a : Int) * 2 ^ n = ((a * 2 ^ n : Nat) : Int) := by simp
  rw [h2, wrap_u64 (by omega) (by omega)]
theorem conv_un_u8 {s d : TypeId} (hs : P.underlying s = some (.int .u64)) (hd : P.underlying d = some (.int .u8)) (n : Nat) : xConvK P .pure s d (un n) w K = K (bv (UInt8.ofNat n)) w := by
  rw [xConv_int s d .u8 .u64 _ hs hd]
  unfold bv
  congr 2
theorem conv_u8_un {s d : TypeId} (hs : P.underlying s = some (.int .u8)) (hd : P.underlying d = some (.int .u64)) (x : UInt8) : xConvK P .pure s d (bv x) w K = K (un x.toNat) w := by
  unfold bv
  rw [xConv_int s d .u64 .u8 _ hs hd]
  have : x.toNat < 256 := x.toNat_lt
  rw [wrap_u64 (by omega) (by omega)]
theorem or_u8 (x y : UInt8) : xBin P .or t (bv x) (bv y) w K = K (bv (x ||| y)) w := by
  unfold bv
  rw [xBin_or]
  have h : ((BitVec.ofInt IntKind.u8.bits (x.toNat : Int) ||| BitVec.ofInt IntKind.u8.bits (y.toNat : Int)).toNat : Nat) = (x ||| y).toNat := by
    show (BitVec.ofInt 8 (x.toNat : Int) ||| BitVec.ofInt 8 (y.toNat : Int)).toNat = (x ||| y).toNat
    have hx : x.toNat < 256 := x.toNat_lt
    have hy : y.toNat < 256 := y.toNat_lt
    rw [BitVec.ofInt_natCast, BitVec.ofInt_natCast, BitVec.toNat_or, BitVec.toNat_ofNat, BitVec.toNat_ofNat, Nat.mod_eq_of_lt (by omega), Nat.mod_eq_of_lt (by omega), UInt8.toNat_or]
  have : (x ||| y).toNat < 256 := (x ||| y).toNat_lt
  rw [h, wrap_u8 (by omega) (by omega)]
theorem and_u8 (x y : UInt8) : xBin P .and t (bv x) (bv y) w K = K (bv (x &&& y)) w := by
  unfold bv
  rw [xBin_and]
  have h : ((BitVec.ofInt IntKind.u8.bits (x.toNat : Int) &&& BitVec.ofInt IntKind.u8.bits (y.toNat : Int)).toNat : Nat) = (x &&& y).toNat := by
    show (BitVec.ofInt 8 (x.toNat : Int) &&& BitVec.ofInt 8 (y.toNat : Int)).toNat = (x &&& y).toNat
    have hx : x.toNat < 256 := x.toNat_lt
    have hy : y.toNat < 256 := y.toNat_lt
    rw [BitVec.ofInt_natCast, BitVec.ofInt_natCast, BitVec.toNat_and, BitVec.toNat_ofNat, BitVec.toNat_ofNat, Nat.mod_eq_of_lt (by omega), Nat.mod_eq_of_lt (by omega), UInt8.toNat_and]
  have : (x &&& y).toNat < 256 := (x &&& y).toNat_lt
  rw [h, wrap_u8 (by omega) (by omega)]
/-- uint64(v)<<1 ^ uint64(v>>63), of v that is no less than nothing -/
theorem zig_pos {ti64 tu64 : TypeId} (hs : P.underlying ti64 = some (.int .i64)) (hd : P.underlying tu64 = some (.int .u64)) (v : Int) (h0 : 0 ≤ v) (h1 : v ≤ 9223372036854775807) :
    (xConvK P .pure ti64 tu64 (.int .i64 v) w fun t2 w => xBin P .shl tu64 t2 (.int .u64 1) w fun t3 w => xBin P .shr ti64 (.int .i64 v) (.int .u64 63) w fun t4 w => xConvK P .pure ti64 tu64 t4 w fun t5 w => xBin P .xor tu64 t3 t5 w K) = K (un (zig v)) w := by
  obtain ⟨n, rfl⟩ : ∃ n : Nat, v = n := ⟨v.toNat, by omega⟩
  rw [xConv_int _ _ .u64 .i64 _ hs hd, wrap_u64 (by omega) (by omega)]
  have e1 : ∀ K : VCont, xBin P .shl tu64 (.int .u64 (n : Int)) (.int .u64 1) w K = K (un (n <<< 1)) w := fun K => shl_un .u64 n 1 (by omega) (by omega)
  rw [e1]
  have e2 : ∀ K : VCont, xBin P .shr ti64 (.int .i64 (n : Int)) (.int .u64 63) w K = K (.int .i64 0) w := fun K => by
    rw [xBin_shr _ _ _ _ _ (by omega)]
    have h1 : min ((63 : Int)).toNat IntKind.i64.bits = 63 := rfl
    rw [h1]
    have h2 : (n : Int).fdiv (2 ^ 63) = 0 := by
      rw [Int.fdiv_eq_ediv_of_nonneg _ (by omega)]
      omega
    rw [h2]
  rw [e2, xConv_int _ _ .u64 .i64 _ hs hd, wrap_u64 (by omega) (by omega), xBin_xor]
  have h3 : ((BitVec.ofInt IntKind.u64.bits ((n <<< 1 : Nat) : Int) ^^^ BitVec.ofInt IntKind.u64.bits (0 : Int)).toNat : Nat) = zig n := by
    show (BitVec.ofInt 64 ((n <<< 1 : Nat) : Int) ^^^ BitVec.ofInt 64 ((0 : Nat) : Int)).toNat = zig n
    rw [BitVec.ofInt_natCast, BitVec.ofInt_natCast, BitVec.toNat_xor, BitVec.toNat_ofNat, BitVec.toNat_ofNat]
    unfold zig
    rw [if_pos (by omega), Nat.shiftLeft_eq]
    simp
    omega
  rw [h3]
  have h4 : zig n < 2 ^ 64 := by unfold zig; rw [if_pos (by omega)]; omega
  rw [wrap_u64 (by omega) (by omega)]
end
end Go.Proofs.Ytamejkogghpbhaa
end
section
/- Writers; numbers that are read again. -/
set_option linter.unusedVariables false
set_option linter.unusedSimpArgs false
namespace Go.Proofs.Ytamejkogghpbhaa
open Go.Sx
def WrA (p : Nat) (bs : List UInt8) : Asn := ExA fun sv => StarA [BlkA p ty.pack_Writer [sv], SlA ty.uint8 1 sv bs.length (bs.map bv)]
theorem WrA.op {w : World} {l : List Asn} {p : Nat} {bs : List UInt8} : Hp w (WrA p bs :: l) ↔ ∃ sv, Hp w (BlkA p ty.pack_Writer [sv] :: SlA ty.uint8 1 sv bs.length (bs.map bv) :: l) :=
  Hp.ex.trans (exists_congr fun _ => Hp.star2)
section
variable {w : World} {K : VCont} {l : List Asn} {p : Nat} {bs : List UInt8}
/-- one byte more -/
theorem push_u8 {v : Value} {n : Nat} (h : Hp w (SlA ty.uint8 1 v n (bs.map bv) :: l)) (hn : n ≤ 100000000) (x : UInt8) (hK : ∀ v' w', Hp w' (SlA ty.uint8 1 v' (n + 1) ((bs ++ [x]).map bv) :: l) → K v' w') :
    xBuildSlice P ty.s_uint8 1 [(0, bv x)] w fun t w => xBuiltin P .append #[ty.s_uint8, ty.s_uint8] ty.s_uint8 [false, false] [v, t] w K := by
  refine Hp.sl1 (size := 1) und.s_uint8 inf.uint8 rfl (by omega) (by omega) rfl rfl h (cs := [bv x]) rfl rfl ?_
  intro v1 w1 h
  refine Hp.app (size := 1) (bytes := 1) und.s_uint8 inf.uint8 rfl rfl rfl rfl h.pick1 h.own.rdN (by simp [bv, Value.oneCell']) (by omega) (by omega) ?_
  intro v2 w2 h
  refine hK v2 w2 ?_
  have := h.pick1.tail
  rw [List.map_append]
  exact this
theorem Writer_Int_hp (h : Hp w (WrA p bs :: l)) (v : Int) (h0 : 0 ≤ v) (h1 : v ≤ 9223372036854775807) (hl : bs.length ≤ 10000000) (hK : ∀ w', Hp w' (WrA p (bs ++ vint (zig v)) :: l) → K (.tuple #[]) w') : xCall P nr.pack_Writer_Int [ptr p, i64 v] w K := by
  refine pack_Writer_Int_call ?_
  unfold pack_Writer_Int_main
  rw [xEq_ptr und.p_pack_Writer]
  simp only [xs, xd, Option.isNone_some]
  rw [zig_pos und.int64 und.uint64 v h0 h1]
  have hz : zig v < 2 ^ 64 := by unfold zig; rw [if_pos h0]; omega
  refine Lp.gen (fun n s w' => ∃ (m : Nat) (cs : List UInt8), s = [un m] ∧ m < 2 ^ (7 * (n + 1)) ∧ m < 2 ^ 64 ∧ cs ++ vintF n m = bs ++ vint (zig v) ∧ cs.length + n = bs.length + 9 ∧ Hp w' (WrA p cs :: l)) 9 ⟨zig v, bs, rfl, by omega, hz, rfl, rfl, h⟩ ?_
  rintro n s w1 ⟨m, cs, rfl, hm, hm64, he, hc, h⟩ X hX
  obtain ⟨sv, h⟩ := WrA.op.1 h
  unfold pack_Writer_Int_l1
  simp only [List.getD_cons_zero, xs, xb, xd]
  by_cases h128 : (128 : Int) ≤ (m : Int)
  · simp only [h128, xs, xb, xd, Nat.zero_add, h.c0, List.getElem?_cons_zero]
    rw [conv_un_u8 und.uint64 und.uint8]
    have e1 : ∀ (w : World) (K : VCont), xBin P .or ty.uint8 (bv (UInt8.ofNat m)) (.int .u8 128) w K = K (bv (UInt8.ofNat (m % 128 + 128))) w := fun w K => by rw [← u8_or]; exact or_u8 _ 128
    rw [e1]
    refine push_u8 h.pick1 (by omega) _ ?_
    intro v2 w2 h
    refine Hp.st h.pick1 inf.s_uint8 rfl h.own.one (by simp) ?_
    intro w3 h
    have e2 : ∀ (w : World) (K : VCont), xBin P .shr ty.uint64 (un m) (.int .u64 7) w K = K (un (m / 128)) w := fun w K => shr_un .u64 m 7 (by omega)
    rw [e2]
    cases n with
    | zero => omega
    | succ n =>
      refine hX n _ _ ⟨m / 128, cs ++ [UInt8.ofNat (m % 128 + 128)], rfl, ?_, by omega, ?_, by simp; omega, WrA.op.2 ⟨v2, ?_⟩⟩ (by omega)
      · rw [Nat.div_lt_iff_lt_mul (by omega)]
        have : 2 ^ (7 * (n + 1 + 1)) = 2 ^ (7 * (n + 1)) * 128 := by rw [show 7 * (n + 1 + 1) = 7 * (n + 1) + 7 by omega, Nat.pow_add]
        omega
      · rw [← he]
        unfold vintF
        rw [if_neg (by omega)]
        cases n <;> simp [vintF]
      · simpa using h
  · simp only [h128, xs, xb, xd]
    unfold pack_Writer_Int_j0
    simp only [xs, xb, xd, Nat.zero_add, h.c0, List.getElem?_cons_zero]
    rw [conv_un_u8 und.uint64 und.uint8]
    refine push_u8 h.pick1 (by omega) _ ?_
    intro v2 w2 h
    refine Hp.st h.pick1 inf.s_uint8 rfl h.own.one (by simp) ?_
    intro w3 h
    refine hK w3 (WrA.op.2 ⟨v2, ?_⟩)
    rw [← he, vintF_small (by omega)]
    simpa using h
theorem Writer_Bytes_hp (h : Hp w (WrA p bs :: l)) (hl : bs.length ≤ 10000000) (hK : ∀ v w', Hp w' (SlA ty.uint8 1 v bs.length (bs.map bv) :: WrA p bs :: l) → K v w') : xCall P nr.pack_Writer_Bytes [ptr p] w K := by
  refine pack_Writer_Bytes_call ?_
  unfold pack_Writer_Bytes_main
  rw [xEq_ptr und.p_pack_Writer]
  simp only [xs, xd, Option.isNone_some]
  refine Hp.sl0 (size := 1) und.s_uint8 inf.uint8 rfl h ?_
  intro v1 w1 h
  obtain ⟨sv, h⟩ := WrA.op.1 h.pick1
  simp only [xs, Nat.zero_add, h.c0, List.getElem?_cons_zero]
  refine Hp.app (size := 1) (bytes := 1) und.s_uint8 inf.uint8 rfl rfl rfl rfl h.pick2 h.pick1.own.rdN (bv_one _) (by omega) (by omega) ?_
  intro v2 w2 h
  refine hK v2 w2 (Hp.pick1 (WrA.op.2 ⟨sv, ?_⟩))
  simpa using h.put2
/-- a new writer -/
theorem Writer_new (h : Hp w l) (hK : ∀ p w', Hp w' (WrA p [] :: l) → K (ptr p) w') : xAlloc P ty.pack_Writer w K := by
  refine Hp.alloc (cs := [.slice none 0 0]) h inf.pack_Writer rfl rfl ?_
  intro p w1 h
  refine hK p w1 (WrA.op.2 ⟨.slice none 0 0, ?_⟩)
  exact (h.new (A := SlA ty.uint8 1 (.slice none 0 0) 0 []) (F := fun _ => False) ⟨Own.nil _ _ _, fun b => by simp [Value.ownBlock]⟩ (fun _ h => h.elim) (Chg.refl _ _)).pick1
end
end Go.Proofs.Ytamejkogghpbhaa
end
section
/- Readers: of what writers wrote. -/
set_option linter.unusedVariables false
set_option linter.unusedSimpArgs false
namespace Go.Proofs.Ytamejkogghpbhaa
open Go.Sx
def RdrA (p : Nat) (bs : List UInt8) : Asn := ExA fun v => StarA [BlkA p ty.pack_Reader [v, .bool false], RoA fun w => Rd w v (bs.map bv)]
theorem RdrA.op {w : World} {l : List Asn} {p : Nat} {bs : List UInt8} : Hp w (RdrA p bs :: l) ↔ ∃ v, Hp w (BlkA p ty.pack_Reader [v, .bool false] :: RoA (fun w => Rd w v (bs.map bv)) :: l) :=
  Hp.ex.trans (exists_congr fun _ => Hp.star2)
theorem or_low (a b k : Nat) (h : a < 2 ^ k) : a ||| (b <<< k) = a + b * 2 ^ k := by
  rw [Nat.or_comm, ← Nat.shiftLeft_add_eq_or_of_lt h, Nat.shiftLeft_eq, Nat.add_comm]
theorem mod_next (n i : Nat) : n % 2 ^ (7 * i) + n / 2 ^ (7 * i) % 128 * 2 ^ (7 * i) = n % 2 ^ (7 * (i + 1)) := by
  rw [show 7 * (i + 1) = 7 * i + 7 by omega, Nat.pow_add, Nat.mod_mul, Nat.mul_comm (2 ^ (7 * i))]
theorem div_next (n i : Nat) : n / 2 ^ (7 * i) / 128 = n / 2 ^ (7 * (i + 1)) := by
  rw [Nat.div_div_eq_div_mul, show 7 * (i + 1) = 7 * i + 7 by omega, Nat.pow_add]
section
variable {w : World} {K : VCont} {l : List Asn} {p : Nat} {bs : List UInt8}
theorem groups_spec {v : Value} {n : Nat} {rest : List UInt8} (hr : Rd w v (bs.map bv)) (hb : bs = vint n ++ rest) (hl : bs.length ≤ 10000000) (hn : n < 2 ^ 64) (hK : K (.tuple #[un n, i64 (vint n).length]) w) : xCall P nr.pack_groups [v] w K := by
  refine pack_groups_call ?_
  unfold pack_groups_main
  rw [rd_len hr und.s_uint8]
  simp only [xs, xb, xd, List.length_map]
  have hmin : min (bs.length : Int) 10 = ((min bs.length 10 : Nat) : Int) := by omega
  rw [hmin]
  refine Lp.gen (fun k s w' => w' = w ∧ ∃ i rs, k + i = 9 ∧ s = [un (n % 2 ^ (7 * i)), i64 i] ∧ bs.drop i = vintF k (n / 2 ^ (7 * i)) ++ rest ∧ (vint n).length = i + (vintF k (n / 2 ^ (7 * i))).length ∧ (i = 0 ∨ 1 ≤ n / 2 ^ (7 * i)) ∧ rs = rest) 9
    ⟨rfl, 0, rest, rfl, by simp [Nat.mod_one], by simpa [vint] using hb, by simp [vint], .inl rfl, rfl⟩ ?_
  rintro k s w' ⟨rfl, i, rs, hki, rfl, hd, hv, h0, rfl⟩ X hX
  unfold pack_groups_l1
  simp only [List.getD_cons_zero, List.getD_cons_succ, xs, xb, xd]
  generalize hm : n / 2 ^ (7 * i) = m at hd hv h0
  have hlen := vintF_len k m
  have hdl := congrArg List.length hd
  rw [List.length_drop, List.length_append] at hdl
  have hlt : i < bs.length := by omega
  have h1 : (i : Int) < ((min bs.length 10 : Nat) : Int) := by omega
  -- the byte
  have hc : ∀ x r, vintF k m = x :: r → bs[i] = x := by
    intro x r hx
    have : bs.drop i = bs[i] :: bs.drop (i + 1) := List.drop_eq_getElem_cons hlt
    rw [hx, List.cons_append] at hd
    rw [this] at hd
    exact (List.cons.inj hd).1
  have hm64 : m < 2 ^ (64 - 7 * i) := by
    rw [← hm, Nat.div_lt_iff_lt_mul (Nat.two_pow_pos _), ← Nat.pow_add]
    rw [show 64 - 7 * i + 7 * i = 64 by omega]; exact hn
  have hacc : n % 2 ^ (7 * i) < 2 ^ (7 * i) := Nat.mod_lt _ (Nat.two_pow_pos _)
  have hpow : 2 ^ (7 * i) ≤ 2 ^ 63 := Nat.pow_le_pow_right (by omega) (by omega)
  have hmul : IntKind.i64.wrap (7 * (i : Int)) = ((7 * i : Nat) : Int) := by rw [wrap_i64 (by omega) (by omega)]; omega
  simp only [h1, xs, xb, xd]
  rw [index_rd und.s_uint8 inf.uint8 rfl hr (x := bv bs[i]) (by simp [hlt]) (fun _ h => h)]
  -- what the or makes
  have step : ∀ c : Nat, c = m % 128 → n % 2 ^ (7 * i) ||| c <<< (7 * i) = n % 2 ^ (7 * (i + 1)) ∧ c * 2 ^ (7 * i) < 2 ^ 64 := by
    intro c hcm
    have : c * 2 ^ (7 * i) ≤ n := by
      rw [hcm, ← hm]
      exact Nat.le_trans (Nat.mul_le_mul_right _ (Nat.mod_le _ _)) (Nat.div_mul_le_self _ _)
    refine ⟨?_, by omega⟩
    rw [or_low _ _ _ hacc, hcm, ← hm]
    exact mod_next n i
  have shl : ∀ (c : Nat), c * 2 ^ (7 * i) < 2 ^ 64 → ∀ (w : World) (K : VCont), xBin P .shl ty.uint64 (un c) (.int .u64 ((7 * i : Nat) : Int)) w K = K (un (c <<< (7 * i))) w := fun c hc w K => shl_un .u64 c (7 * i) (by omega) hc
  have cv : ∀ (w : World) (K : VCont), xConvK P .pure ty.int ty.uint (.int .i64 ((7 * i : Nat) : Int)) w K = K (.int .u64 ((7 * i : Nat) : Int)) w := fun w K => by
    rw [xConv_int _ _ .u64 .i64 _ und.int und.uint, wrap_u64 (by omega) (by omega)]
  have a127 : ∀ (x : UInt8) (w : World) (K : VCont), xBin P .and ty.uint8 (bv x) (.int .u8 127) w K = K (bv (x &&& 127)) w := fun x w K => and_u8 x 127
  have gt1 : ∀ (x : UInt8) (w : World) (K : VCont), xBin P .gtr ty.uint8 (bv x) (.int .u8 1) w K = K (.bool (decide (1 < (x.toNat : Int)))) w := fun x w K => xBin_gtr _ _ _ _
  have lt128 : ∀ (x : UInt8) (w : World) (K : VCont), xBin P .lss ty.uint8 (bv x) (.int .u8 128) w K = K (.bool (decide ((x.toNat : Int) < 128))) w := fun x w K => xBin_lss _ _ _ _
  have eq0 : ∀ (x : UInt8) (w : World) (K : VCont), xEq P .eql ty.uint8 false true (bv x) (.int .u8 0) w K = K (.bool (decide ((x.toNat : Int) = 0))) w := fun x w K => xEq_int _ _ _ _ _ _
  have low : ∀ (x : UInt8), x.toNat % 128 = m % 128 → ∀ (w : World) (K : VCont), xConvK P .pure ty.uint8 ty.uint64 (bv (x &&& 127)) w K = K (un (m % 128)) w := fun x hx w K => by
    rw [conv_u8_un und.uint8 und.uint64]
    have h127 : (x &&& 127).toNat = x.toNat % 128 := by
      rw [UInt8.toNat_and]
      exact Nat.and_two_pow_sub_one_eq_mod x.toNat 7
    rw [h127, hx]
  by_cases hsm : m < 128
  · have hx := hc _ _ (vintF_small (k := k) hsm)
    have hxt : bs[i].toNat = m := by rw [hx]; simp; omega
    obtain ⟨st1, st2⟩ := step (m % 128) rfl
    have hsplit : n % 2 ^ (7 * (i + 1)) = n := by
      apply Nat.mod_eq_of_lt
      rw [show 7 * (i + 1) = 7 + 7 * i by omega, Nat.pow_add, ← Nat.div_lt_iff_lt_mul (Nat.two_pow_pos _), hm]
      exact hsm
    have hres : (vint n).length = i + 1 := by rw [hv, vintF_small hsm]; rfl
    have hi1 : IntKind.i64.wrap ((i : Int) + 1) = (((vint n).length : Nat) : Int) := by rw [wrap_i64 (by omega) (by omega)]; omega
    have hor : ∀ (w : World) (K : VCont), xBin P .or ty.uint64 (un (n % 2 ^ (7 * i))) (un ((m % 128) <<< (7 * i))) w K = K (un n) w := fun w K => by
      rw [or_un _ _ (by omega) (by rw [Nat.shiftLeft_eq]; exact st2), st1, hsplit]
    have hlt8 : (bs[i].toNat : Int) < 128 := by omega
    have body : ∀ c, c = false → xPick (.bool c) (.bool true) (.bool false) w' (fun t29 w => xIf t29 (K (.tuple #[.int .u64 0, .int .i64 0]) w) (xBin P .and ty.uint8 (bv bs[i]) (.int .u8 127) w fun t30 w => xConvK P .pure ty.uint8 ty.uint64 t30 w fun t31 w => xConvK P .pure ty.int ty.uint (.int .i64 (IntKind.i64.wrap (7 * (i : Int)))) w fun t33 w =>
        xBin P .shl ty.uint64 t31 t33 w fun t34 w => xBin P .or ty.uint64 (un (n % 2 ^ (7 * i))) t34 w fun t35 w => xBin P .lss ty.uint8 (bv bs[i]) (.int .u8 128) w fun t36 w =>
        xIf t36 (xEq P .eql ty.uint8 false true (bv bs[i]) (.int .u8 0) w fun t37 w => xWhen t37 true (fun K => K (i64 i) w) w fun t38 w => xWhen t37 true (fun K => xBin P .gtr ty.int t38 (.int .i64 0) w K) w fun t39 w => xPick t37 t39 (.bool false) w fun t40 w =>
          xIf t40 (K (.tuple #[.int .u64 0, .int .i64 0]) w) (K (.tuple #[t35, .int .i64 (IntKind.i64.wrap ((i : Int) + 1))]) w)) (X [t35, .int .i64 (IntKind.i64.wrap ((i : Int) + 1))] w))) := by
      rintro c rfl
      simp only [xs, xd]
      rw [a127, low _ (by omega), hmul, cv, shl _ st2, hor, lt128]
      simp only [hlt8, xs, xd]
      rw [eq0]
      by_cases hz : (bs[i].toNat : Int) = 0
      · have hi0 : i = 0 := by rcases h0 with h | h <;> omega
        have hng : ¬ (0 : Int) < (i : Int) := by omega
        simp only [hz, xs, xb, xd, hng, hi1]
        exact hK
      · simp only [hz, xs, xb, xd, hi1]
        exact hK
    cases hd9 : decide ((i : Int) = 9) with
    | true =>
      have hc1 : ¬ (1 : Int) < (bs[i].toNat : Int) := by
        have : (i : Int) = 9 := by simpa using hd9
        have : i = 9 := by omega
        subst this
        have : m < 2 := by simpa using hm64
        omega
      simp only [xs, xb, xd]
      rw [gt1]
      simp only [hc1, xs, xd]
      have := body false rfl
      simp only [xs, xd] at this
      exact this
    | false =>
      simp only [xs, xb, xd]
      have := body false rfl
      simp only [xs, xd] at this
      exact this
  · cases k with
    | zero =>
      have : i = 9 := by omega
      subst this
      have : m < 2 := by simpa using hm64
      omega
    | succ k =>
      have hvf : vintF (k + 1) m = UInt8.ofNat (m % 128 + 128) :: vintF k (m / 128) := by
        conv => lhs; unfold vintF
        rw [if_neg hsm]
      have hx := hc _ _ hvf
      have hxt : bs[i].toNat = m % 128 + 128 := by rw [hx]; simp; omega
      have h9 : ¬ (i : Int) = 9 := by omega
      simp only [h9, xs, xb, xd]
      obtain ⟨st1, st2⟩ := step (m % 128) rfl
      rw [a127, low _ (by omega)]
      simp only [xb, hmul]
      rw [cv, shl _ st2, or_un _ _ (by omega) (by rw [Nat.shiftLeft_eq]; exact st2), st1, lt128]
      have hlt8 : ¬ (bs[i].toNat : Int) < 128 := by omega
      simp only [hlt8, xs, xb, xd]
      have hi1 : IntKind.i64.wrap ((i : Int) + 1) = ((i + 1 : Nat) : Int) := by rw [wrap_i64 (by omega) (by omega)]; omega
      rw [hi1]
      have hdn := div_next n i
      rw [hm] at hdn
      refine hX k _ _ ⟨rfl, i + 1, rs, by omega, rfl, ?_, ?_, ?_, rfl⟩ (by omega)
      · rw [← hdn]
        have : bs.drop i = bs[i] :: bs.drop (i + 1) := List.drop_eq_getElem_cons hlt
        rw [this, hvf, List.cons_append] at hd
        exact (List.cons.inj hd).2
      · rw [hv, hvf, ← hdn]; simp; omega
      · right; rw [← hdn]; omega
end
end Go.Proofs.Ytamejkogghpbhaa
end
section
/- Readers: their functions. -/
set_option linter.unusedVariables false
set_option linter.unusedSimpArgs false
namespace Go.Proofs.Ytamejkogghpbhaa
open Go.Sx
section
variable {w : World} {K : VCont} {l : List Asn} {p : Nat} {bs : List UInt8}
theorem SlA.ro {v : Value} {n : Nat} {xs : List Value} {e : TypeId} (h : Hp w (SlA e 1 v n xs :: l)) : Hp w (RoA (fun w => Rd w v xs) :: l) := h.ofSl.roMono fun w h => h.rd
theorem own_sl {e size n : Nat} {v : Value} {xs : List Value} (h : Own w e size v n xs) : ∃ a m c, v = .slice a m c := by
  rcases h.2 with ⟨rfl, _⟩ | ⟨g, cap, cur, rfl, _⟩
  · exact ⟨_, _, _, rfl⟩
  · exact ⟨_, _, _, rfl⟩
theorem build_Reader {v : Value} (hv : ∃ a m c, v = .slice a m c) : xBuild P ty.pack_Reader [(0, v)] w K = K (.agg #[v, .bool false]) w := by
  obtain ⟨a, m, c, rfl⟩ := hv
  unfold xBuild
  exact xp_iff fun w' => by kernel_rfl
theorem pack_New_hp {v : Value} (h : Hp w l) (hr : Rd w v (bs.map bv)) (hl : bs.length ≤ 10000000) (hK : ∀ p w', Hp w' (RdrA p bs :: l) → K (ptr p) w') : xCall P nr.pack_New [v] w K := by
  refine pack_New_call ?_
  unfold pack_New_main
  obtain ⟨F0, _, fr0⟩ := Hp.frame (L := []) h
  refine buildSlice0 (size := 1) und.s_uint8 inf.uint8 rfl ?_
  intro v1 w1 ho1 hb1 hc1 hs1
  have h1 : Hp w1 (SlA ty.uint8 1 v1 0 [] :: l) := h.new (A := SlA ty.uint8 1 v1 0 []) (F := fun x => v1.ownBlock = some x) ⟨ho1, fun _ => Iff.rfl⟩ (fun b e => by rw [hb1] at e; cases e; omega) hc1
  refine Hp.app (size := 1) (bytes := 1) und.s_uint8 inf.uint8 rfl rfl rfl rfl h1 (hr.keep' hc1).rdN (bv_one _) (by simp; omega) (by omega) ?_
  intro v2 w2 h
  rw [build_Reader (own_sl h.own)]
  refine Hp.box h (cs := [v2, .bool false]) rfl ?_
  intro p w3 h
  refine hK p w3 (RdrA.op.2 ⟨v2, ?_⟩)
  exact (SlA.ro h.pick1).pick1
theorem Reader_Int_c1_hp {b1 b2 : Nat} {lo hi v : Int} {bsv : Value} {rest : List UInt8} (h : Hp w (BlkA b2 ty.int64 [i64 hi] :: BlkA b1 ty.int64 [i64 lo] :: l)) (hr : Rd w bsv (bs.map bv)) (hb : bs = vint (zig v) ++ rest) (hl : bs.length ≤ 10000000)
    (h0 : 0 ≤ v) (h1 : v ≤ 9223372036854775807) (hlo : lo ≤ v) (hhi : v ≤ hi) (hK : K (.tuple #[i64 v, i64 (vint (zig v)).length]) w) : xCall P nr.pack_Reader_Int_c1 [bsv, ptr b1, ptr b2] w K := by
  refine pack_Reader_Int_c1_call ?_
  unfold pack_Reader_Int_c1_main
  have hz : zig v = (2 * v).toNat := by unfold zig; rw [if_pos h0]
  have hz64 : zig v < 2 ^ 64 := by omega
  refine groups_spec hr hb hl hz64 ?_
  simp only [xs, xb, xd]
  have e1 : ∀ K : VCont, xBin P .shr ty.uint64 (un (zig v)) (.int .u64 1) w K = K (un (zig v / 2)) w := fun K => shr_un .u64 (zig v) 1 (by omega)
  have e2 : ∀ (n : Nat) (K : VCont), n < 2 ^ 63 → xConvK P .pure ty.uint64 ty.int64 (un n) w K = K (i64 n) w := fun n K hn => by
    rw [xConv_int _ _ .i64 .u64 _ und.uint64 und.int64, wrap_i64 (by omega) (by omega)]
  rw [e1, e2 _ _ (by omega), and1_un _ hz64, e2 _ _ (by omega), xUn_neg]
  have hz2 : ((zig v / 2 : Nat) : Int) = v := by omega
  have hz3 : zig v % 2 = 0 := by omega
  rw [hz2, hz3]
  have hneg : IntKind.i64.wrap (0 - ((0 : Nat) : Int)) = 0 := by rw [wrap_i64 (by omega) (by omega)]; omega
  rw [hneg, xBin_xor]
  obtain ⟨n, rfl⟩ : ∃ n : Nat, v = n := ⟨v.toNat, by omega⟩
  have hx : ((BitVec.ofInt IntKind.i64.bits (n : Int) ^^^ BitVec.ofInt IntKind.i64.bits (0 : Int)).toNat : Nat) = n := by
    show (BitVec.ofInt 64 (n : Int) ^^^ BitVec.ofInt 64 ((0 : Nat) : Int)).toNat = n
    rw [BitVec.ofInt_natCast, BitVec.ofInt_natCast, BitVec.toNat_xor, BitVec.toNat_ofNat, BitVec.toNat_ofNat]
    simp
    omega
  rw [hx, wrap_i64 (by omega) (by omega)]
  have hn1 : ¬ (n : Int) < lo := by omega
  have hn2 : ¬ hi < (n : Int) := by omega
  simp only [xs, xb, xd, h.c1, h.c0, List.getElem?_cons_zero, hn1, hn2]
  exact hK
theorem Reader_Int_hp {lo hi v : Int} {rest : List UInt8} (h : Hp w (RdrA p (vint (zig v) ++ rest) :: l)) (hl : (vint (zig v) ++ rest).length ≤ 10000000)
    (h0 : 0 ≤ v) (h1 : v ≤ 9223372036854775807) (hlo : lo ≤ v) (hhi : v ≤ hi) (hK : ∀ w', Hp w' (RdrA p rest :: l) → K (i64 v) w') : xCall P nr.pack_Reader_Int [ptr p, i64 lo, i64 hi] w K := by
  refine pack_Reader_Int_call ?_
  unfold pack_Reader_Int_main
  refine Hp.box h (cs := [i64 lo]) rfl ?_
  intro b1 w1 h
  refine Hp.box h (cs := [i64 hi]) rfl ?_
  intro b2 w2 h
  refine pack_take_int64_call ?_
  unfold pack_take_int64_main
  obtain ⟨v0, hh⟩ := RdrA.op.1 h.pick2
  rw [xEq_ptr und.p_pack_Reader]
  simp only [xs, xb, xd, Option.isNone_some, Nat.zero_add, hh.c0, List.getElem?_cons_zero, List.getElem?_cons_succ]
  refine (xCallV_func nr.pack_Reader_Int_c1 [ptr b1, ptr b2] [v0]).mpr ?_
  have hrd := hh.pick1.ro
  have hvl := vint_len (zig v)
  refine Reader_Int_c1_hp h hrd rfl hl h0 h1 hlo hhi ?_
  have hng : ¬ (((vint (zig v)).length : Nat) : Int) < 1 := by omega
  obtain ⟨v', ex, hv'⟩ := tail_rd (P := P) und.s_uint8 inf.uint8 rfl hrd (lo := (vint (zig v)).length) (by simp)
  have hone : v'.oneCell' = true := by obtain ⟨_, _, rfl, _⟩ := hv' w2 hrd; rfl
  simp only [xs, xb, xd, hng, Nat.zero_add, hh.c0, List.getElem?_cons_zero, List.getElem?_cons_succ, ex]
  refine Hp.st hh inf.s_uint8 rfl hone (by simp) ?_
  intro w3 h
  refine hK w3 ?_
  have h := (RdrA.op.2 ⟨v', ((h.pick1.roMono (q := fun w => Rd w v' (rest.map bv)) fun w hr => ?_).pick1)⟩ : Hp w3 (RdrA p rest :: _))
  · exact (h.pick1.tail.pick1.tail)
  · have := hv' w hr
    rw [List.map_append] at this
    rwa [show (vint (zig v)).length = ((vint (zig v)).map bv).length by simp, List.drop_left] at this
theorem Reader_End_hp (h : Hp w (RdrA p bs :: l)) (hK : K (i64 (if bs = [] then 0 else 3)) w) : xCall P nr.pack_Reader_End [ptr p] w K := by
  refine pack_Reader_End_call ?_
  unfold pack_Reader_End_main
  obtain ⟨v0, hh⟩ := RdrA.op.1 h
  rw [xEq_ptr und.p_pack_Reader]
  simp only [xs, xb, xd, Option.isNone_some, Nat.zero_add, hh.c0, List.getElem?_cons_zero, List.getElem?_cons_succ, rd_len hh.pick1.ro und.s_uint8, List.length_map]
  cases bs with
  | nil =>
    have : ¬ (0 : Int) < ((([] : List UInt8).length : Nat) : Int) := by simp
    simp only [this, xs, xb, xd]
    simpa using hK
  | cons b bs =>
    have : (0 : Int) < (((b :: bs).length : Nat) : Int) := by simp
    simp only [this, xs, xb, xd]
    simpa using hK
end
end Go.Proofs.Ytamejkogghpbhaa
end
section
/- Frames: the pure side. -/
set_option linter.unusedVariables false
set_option linter.unusedSimpArgs false
namespace Go.Proofs.Ytamejkogghpbhaa
open Go.Sx
def by8 (c : BitVec 32) (n : Nat) : UInt8 := ⟨(c >>> n).setWidth 8⟩
def word4 (a b c d : UInt8) : BitVec 32 := ((a.toBitVec.setWidth 32 ||| b.toBitVec.setWidth 32 <<< 8) ||| c.toBitVec.setWidth 32 <<< 16) ||| d.toBitVec.setWidth 32 <<< 24
theorem word4_by8 (c : BitVec 32) : word4 (by8 c 0) (by8 c 8) (by8 c 16) (by8 c 24) = c := by
  unfold word4 by8
  apply BitVec.eq_of_getLsbD_eq
  intro i hi
  simp only [BitVec.getLsbD_or, BitVec.getLsbD_shiftLeft, BitVec.getLsbD_setWidth, BitVec.getLsbD_ushiftRight]
  by_cases h1 : i < 8
  · simp [h1, show i < 16 by omega, show i < 24 by omega, hi]
  · by_cases h2 : i < 16
    · simp [h1, h2, show i < 24 by omega, hi, show i - 8 < 8 by omega, show 8 + (i - 8) = i by omega, show i - 8 < 32 by omega]
    · by_cases h3 : i < 24
      · simp [h1, h2, h3, hi, show ¬ i - 8 < 8 by omega, show i - 16 < 8 by omega, show 16 + (i - 16) = i by omega, show i - 16 < 32 by omega]
      · simp [h1, h2, h3, hi, show ¬ i - 8 < 8 by omega, show ¬ i - 16 < 8 by omega, show i - 24 < 8 by omega, show 24 + (i - 24) = i by omega, show i - 24 < 32 by omega]
def head6 (x : List UInt8) : List UInt8 := [by8 (crc x) 0, by8 (crc x) 8, by8 (crc x) 16, by8 (crc x) 24, UInt8.ofNat x.length, UInt8.ofNat (x.length / 256)]
def frame (x : List UInt8) : List UInt8 := head6 x ++ x
def frames (xs : List (List UInt8)) : List UInt8 := (xs.map frame).flatten
def fits (x : List UInt8) : Prop := 1 ≤ x.length ∧ x.length ≤ 1000
instance (x : List UInt8) : Decidable (fits x) := inferInstanceAs (Decidable (_ ∧ _))
/-- the record at the front -/
def one (D : List UInt8) : Option (List UInt8) := match D with
  | c0 :: c1 :: c2 :: c3 :: n0 :: n1 :: r =>
    if n0.toNat + 256 * n1.toNat < 1 ∨ 1000 < n0.toNat + 256 * n1.toNat ∨ r.length < n0.toNat + 256 * n1.toNat then none
    else if crc (r.take (n0.toNat + 256 * n1.toNat)) = word4 c0 c1 c2 c3 then some (r.take (n0.toNat + 256 * n1.toNat)) else none
  | _ => none
def unf : Nat → List UInt8 → List (List UInt8)
  | 0, _ => []
  | k + 1, D => match one D with
    | some x => x :: unf k (D.drop (6 + x.length))
    | none => []
theorem frame_len (x : List UInt8) : (frame x).length = 6 + x.length := by simp [frame, head6]; omega
theorem frames_cons (x : List UInt8) (xs : List (List UInt8)) : frames (x :: xs) = frame x ++ frames xs := rfl
theorem frames_nil : frames [] = [] := rfl
theorem frames_append (xs ys : List (List UInt8)) : frames (xs ++ ys) = frames xs ++ frames ys := by simp [frames]
theorem len_bytes {n : Nat} (h : n ≤ 1000) : (UInt8.ofNat n).toNat + 256 * (UInt8.ofNat (n / 256)).toNat = n := by simp; omega
theorem one_frame {x : List UInt8} (h : fits x) (r : List UInt8) : one (frame x ++ r) = some x := by
  obtain ⟨h1, h2⟩ := h
  unfold frame head6 one
  simp only [List.cons_append, List.nil_append, List.append_assoc]
  rw [len_bytes h2]
  rw [if_neg (by rw [List.length_append]; omega), List.take_left, if_pos (word4_by8 (crc x)).symm]
theorem one_short {D : List UInt8} (h : D.length < 6) : one D = none := by
  unfold one
  split
  · rename_i c0 c1 c2 c3 n0 n1 r
    simp only [List.length_cons] at h
    omega
  · rfl
theorem one_part {x : List UInt8} (h : fits x) {k : Nat} (hk : k < (frame x).length) : one ((frame x).take k) = none := by
  by_cases h6 : k < 6
  · exact one_short (by rw [List.length_take]; omega)
  · obtain ⟨j, rfl⟩ : ∃ j, k = j + 6 := ⟨k - 6, by omega⟩
    rw [frame_len] at hk
    have e : (frame x).take (j + 6) = head6 x ++ x.take j := by
      unfold frame
      rw [List.take_append, List.take_of_length_le (by simp [head6])]
      simp [head6]
    rw [e]
    unfold head6 one
    simp only [List.cons_append, List.nil_append]
    rw [len_bytes h.2, if_pos (.inr (.inr (by rw [List.length_take]; omega)))]
theorem one_fits {D x : List UInt8} (h : one D = some x) : fits x ∧ 6 + x.length ≤ D.length := by
  unfold one at h
  split at h
  · split at h
    · cases h
    · rename_i hc
      split at h
      · cases h
        have hl := List.length_take (i := ‹UInt8›.toNat) (l := ([] : List UInt8))
        rename_i c0 c1 c2 c3 n0 n1 r _
        have : (List.take (n0.toNat + 256 * n1.toNat) r).length = n0.toNat + 256 * n1.toNat := by rw [List.length_take]; omega
        refine ⟨⟨by omega, by omega⟩, ?_⟩
        simp only [List.length_cons]
        omega
      · cases h
  · cases h
theorem unf_frames : ∀ {xs : List (List UInt8)} {r : List UInt8} {k : Nat}, (∀ x ∈ xs, fits x) → one r = none → xs.length ≤ k → unf (k + 1) (frames xs ++ r) = xs
  | [], r, k, _, hr, _ => by unfold unf; rw [frames_nil, List.nil_append, hr]
  | x :: xs, r, k, hx, hr, hk => by
    obtain ⟨k, rfl⟩ : ∃ j, k = j + 1 := ⟨k - 1, by simp at hk; omega⟩
    unfold unf
    rw [frames_cons, List.append_assoc, one_frame (hx x (by simp))]
    simp only
    rw [← frame_len, List.drop_left, unf_frames (fun y hy => hx y (by simp [hy])) hr (by simp at hk; omega)]
/-- what is cut off leaves a beginning of the records, and nothing that counts -/
theorem frames_take : ∀ {xs : List (List UInt8)} (k : Nat), (∀ x ∈ xs, fits x) → ∃ m r, m ≤ xs.length ∧ (frames xs).take k = frames (xs.take m) ++ r ∧ one r = none ∧ (∀ j, j ≤ xs.length → (frames (xs.take j)).length ≤ k → j ≤ m) ∧ ((frames xs).length ≤ k → m = xs.length ∧ r = [])
  | [], k, _ => ⟨0, [], by simp, by simp [frames_nil], one_short (by simp), fun j hj _ => by simpa using hj, fun _ => ⟨rfl, rfl⟩⟩
  | x :: xs, k, hx => by
    by_cases hk : k < (frame x).length
    · refine ⟨0, (frame x).take k, by simp, ?_, one_part (hx x (by simp)) hk, fun j hj hl => ?_, fun hl => ?_⟩
      · rw [frames_cons, List.take_append_of_le_length (by omega)]; rfl
      · cases j with
        | zero => exact Nat.le_refl _
        | succ j =>
          rw [List.take_succ_cons, frames_cons, List.length_append] at hl
          omega
      · rw [frames_cons, List.length_append] at hl
        omega
    · obtain ⟨m, r, h1, h2, h3, h4, h5⟩ := frames_take (xs := xs) (k - (frame x).length) fun y hy => hx y (by simp [hy])
      refine ⟨m + 1, r, by simp; omega, ?_, h3, fun j hj hl => ?_, fun hl => ?_⟩
      · rw [frames_cons, List.take_append, List.take_of_length_le (by omega), h2, List.take_succ_cons, frames_cons, List.append_assoc]
      · cases j with
        | zero => omega
        | succ j =>
          rw [List.take_succ_cons, frames_cons, List.length_append] at hl
          have := h4 j (by simpa using hj) (by omega)
          omega
      · rw [frames_cons, List.length_append] at hl
        obtain ⟨h6, h7⟩ := h5 (by omega)
        exact ⟨by simp [h6], h7⟩
end Go.Proofs.Ytamejkogghpbhaa
end
