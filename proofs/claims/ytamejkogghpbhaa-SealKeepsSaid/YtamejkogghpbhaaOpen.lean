/- Arguments, opened by their types' shapes. -/
import Derived.Test.YtamejkogghpbhaaRow
import Derived.Test.YtamejkogghpbhaaSepOps
set_option linter.unusedVariables false
set_option linter.unusedSimpArgs false
namespace Go.Sx
open Go Go.ChangeShapes Go.WideShapes Go.ChangeAt Go.RowKit
/-- These cells can be read as a value of the type. -/
def Rdt (P : Program) (W : World) (t : TypeId) (cs : List Value) : Prop :=
  ∃ (H : Type) (enc : TypeId × Value → H) (fuel : Nat) (x : DataW H × List MemPlace), DataW.trod enc P W 0 (fun _ => true) true fuel t cs = some x
section
variable {H : Type} {enc : TypeId × Value → H} {P : Program} {W : World} {t e : TypeId} {cs : List Value}
theorem Rdt.of_trod {v : Value} {d : DataW H} {p : List MemPlace} (h : DataW.Trod enc P W 0 (fun _ => true) true t v d p) : Rdt P W t v.cells.toList := by
  obtain ⟨fuel, h⟩ := h; exact ⟨H, enc, fuel, _, h⟩
theorem Rdt.int {k : IntKind} (ht : P.underlying t = some (.int k)) (h : Rdt P W t cs) : ∃ n, cs = [.int k n] ∧ (Lit.int k n).wf = true := by
  obtain ⟨H, enc, fuel, x, h⟩ := h
  obtain ⟨n, h1, _, h2⟩ := DataW.trod_int ht h
  exact ⟨n, h1, h2⟩
theorem Rdt.i64 (ht : P.underlying t = some (.int .i64)) (h : Rdt P W t cs) : ∃ n, cs = [.int .i64 n] ∧ -9223372036854775808 ≤ n ∧ n ≤ 9223372036854775807 := by
  obtain ⟨n, h1, h2⟩ := h.int ht
  refine ⟨n, h1, ?_⟩
  simp [Lit.wf, IntKind.min, IntKind.max, IntKind.bits, IntKind.signed] at h2
  omega
theorem Rdt.u8 (ht : P.underlying t = some (.int .u8)) (h : Rdt P W t cs) : ∃ x : UInt8, cs = [bv x] := by
  obtain ⟨n, h1, h2⟩ := h.int ht
  have hb : 0 ≤ n ∧ n ≤ 255 := by simpa [Lit.wf, IntKind.min, IntKind.max, IntKind.bits, IntKind.signed] using h2
  refine ⟨UInt8.ofNat n.toNat, ?_⟩
  rw [h1]
  unfold bv
  congr 2
  simp
  omega
theorem Rdt.string (ht : P.underlying t = some .string) (h : Rdt P W t cs) : ∃ s, cs = [.string s] ∧ s.size ≤ maxLen := by
  obtain ⟨H, enc, fuel, x, h⟩ := h
  obtain ⟨n, h1, _, h2⟩ := DataW.trod_string ht h
  exact ⟨n, h1, h2⟩
theorem Rdt.bool (ht : P.underlying t = some .bool) (h : Rdt P W t cs) : ∃ b, cs = [.bool b] := by
  obtain ⟨H, enc, fuel, x, h⟩ := h
  obtain ⟨n, h1, _⟩ := DataW.trod_bool ht h
  exact ⟨n, h1⟩
theorem Rdt.struct {fs : Array Field} (ht : P.underlying t = some (.struct fs)) (h : Rdt P W t cs) : cs.length = P.cellsOf t ∧ ∀ (i : Nat) (f : Field), fs[i]? = some f → Rdt P W f.type ((cs.drop f.offset).take (P.cellsOf f.type)) := by
  obtain ⟨H, enc, fuel, x, h⟩ := h
  obtain ⟨xs, n, _, _, h1, h2, h3⟩ := DataW.trod_struct ht h
  refine ⟨h1, fun i f hf => ?_⟩
  have hlt : i < xs.length := by rw [h2]; exact (Array.getElem?_eq_some_iff.1 hf).1
  exact ⟨H, enc, n, xs[i], by rw [h3 i f hf]; exact List.getElem?_eq_getElem hlt⟩
theorem Rdt.array {n : Nat} (ht : P.underlying t = some (.array n e)) (h : Rdt P W t cs) : cs.length = P.cellsOf t ∧ ∀ (i : Nat), i < n → Rdt P W e ((cs.drop (i * P.cellsOf e)).take (P.cellsOf e)) := by
  obtain ⟨H, enc, fuel, x, h⟩ := h
  obtain ⟨xs, m, _, _, h1, h2, h3⟩ := DataW.trod_array ht h
  refine ⟨h1, fun i hi => ?_⟩
  exact ⟨H, enc, m, xs[i], by rw [h3 i hi]; exact List.getElem?_eq_getElem (by omega)⟩
theorem exists_list {α : Type} {n : Nat} {p : Nat → α → Prop} (h : ∀ i, i < n → ∃ x, p i x) : ∃ l : List α, l.length = n ∧ ∀ i x, l[i]? = some x → p i x := by
  induction n with
  | zero => exact ⟨[], rfl, by simp⟩
  | succ n ih =>
    obtain ⟨l, hl, hp⟩ := ih fun i hi => h i (by omega)
    obtain ⟨x, hx⟩ := h n (by omega)
    refine ⟨l ++ [x], by simp [hl], fun i y hy => ?_⟩
    by_cases hi : i < l.length
    · rw [List.getElem?_append_left hi] at hy; exact hp i y hy
    · rw [List.getElem?_append_right (by omega)] at hy
      have h0 : i - l.length = 0 := by have := (List.getElem?_eq_some_iff.1 hy).1; simp at this; omega
      rw [h0] at hy
      simp at hy
      subst hy
      rw [show i = n by omega]; exact hx
theorem add_add (a : Addr) (i j : Nat) : (a.add i).add j = a.add (i + j) := by
  unfold Addr.add
  by_cases h1 : i = 0
  · subst h1; simp
  · by_cases h2 : j = 0
    · subst h2; simp
    · rw [if_neg h1, if_neg h2, if_neg (by omega)]
      simp [Nat.add_assoc]
theorem flatten_len {α : Type} {size : Nat} : ∀ {ess : List (List α)}, (∀ es ∈ ess, es.length = size) → ess.flatten.length = ess.length * size
  | [], _ => by simp
  | es :: ess, h => by
    rw [List.flatten_cons, List.length_append, flatten_len fun x hx => h x (by simp [hx]), h es (by simp), List.length_cons, Nat.succ_mul, Nat.add_comm]
theorem flatten_at {α : Type} {size : Nat} : ∀ {ess : List (List α)}, (∀ es ∈ ess, es.length = size) → ∀ {j : Nat} {u : α}, ess.flatten[j]? = some u → ∃ (i r : Nat) (es : List α), ess[i]? = some es ∧ r < size ∧ j = i * size + r ∧ es[r]? = some u
  | [], _, j, u, h => by simp at h
  | es :: ess, hs, j, u, h => by
    have he := hs es (by simp)
    rw [List.flatten_cons] at h
    by_cases hj : j < es.length
    · rw [List.getElem?_append_left hj] at h
      exact ⟨0, j, es, rfl, by omega, by omega, h⟩
    · rw [List.getElem?_append_right (by omega)] at h
      obtain ⟨i, r, es', h1, h2, h3, h4⟩ := flatten_at (fun x hx => hs x (by simp [hx])) h
      exact ⟨i + 1, r, es', by simpa using h1, h2, by rw [Nat.succ_mul]; omega, h4⟩
theorem flatten_get {α : Type} {size : Nat} : ∀ {ess : List (List α)}, (∀ es ∈ ess, es.length = size) → ∀ {i r : Nat} {es : List α}, ess[i]? = some es → r < size → ess.flatten[i * size + r]? = es[r]?
  | [], _, i, r, es, h, _ => by simp at h
  | x :: ess, hs, 0, r, es, h, hr => by
    simp at h; subst h
    rw [List.flatten_cons, List.getElem?_append_left (by rw [hs x (by simp)]; omega)]
    simp
  | x :: ess, hs, i + 1, r, es, h, hr => by
    have hx := hs x (by simp)
    rw [List.flatten_cons, List.getElem?_append_right (by rw [Nat.succ_mul]; omega), hx, show (i + 1) * size + r - size = i * size + r by rw [Nat.succ_mul]; omega]
    exact flatten_get (fun y hy => hs y (by simp [hy])) (by simpa using h) hr
/-- a slice: its elements' cells -/
theorem Rdt.slice {size : Nat} (ht : P.underlying t = some (.slice e)) (hs : P.cellsOf e = size) (h : Rdt P W t cs) :
    ∃ v n, cs = [v] ∧ n ≤ maxLen ∧ ∃ ess : List (List Value), ess.length = n ∧ RdN W size v n ess.flatten ∧ ∀ es ∈ ess, es.length = size ∧ Rdt P W e es := by
  obtain ⟨H, enc, fuel, x, h⟩ := h
  rcases DataW.trod_slice ht h with ⟨h1, _⟩ | ⟨a, len, cap, elems, rest, n, _, h1, _, hb, hl, hm, hlen, hel, _, _⟩
  · exact ⟨_, 0, h1, by omega, [], rfl, ⟨by simp, none, 0, rfl, rfl⟩, by simp⟩
  · refine ⟨_, len, h1, by omega, ?_⟩
    obtain ⟨ess, hl2, hp⟩ := exists_list (n := len) (p := fun i es => W.cells? 0 (a.add (i * P.cellsOf e)) (P.cellsOf e) = some es ∧ Rdt P W e es) fun i hi => by
      have := hel i hi
      rw [List.getElem?_eq_getElem (by omega), Option.bind_eq_some_iff] at this
      obtain ⟨es, h2, h3⟩ := this
      exact ⟨es, h2, H, enc, n, _, h3⟩
    have hsz : ∀ es ∈ ess, es.length = size := by
      intro es hes
      obtain ⟨i, hi, rfl⟩ := List.getElem_of_mem hes
      have := (World.cells?_some (hp i _ (List.getElem?_eq_getElem hi)).1).2.1
      omega
    refine ⟨ess, hl2, ⟨?_, some a, cap, rfl, ?_⟩, fun es hes => ⟨hsz es hes, ?_⟩⟩
    · rw [flatten_len hsz, hl2]
    · intro j u hj
      obtain ⟨i, r, es, h1, h2, h3, h4⟩ := flatten_at hsz hj
      have := (World.cells?_some (hp i es h1).1).2.2 r (by omega)
      rw [add_add, h4, hs] at this
      rw [h3]; exact this
    · obtain ⟨i, hi, rfl⟩ := List.getElem_of_mem hes
      exact (hp i _ (List.getElem?_eq_getElem hi)).2
/-- an element's place -/
theorem rdN_at {w : World} {i : TypeInfo} {size k n : Nat} (ht : P.underlying t = some (.slice e)) (hi : P.info? e = some i) (hs : i.size = size) {v : Value} {xs : List Value} (h : RdN w size v n xs) (hk : k < n) :
    ∃ p : Addr, (∀ (w2 : World) (C : VCont), xIndexAddr P t v (.int .i64 k) w2 C = C (.pointer (some p)) w2) ∧ ∀ w', RdN w' size v n xs → ∀ j, j < size → w'.cell? (p.add j) = xs[k * size + j]? := by
  obtain ⟨hl, a, cap, rfl, hc⟩ := h
  cases a with
  | none => have : n = 0 := hc; omega
  | some g =>
    refine ⟨g.add (k * size), fun w2 C => xp_iff fun _ => ?_, fun w' h' j hj => ?_⟩
    · unfold Instr.indexAt
      simp only [asIntOf, Sem.run_bind, Sem.run_pure, Result.andThen_ok, run_underlying ht]
      rw [if_pos ⟨by omega, by omega⟩]
      simp [sizeOf, typeInfo, hi, hs]
    · obtain ⟨_, a, cap', he, h'⟩ := h'
      cases he
      have h3 : k * size + size ≤ n * size := by rw [← Nat.succ_mul]; exact Nat.mul_le_mul_right _ hk
      rw [add_add, List.getElem?_eq_getElem (by omega)]
      exact h' _ _ (List.getElem?_eq_getElem (by omega))
/-- bytes -/
theorem Rdt.bytes (ht : P.underlying t = some (.slice e)) (he : P.underlying e = some (.int .u8)) (hs : P.cellsOf e = 1) (h : Rdt P W t cs) : ∃ v, ∃ bs : List UInt8, cs = [v] ∧ Rd W v (bs.map bv) ∧ bs.length ≤ maxLen := by
  obtain ⟨v, n, h1, hn, ess, hl, hr, hes⟩ := h.slice ht hs
  obtain ⟨bs, hb1, hb2⟩ := exists_list (n := ess.length) (p := fun i (x : UInt8) => ess[i]? = some [bv x]) fun i hi => by
    obtain ⟨x, hx⟩ := (hes _ (List.getElem_mem hi)).2.u8 he
    exact ⟨x, by rw [List.getElem?_eq_getElem hi, hx]⟩
  have hess : ess = bs.map fun x => [bv x] := by
    refine List.ext_getElem? fun i => ?_
    rw [List.getElem?_map]
    by_cases hi : i < bs.length
    · rw [hb2 i _ (List.getElem?_eq_getElem hi), List.getElem?_eq_getElem hi]; rfl
    · rw [List.getElem?_eq_none (by omega), List.getElem?_eq_none (by omega)]; rfl
  have hfl : ess.flatten = bs.map bv := by
    rw [hess]
    clear hess hb2 hb1
    induction bs with
    | nil => rfl
    | cons x bs ih => simp [ih]
  rw [hfl] at hr
  refine ⟨v, bs, h1, ?_, by omega⟩
  obtain ⟨hl2, a, cap, rfl, hc⟩ := hr
  have hln : (bs.map bv).length = n := by simpa using hl2
  -- the capacity
  obtain ⟨H, enc, fuel, x, h⟩ := h
  rcases DataW.trod_slice ht h with ⟨h1', _⟩ | ⟨a', len, cap', elems, rest, n', _, h1', _, hb, hlc, hm, _⟩
  · rw [h1] at h1'; cases h1'
    exact ⟨none, 0, by rw [hln], by omega, List.eq_nil_of_length_eq_zero (by omega)⟩
  · rw [h1] at h1'; cases h1'
    exact ⟨_, _, by rw [hln], by omega, hc⟩
def fieldOk (P : Program) (t : TypeId) (i : Nat) (ft : TypeId) (off sz : Nat) : Bool := match P.underlying t with
  | some (.struct fs) => match fs[i]? with
    | some f => Nat.beq f.type ft && Nat.beq f.offset off && Nat.beq (P.cellsOf ft) sz
    | none => false
  | _ => false
/-- a struct's field -/
theorem Rdt.field {i ft off sz : Nat} (hf : fieldOk P t i ft off sz = true) (h : Rdt P W t cs) : Rdt P W ft ((cs.drop off).take sz) := by
  unfold fieldOk at hf
  split at hf
  · rename_i fs hu
    split at hf
    · rename_i f hff
      simp only [Bool.and_eq_true] at hf
      obtain ⟨⟨h1, h2⟩, h3⟩ := hf
      have h1 := Nat.eq_of_beq_eq_true h1
      have h2 := Nat.eq_of_beq_eq_true h2
      have h3 := Nat.eq_of_beq_eq_true h3
      subst h1; subst h2; subst h3
      exact (h.struct hu).2 i f hff
    · cases hf
  · cases hf
def structOk (P : Program) (t : TypeId) (n : Nat) : Bool := match P.underlying t with
  | some (.struct _) => Nat.beq (P.cellsOf t) n
  | _ => false
theorem Rdt.len {n : Nat} (hf : structOk P t n = true) (h : Rdt P W t cs) : cs.length = n := by
  unfold structOk at hf
  split at hf
  · rename_i fs hu
    rw [(h.struct hu).1]
    exact Nat.eq_of_beq_eq_true hf
  · cases hf
end
end Go.Sx
