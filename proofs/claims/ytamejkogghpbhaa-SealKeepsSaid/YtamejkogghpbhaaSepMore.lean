/- What is only read; calls of function values; parts of slices that are read. -/
import Derived.Test.YtamejkogghpbhaaOpen
set_option linter.unusedVariables false
set_option linter.unusedSimpArgs false
namespace Go.Sx
open Go
/-- a fact that hangs on the blocks that are owned, and on nothing else -/
def RoA (p : World → Prop) : Asn where
  holds w F := (∀ b, F b → b < w.heap.size) ∧ ∀ w' : World, (∀ b, F b → w'.heap[b]? = w.heap[b]?) → p w'
  keep := fun {w w' S F} h hc hn => ⟨fun b hb => Nat.lt_of_lt_of_le (h.1 b hb) hc.size, fun w'' hw => h.2 w'' fun b hb => (hw b hb).trans (hc.block b (h.1 b hb) (hn b hb))⟩
  lt := fun h hb => h.1 _ hb
theorem Rd.same {w w' : World} {v : Value} {xs : List Value} (h : Rd w v xs) (hb : ∀ b, v.ownBlock = some b → w'.heap[b]? = w.heap[b]?) : Rd w' v xs := by
  obtain ⟨a, cap, rfl, hl, h⟩ := h
  refine ⟨a, cap, rfl, hl, ?_⟩
  cases a with
  | none => exact h
  | some g =>
    intro i u hu
    have hab : (g.add i).block = g.block := by unfold Addr.add; split <;> rfl
    exact (World.cell?_of_block (by rw [hab]; exact hb _ rfl)).trans (h i u hu)
section
variable {P : Program} {w : World} {K : VCont} {l : List Asn} {p q : World → Prop}
theorem Hp.ro (h : Hp w (RoA p :: l)) : p w := by
  obtain ⟨F, h1⟩ := h.head; exact h1.2 w fun _ _ => rfl
theorem Hp.roAt (i : Nat) (h : Hp w l) (hi : l[i]? = some (RoA p)) : p w := by
  obtain ⟨F, h1⟩ := h.mem (List.mem_of_getElem? hi)
  exact h1.2 w fun _ _ => rfl
theorem Hp.roMono (h : Hp w (RoA p :: l)) (hpq : ∀ w, p w → q w) : Hp w (RoA q :: l) := by
  obtain ⟨F, h1, h2, h3⟩ := h
  exact ⟨F, ⟨h1.1, fun w' hw => hpq w' (h1.2 w' hw)⟩, h2, h3⟩
theorem Hp.roAnd (h : Hp w (RoA p :: RoA q :: l)) : Hp w (RoA (fun w => p w ∧ q w) :: l) := by
  obtain ⟨F, h1, h2, G, k1, k2, k3⟩ := h
  refine ⟨fun b => F b ∨ G b, ⟨fun b hb => hb.elim (h1.1 b) (k1.1 b), fun w' hw => ⟨h1.2 w' fun b hb => hw b (.inl hb), k1.2 w' fun b hb => hw b (.inr hb)⟩⟩, fun _ _ => trivial, k3.mono fun b hb => ⟨trivial, fun e => e.elim hb.1.2 hb.2⟩⟩
theorem Own.same {w w' : World} {e size n : Nat} {v : Value} {xs : List Value} (h : Own w e size v n xs) (hb : ∀ b, v.ownBlock = some b → w'.heap[b]? = w.heap[b]?) : Own w' e size v n xs := by
  obtain ⟨h1, h2⟩ := h
  refine ⟨h1, ?_⟩
  rcases h2 with h2 | ⟨g, cap, cur, rfl, hg, r⟩
  · exact .inl h2
  · exact .inr ⟨g, cap, cur, rfl, (hb g rfl).trans hg, r⟩
theorem Hp.ofSl {e size n : Nat} {v : Value} {xs : List Value} (h : Hp w (SlA e size v n xs :: l)) : Hp w (RoA (fun w => Own w e size v n xs) :: l) := by
  obtain ⟨F, h1, h2, h3⟩ := h
  exact ⟨F, ⟨fun b hb => h1.1.lt ((h1.2 b).1 hb), fun w' hw => h1.1.same fun b hb => hw b ((h1.2 b).2 hb)⟩, h2, h3⟩
theorem Hp.roTrue (h : Hp w l) (hp : ∀ w, p w) : Hp w (RoA p :: l) := h.new (A := RoA p) (F := fun _ => False) ⟨fun _ h => h.elim, fun w' _ => hp w'⟩ (fun _ h => h.elim) (Chg.refl _ _)
theorem xCallV_func (f : FuncId) (cs : List Value) (args : List Value) : xCallV P (.func (.func f) #[] cs.toArray) args w K = xCall P f (args ++ cs) w K := by
  unfold xCallV xCall
  have : (do let d ← Deferred.ofValue (.func (.func f) #[] cs.toArray) args.toArray; invoke d.target d.args : Sem Next) = callFunc f (args ++ cs).toArray := by
    simp [Deferred.ofValue, invoke]
  rw [this]
/-- a part of a slice that is read -/
theorem slice_rd {t e : TypeId} {i : TypeInfo} (ht : P.underlying t = some (.slice e)) (hi : P.info? e = some i) (hs : i.size = 1) {v : Value} {xs : List Value} (h : Rd w v xs) {lo hi' : Nat} (h1 : lo ≤ hi') (h2 : hi' ≤ xs.length) :
    ∃ v', (∀ (w2 : World) (C : VCont), xSlice P t v (some (.int .i64 lo)) (some (.int .i64 hi')) none w2 C = C v' w2) ∧ ∀ w', Rd w' v xs → Rd w' v' ((xs.take hi').drop lo) := by
  obtain ⟨a, cap, rfl, hl, _⟩ := h
  have hlen : ((xs.take hi').drop lo).length = hi' - lo := by rw [List.length_drop, List.length_take]; omega
  refine ⟨.slice (if cap = lo then a else a.map (·.add (lo * i.size))) (hi' - lo) (cap - lo), fun w2 C => ?_, fun w' hr => ?_⟩
  · rw [xSlice_slice ht hi (bounds_lohi (by omega) (by omega) (by omega))]
    simp only [Int.toNat_natCast]
  · obtain ⟨a', cap', he, _, hc⟩ := hr
    cases he
    refine ⟨_, _, by rw [hlen], by rw [hlen]; omega, ?_⟩
    cases a with
    | none =>
      have hx : xs = [] := hc
      subst hx
      have : (if cap = lo then (none : Option Addr) else Option.map (fun x : Addr => x.add (lo * i.size)) none) = none := by split <;> rfl
      rw [this]
      simp
    | some g =>
      by_cases hcl : cap = lo
      · rw [if_pos hcl]
        intro j u hj
        have := (List.getElem?_eq_some_iff.1 hj).1
        omega
      · rw [if_neg hcl]
        intro j u hj
        rw [List.getElem?_drop, List.getElem?_take] at hj
        split at hj
        · rw [hs, Nat.mul_one, add_add]; exact hc _ u hj
        · cases hj
theorem tail_rd {t e : TypeId} {i : TypeInfo} (ht : P.underlying t = some (.slice e)) (hi : P.info? e = some i) (hs : i.size = 1) {v : Value} {xs : List Value} (h : Rd w v xs) {lo : Nat} (h1 : lo ≤ xs.length) :
    ∃ v', (∀ (w2 : World) (C : VCont), xSlice P t v (some (.int .i64 lo)) none none w2 C = C v' w2) ∧ ∀ w', Rd w' v xs → Rd w' v' (xs.drop lo) := by
  obtain ⟨v', h2, h3⟩ := slice_rd (P := P) ht hi hs h (lo := lo) (hi' := xs.length) h1 (Nat.le_refl _)
  refine ⟨v', fun w2 C => ?_, fun w' hr => by have := h3 w' hr; rwa [List.take_length] at this⟩
  rw [← h2 w2 C]
  obtain ⟨a, cap, rfl, hl, _⟩ := h
  rw [xSlice_slice ht hi (bounds_lo (by omega) (by omega)), xSlice_slice ht hi (bounds_lohi (by omega) (by omega) (by omega))]
  simp
/-- an element that is read -/
theorem at_rd {t e : TypeId} {i : TypeInfo} (ht : P.underlying t = some (.slice e)) (hi : P.info? e = some i) (hs : i.size = 1) {v : Value} {k : Nat} {xs : List Value} (h : Rd w v xs) (hk : k < xs.length) :
    ∃ p : Addr, (∀ (w2 : World) (C : VCont), xIndexAddr P t v (.int .i64 k) w2 C = C (.pointer (some p)) w2) ∧ ∀ w', Rd w' v xs → w'.cell? p = some xs[k] := by
  obtain ⟨p, h1, h2⟩ := rdN_at (P := P) (size := 1) ht hi hs h.rdN hk
  refine ⟨p, h1, fun w' hr => ?_⟩
  have := h2 w' hr.rdN 0 (by omega)
  have h0 : p.add 0 = p := rfl
  rw [h0] at this
  rw [this]; simp
end
end Go.Sx
