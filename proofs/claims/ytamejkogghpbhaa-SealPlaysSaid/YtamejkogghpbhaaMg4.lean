import Derived.Test.YtamejkogghpbhaaMg3
section
/- Maps whose keys are strings or integers. -/
set_option linter.unusedVariables false
set_option linter.unusedSimpArgs false
namespace Go.Sx
open Go

theorem ba_beq (a b : ByteArray) : (a == b) = decide (a = b) := by
  cases a with | mk a => cases b with | mk b =>
  show (a == b) = _
  by_cases h : a = b <;> simp [h]
theorem map_eraseIdx' {α β : Type} (f : α → β) (l : List α) (j : Nat) : (l.eraseIdx j).map f = (l.map f).eraseIdx j := by
  simp [List.eraseIdx_eq_take_drop_succ, List.map_take, List.map_drop]
theorem beq_eq_decide' {α : Type} [DecidableEq α] (a b : α) : (a == b) = decide (a = b) := by
  by_cases h : a = b <;> simp [h]
/-- a kind of keys -/
structure Keys (α : Type) [DecidableEq α] (P : Program) (k : TypeId) where
  enc : α → Value
  kind : TypeDesc
  und : P.underlying k = some kind
  same : ∀ a b, Instr.sameNow kind (enc a) (enc b) = some (decide (a = b))
  check : ∀ (w : World) (em : Bool) a, (Instr.checkKey em 10000 k (enc a)).run P w = .ok () w
  stays : ∀ (w : World) a, (Instr.keyThatStays (enc a) (enc a)).run P w = .ok (enc a) w

section
variable {α : Type} [DecidableEq α] {P : Program} {k : TypeId}

def entries (E : α → Value) (l : List (α × Value)) (es : List MapEntry) : Prop := es.map (fun e => (e.key, e.val)) = l.map fun p => (E p.1, p.2)
/-- Block b is a map that holds just these, in the order of their coming. -/
def MapAt (E : α → Value) (w : World) (b : Nat) (l : List (α × Value)) : Prop :=
  ∃ es clock, w.heap[b]? = some (.map es clock) ∧ entries E l es.toList ∧ es.toList.Pairwise (fun x y => x.born < y.born) ∧ (∀ e ∈ es.toList, e.born < clock) ∧ (l.map (·.1)).Nodup

omit [DecidableEq α] in
theorem MapAt.keep {E : α → Value} {w w' : World} {b : Nat} {l : List (α × Value)} {S : Nat → Prop} (h : MapAt E w b l) (hc : Chg S w w') (hn : ¬ S b) : MapAt E w' b l := by
  obtain ⟨es, c, h1, h2⟩ := h
  exact ⟨es, c, hc.keep h1 hn, h2⟩
omit [DecidableEq α] in
theorem MapAt.lt {E : α → Value} {w : World} {b : Nat} {l : List (α × Value)} (h : MapAt E w b l) : b < w.heap.size := by
  obtain ⟨es, c, h1, _⟩ := h
  exact size_pos h1
omit [DecidableEq α] in
theorem MapAt.new (E : α → Value) (w : World) : MapAt E (w.alloc (.map #[] 0)) w.heap.size [] :=
  ⟨#[], 0, heap_alloc_new w _, rfl, by simp, by simp, by simp⟩

def mget (l : List (α × Value)) (a : α) : Option Value := (l.find? fun p => decide (p.1 = a)).map (·.2)
/-- the place of a key -/
theorem findNow_spec (X : Keys α P k) (a : α) : ∀ (l : List (α × Value)) (es : List MapEntry) (i : Nat), entries X.enc l es →
    Instr.findNow X.kind (X.enc a) es i = some (((l.findIdx? fun p => decide (p.1 = a))).map fun j => (i + j, ((mget l a).getD undef))) := by
  intro l
  induction l with
  | nil =>
    intro es i h
    have : es = [] := by cases es <;> simp_all [entries]
    subst this
    rfl
  | cons p l ih =>
    intro es i h
    cases es with
    | nil => simp [entries] at h
    | cons e es =>
      simp only [entries, List.map_cons, List.cons.injEq, Prod.mk.injEq] at h
      obtain ⟨⟨h1, h2⟩, h3⟩ := h
      unfold Instr.findNow
      rw [h1, X.same]
      by_cases hpa : p.1 = a
      · have : decide (a = p.1) = true := by simp [hpa]
        rw [this]
        simp [List.findIdx?_cons, hpa, mget, h2]
      · have : decide (a = p.1) = false := by simp; exact fun h => hpa h.symm
        rw [this]
        simp only
        rw [ih es (i + 1) h3]
        simp only [List.findIdx?_cons, hpa, decide_false, mget, List.find?_cons]
        cases l.findIdx? fun p => decide (p.1 = a) <;> simp; omega

theorem findKey_run (X : Keys α P k) (a : α) {l : List (α × Value)} {es : List MapEntry} (w : World) (h : entries X.enc l es) :
    (Instr.findKey k (X.enc a) es).run P w = .ok ((l.findIdx? fun p => decide (p.1 = a)).map fun j => (j, (mget l a).getD undef)) w := by
  unfold Instr.findKey
  simp only [Sem.run_bind, run_underlying X.und, Result.andThen_ok]
  rw [findNow_spec X a l es 0 h]
  simp

theorem mget_none_iff (l : List (α × Value)) (a : α) : l.findIdx? (fun p => decide (p.1 = a)) = none ↔ mget l a = none := by
  unfold mget
  rw [Option.map_eq_none_iff, List.findIdx?_eq_none_iff, List.find?_eq_none]
  simp
theorem lookup_run (X : Keys α P k) (a : α) {l : List (α × Value)} {t e : TypeId} {i : TypeInfo} {z : Value} {b : Nat} (w : World) (ht : P.underlying t = some (.map k e)) (hi : P.info? e = some i) (hz : i.zero = some z)
    (h : MapAt X.enc w b l) (ok : Bool) : (Instr.lookup t (.map (some b)) (X.enc a) ok).run P w =
      .ok (if ok then .tuple #[(mget l a).getD z, .bool (mget l a).isSome] else (mget l a).getD z) w := by
  obtain ⟨es, c, hb, he, _⟩ := h
  unfold Instr.lookup
  simp only [Sem.run_bind, run_underlying ht, Result.andThen_ok]
  have hg : (getObj b).run P w = .ok (.map es c) w := by simp [getObj, Sem.run, hb]
  rw [hg]
  simp only [Result.andThen_ok, Sem.run_pure, Sem.run_bind]
  rw [X.check]
  simp only [Result.andThen_ok]
  rw [findKey_run X a w he]
  simp only [Result.andThen_ok]
  cases hf : l.findIdx? fun p => decide (p.1 = a) with
  | none =>
    have hn := (mget_none_iff l a).1 hf
    simp only [Option.map_none, Sem.run_bind, zeroValue, typeInfo, run_program, hi, Result.andThen_ok, Sem.run_pure, hz, hn]
    cases ok <;> rfl
  | some j =>
    have : ∃ v, mget l a = some v := by
      cases hg : mget l a with
      | none => rw [(mget_none_iff l a).2 hg] at hf; cases hf
      | some v => exact ⟨v, rfl⟩
    obtain ⟨v, hv⟩ := this
    simp only [Option.map_some, hv, Option.getD_some, Option.isSome_some]
    cases ok <;> rfl
theorem xLookup_map {K : VCont} {w : World} (X : Keys α P k) (a : α) {l : List (α × Value)} {t e : TypeId} {i : TypeInfo} {z : Value} {b : Nat} (ht : P.underlying t = some (.map k e)) (hi : P.info? e = some i) (hz : i.zero = some z)
    (h : MapAt X.enc w b l) {v : Value} (hv : v = X.enc a) : xLookup P t (.map (some b)) v false w K = K ((mget l a).getD z) w := by
  subst hv
  unfold xLookup
  exact xv_iff (by rw [lookup_run X a w ht hi hz h]; rfl)
theorem xLookup_map2 {K : VCont} {w : World} (X : Keys α P k) (a : α) {l : List (α × Value)} {t e : TypeId} {i : TypeInfo} {z : Value} {b : Nat} (ht : P.underlying t = some (.map k e)) (hi : P.info? e = some i) (hz : i.zero = some z)
    (h : MapAt X.enc w b l) {v : Value} (hv : v = X.enc a) : xLookup P t (.map (some b)) v true w K = K (.tuple #[(mget l a).getD z, .bool (mget l a).isSome]) w := by
  subst hv
  unfold xLookup
  exact xv_iff (by rw [lookup_run X a w ht hi hz h]; rfl)

/-- the map behind a store -/
def ins (l : List (α × Value)) (a : α) (v : Value) : List (α × Value) := if (mget l a).isSome then l.map fun p => if p.1 = a then (a, v) else p else l ++ [(a, v)]
def del (l : List (α × Value)) (a : α) : List (α × Value) := l.filter fun p => decide (p.1 ≠ a)

theorem mapUpdate_run (X : Keys α P k) (a : α) (v : Value) {l : List (α × Value)} {t e : TypeId} {b : Nat} (w : World) (ht : P.underlying t = some (.map k e)) (h : MapAt X.enc w b l) :
    ∃ o, (Instr.mapUpdate t (.map (some b)) (X.enc a) v).run P w = .ok () { w with heap := w.heap.setIfInBounds b o } ∧ MapAt X.enc { w with heap := w.heap.setIfInBounds b o } b (ins l a v) := by
  have hlt := h.lt
  obtain ⟨es, c, hb, he, hp, hc, hn⟩ := h
  have hg : (getObj b).run P w = .ok (.map es c) w := by simp [getObj, Sem.run, hb]
  have hs : ∀ o, (setObj b o).run P w = .ok () { w with heap := w.heap.setIfInBounds b o } := by intro o; simp [setObj, Sem.run, hb]
  unfold Instr.mapUpdate
  simp only [Sem.run_bind, run_underlying ht, Result.andThen_ok, hg, X.check, findKey_run X a w he]
  have hlen : es.toList.length = l.length := by have := congrArg List.length he; simpa using this
  have hsz : es.size = l.length := by simpa using hlen
  cases hf : l.findIdx? fun p => decide (p.1 = a) with
  | none =>
    have hgn := (mget_none_iff l a).1 hf
    simp only [Option.map_none]
    refine ⟨_, hs _, es.push { key := X.enc a, val := v, born := c }, c + 1, by simp [hlt], ?_, ?_, ?_, ?_⟩
    · unfold entries at he ⊢
      simp [ins, hgn, he]
    · simp only [Array.toList_push, List.pairwise_append, hp, List.pairwise_singleton, true_and]
      intro x hx y hy
      obtain rfl := List.mem_singleton.1 hy
      exact hc x hx
    · intro x hx
      simp only [Array.toList_push, List.mem_append, List.mem_singleton] at hx
      rcases hx with hx | rfl
      · exact Nat.lt_succ_of_lt (hc x hx)
      · exact Nat.lt_succ_self _
    · simp only [ins, hgn, Option.isSome_none, Bool.false_eq_true, if_false, List.map_append, List.map_cons, List.map_nil, List.nodup_append]
      refine ⟨hn, by simp, ?_⟩
      intro x hx y hy hxy
      simp at hy
      subst hy; subst hxy
      obtain ⟨p, hp, rfl⟩ := List.mem_map.1 hx
      unfold mget at hgn
      rw [Option.map_eq_none_iff, List.find?_eq_none] at hgn
      simpa using hgn p hp
  | some j =>
    obtain ⟨hj, hja, hjm⟩ := List.findIdx?_eq_some_iff_getElem.1 hf
    have hja' : (l[j]).1 = a := by simpa using hja
    have hgs : (mget l a).isSome = true := by
      cases hgl : mget l a with
      | none => rw [(mget_none_iff l a).2 hgl] at hf; cases hf
      | some v => rfl
    have hej : ∃ e0, es[j]? = some e0 ∧ e0.key = X.enc a := by
      have hje : j < es.toList.length := by omega
      refine ⟨es.toList[j], by simp, ?_⟩
      have h1 : (es.toList.map fun e => (e.key, e.val))[j]'(by simpa using hje) = (l.map fun p => (X.enc p.1, p.2))[j]'(by simpa using hj) := by simp only [entries] at he; simp only [he]
      simp only [List.getElem_map, Prod.mk.injEq] at h1
      rw [h1.1, hja']
    obtain ⟨e0, he0, hk0⟩ := hej
    simp only [Option.map_some, he0, Option.getD_some, Sem.run_bind, hk0, X.stays, Result.andThen_ok]
    refine ⟨_, hs _, es.modify j fun e => { e with key := X.enc a, val := v }, c, by simp [hlt], ?_, ?_, ?_, ?_⟩
    · unfold entries at he ⊢
      have hins : ins l a v = l.modify j fun _ => (a, v) := by
        unfold ins
        rw [if_pos hgs]
        apply List.ext_getElem (by simp)
        intro i h1 h2
        simp only [List.getElem_map, List.getElem_modify]
        have hil : i < l.length := by simpa using h1
        by_cases hij : j = i
        · subst hij; simp [hja']
        · rw [if_neg (fun h => hij h)]
          rw [if_neg]
          intro hia
          have hpw := List.pairwise_iff_getElem.1 hn
          rcases Nat.lt_or_gt_of_ne hij with h | h
          · exact hpw j i (by simpa using hj) (by simpa using hil) h (by simp [hja', hia])
          · exact hpw i j (by simpa using hil) (by simpa using hj) h (by simp [hja', hia])
      rw [hins]
      apply List.ext_getElem (by simp [hlen])
      intro i h1 h2
      have hil : i < l.length := by simpa using h2
      have h3 : (es.toList.map fun e => (e.key, e.val))[i]'(by simpa [hsz] using hil) = (l.map fun p => (X.enc p.1, p.2))[i]'(by simpa using hil) := by simp only [he]
      simp only [List.getElem_map] at h3
      simp only [Array.toList_modify, List.getElem_map, List.getElem_modify]
      by_cases hij : j = i
      · subst hij; simp
      · simpa [hij] using h3
    · simp only [Array.toList_modify]
      rw [List.pairwise_iff_getElem] at hp ⊢
      intro i1 i2 hi1 hi2 h12
      have := hp i1 i2 (by simpa using hi1) (by simpa using hi2) h12
      simp only [List.getElem_modify]
      split <;> split <;> simpa using this
    · intro x hx
      simp only [Array.toList_modify] at hx
      obtain ⟨i, hi, rfl⟩ := List.getElem_of_mem hx
      simp only [List.getElem_modify]
      have := hc (es.toList[i]'(by simpa using hi)) (List.getElem_mem _)
      split <;> simpa using this
    · have : (ins l a v).map (·.1) = l.map (·.1) := by
        unfold ins
        rw [if_pos hgs, List.map_map]
        apply List.map_congr_left
        intro p _
        simp only [Function.comp]
        split
        · rename_i h; exact h.symm
        · rfl
      rw [this]; exact hn
theorem chg_setObj (w : World) (b : Nat) (o : Obj) : Chg (· = b) w { w with heap := w.heap.setIfInBounds b o } :=
  ⟨rfl, rfl, rfl, by simp, fun i _ hn => by simp [Array.getElem?_setIfInBounds_ne (fun h => hn h.symm)]⟩
theorem xMapUpdate_map {K : VCont} {w : World} (X : Keys α P k) (a : α) (v : Value) {l : List (α × Value)} {t e : TypeId} {b : Nat} (ht : P.underlying t = some (.map k e)) (h : MapAt X.enc w b l)
    {kv : Value} (hkv : kv = X.enc a) (hK : ∀ w', MapAt X.enc w' b (ins l a v) → Chg (· = b) w w' → w'.heap.size = w.heap.size → K undef w') : xMapUpdate P t (.map (some b)) kv v w K := by
  subst hkv
  obtain ⟨o, h1, h2⟩ := mapUpdate_run X a v w ht h
  unfold xMapUpdate
  rw [xu_iff h1]
  exact hK _ h2 (chg_setObj w b o) (by simp)
theorem delete_run (X : Keys α P k) (a : α) {l : List (α × Value)} {t e : TypeId} {b : Nat} (w : World) (ht : P.underlying t = some (.map k e)) (h : MapAt X.enc w b l) (ts : Array TypeId) (hts : ts[0]? = some t) (ty : TypeId) :
    ∃ o, (Builtin.delete_ ts ty #[.map (some b), X.enc a]).run P w = .ok (.tuple #[]) { w with heap := w.heap.setIfInBounds b o } ∧ MapAt X.enc { w with heap := w.heap.setIfInBounds b o } b (del l a) := by
  have hlt := h.lt
  obtain ⟨es, c, hb, he, hp, hc, hn⟩ := h
  have hg : (getObj b).run P w = .ok (.map es c) w := by simp [getObj, Sem.run, hb]
  have hs : ∀ o, (setObj b o).run P w = .ok () { w with heap := w.heap.setIfInBounds b o } := by intro o; simp [setObj, Sem.run, hb]
  unfold Builtin.delete_
  have h0 : (#[Value.map (some b), X.enc a] : Array Value)[0]? = some (.map (some b)) := rfl
  have h1 : (#[Value.map (some b), X.enc a] : Array Value)[1]? = some (X.enc a) := rfl
  simp only [hts, h0, h1, Sem.run_bind, run_underlying ht, Result.andThen_ok, hg, X.check, findKey_run X a w he]
  have hlen : es.toList.length = l.length := by have := congrArg List.length he; simpa using this
  have hsz : es.size = l.length := by simpa using hlen
  cases hf : l.findIdx? fun p => decide (p.1 = a) with
  | none =>
    simp only [Option.map_none]
    have hd : del l a = l := by
      unfold del
      rw [List.filter_eq_self]
      rw [List.findIdx?_eq_none_iff] at hf
      intro p hp
      have := hf p hp
      simpa using this
    exact ⟨.map es c, by rw [Sem.run_bind, hs]; rfl, es, c, by simp [hlt], by rw [hd]; exact he, hp, hc, by rw [hd]; exact hn⟩
  | some j =>
    obtain ⟨hj, hja, hjm⟩ := List.findIdx?_eq_some_iff_getElem.1 hf
    have hja' : (l[j]).1 = a := by simpa using hja
    simp only [Option.map_some]
    have hd : del l a = l.eraseIdx j := by
      unfold del
      have hpw := List.pairwise_iff_getElem.1 hn
      have hsplit : l = l.take j ++ l[j] :: l.drop (j + 1) := by simp
      rw [List.eraseIdx_eq_take_drop_succ]
      conv => lhs; rw [hsplit]
      rw [List.filter_append, List.filter_cons]
      rw [if_neg (by simp [hja'])]
      congr 1
      · rw [List.filter_eq_self]
        intro p hp
        obtain ⟨i, hi, rfl⟩ := List.getElem_of_mem hp
        have hij : i < j := by simp at hi; omega
        have := hpw i j (by simp; omega) (by simpa using hj) hij
        simp only [List.getElem_map, hja'] at this
        simpa using this
      · rw [List.filter_eq_self]
        intro p hp
        obtain ⟨i, hi, rfl⟩ := List.getElem_of_mem hp
        have hil : j + 1 + i < l.length := by simp at hi; omega
        have := hpw j (j + 1 + i) (by simpa using hj) (by simpa using hil) (by omega)
        simp only [List.getElem_map, hja'] at this
        simp only [List.getElem_drop, ne_eq, decide_not, Bool.not_eq_true', decide_eq_false_iff_not]
        exact fun h => this h.symm
    refine ⟨.map (es.eraseIdxIfInBounds j) c, by rw [Sem.run_bind, hs]; rfl, es.eraseIdxIfInBounds j, c, by simp [hlt], ?_, ?_, ?_, ?_⟩
    · unfold entries at he ⊢
      rw [hd]
      have : (es.eraseIdxIfInBounds j).toList = es.toList.eraseIdx j := by simp
      rw [this]
      rw [map_eraseIdx', map_eraseIdx', he]
    · have : (es.eraseIdxIfInBounds j).toList = es.toList.eraseIdx j := by simp
      rw [this]
      exact hp.sublist (List.eraseIdx_sublist _ _)
    · have : (es.eraseIdxIfInBounds j).toList = es.toList.eraseIdx j := by simp
      rw [this]
      intro x hx
      exact hc x (List.mem_of_mem_eraseIdx hx)
    · exact hn.sublist ((List.filter_sublist).map _)
theorem xDelete_map {K : VCont} {w : World} (X : Keys α P k) (a : α) {l : List (α × Value)} {t e : TypeId} {b : Nat} (ht : P.underlying t = some (.map k e)) (h : MapAt X.enc w b l) {ts : List TypeId} {ty : TypeId} {cs : List Bool}
    {kv : Value} (hkv : kv = X.enc a) (hK : ∀ w', MapAt X.enc w' b (del l a) → Chg (· = b) w w' → w'.heap.size = w.heap.size → K (.tuple #[]) w') : xBuiltin P .delete (List.toArray (t :: ts)) ty cs [.map (some b), kv] w K := by
  subst hkv
  obtain ⟨o, h1, h2⟩ := delete_run X a w ht h (List.toArray (t :: ts)) rfl ty
  unfold xBuiltin xNext
  have : (builtin .delete (List.toArray (t :: ts)) ty cs.toArray [.map (some b), X.enc a].toArray).run P w = .ok (.value (.tuple #[])) { w with heap := w.heap.setIfInBounds b o } := by
    unfold builtin
    exact run_next_v h1
  rw [this]
  exact hK _ h2 (chg_setObj w b o) (by simp)
end

def strKeys {P : Program} {k : TypeId} (h : P.underlying k = some .string) : Keys ByteArray P k where
  enc := .string
  kind := .string
  und := h
  same a b := by simp [Instr.sameNow, ba_beq]
  check w em a := by unfold Instr.checkKey; simp [run_underlying h]
  stays w a := by simp [Instr.keyThatStays, Instr.sameBits, ba_beq]
def intKeys {P : Program} {k : TypeId} (h : P.underlying k = some (.int .i64)) : Keys Int P k where
  enc := .int .i64
  kind := .int .i64
  und := h
  same a b := by simp [Instr.sameNow, beq_eq_decide']
  check w em a := by unfold Instr.checkKey; simp [run_underlying h]
  stays w a := by simp [Instr.keyThatStays, Instr.sameBits]
end Go.Sx
end
section
/- Steps: the operations that touch memory, the world behind them a name; a bundle of the plain ones; loops. -/
set_option linter.unusedVariables false
set_option linter.unusedSimpArgs false
namespace Go.Sx
open Go

theorem xLoad1_cell {w : World} {K : VCont} (a : Addr) : xLoad1 (.pointer (some a)) w K = (match w.cell? a with | some x => K x w | none => False) := by
  unfold xLoad1
  cases h : w.cell? a with
  | none => simp [h]
  | some x =>
    refine propext ⟨?_, fun hk => ⟨a, x, rfl, h, hk⟩⟩
    rintro ⟨b, y, hb, hy, hk⟩
    cases hb
    rw [h] at hy; cases hy; exact hk

/-- the plain ones, for 'simp only': those that ask for no program, and those that do -/
theorem xs : (∀ a b : Prop, xIf (.bool true) a b = a) ∧
    (∀ a b : Prop, xIf (.bool false) a b = b) ∧
    (∀ (t : Bool) (a b : Value) (w : World) (K : VCont), xPick (.bool t) a b w K = K (cond t a b) w) ∧
    (∀ (f : VCont → Prop) (w : World) (K : VCont), xWhen (.bool true) true f w K = f K) ∧
    (∀ (f : VCont → Prop) (w : World) (K : VCont), xWhen (.bool false) false f w K = f K) ∧
    (∀ (f : VCont → Prop) (w : World) (K : VCont), xWhen (.bool true) false f w K = K undef w) ∧
    (∀ (f : VCont → Prop) (w : World) (K : VCont), xWhen (.bool false) true f w K = K undef w) ∧
    (∀ (t : Bool) (f : VCont → Prop) (w : World) (K : VCont), xWhen undef t f w K = K undef w) ∧
    (∀ (a : Addr) (w : World) (K : VCont), xNil (.pointer (some a)) w K = K (.pointer (some a)) w) ∧
    (∀ (n b o : Nat) (w : World) (K : VCont), xOff (some n) (.pointer (some ⟨b, o, none⟩)) w K = K (.pointer (some ⟨b, o + n, none⟩)) w) ∧
    (∀ (a : Value) (l : List Value) (w : World) (K : VCont), xExtract (.tuple (List.toArray (a :: l))) 0 w K = K a w) ∧
    (∀ (a b : Value) (l : List Value) (w : World) (K : VCont), xExtract (.tuple (List.toArray (a :: b :: l))) 1 w K = K b w) ∧
    (∀ (a b c : Value) (l : List Value) (w : World) (K : VCont), xExtract (.tuple (List.toArray (a :: b :: c :: l))) 2 w K = K c w) ∧
    (∀ (a b c d : Value) (l : List Value) (w : World) (K : VCont), xExtract (.tuple (List.toArray (a :: b :: c :: d :: l))) 3 w K = K d w) ∧
    (∀ (a : Addr) (w : World) (K : VCont), xLoad1 (.pointer (some a)) w K = (match w.cell? a with | some x => K x w | none => False)) ∧
    (∀ (w : World) (K : World → Prop), Sx.dr w K = K w.drew) :=
  ⟨xIf_true,
    xIf_false,
    fun t a b w K => xPick_bool t a b,
    fun f w K => xWhen_yes true f,
    fun f w K => xWhen_yes false f,
    fun f w K => xWhen_tf f,
    fun f w K => xWhen_ft f,
    fun t f w K => xWhen_undef t f,
    fun a w K => xNil_some a,
    fun n b o w K => xOff_some n b o,
    fun a l w K => xExtract_0 a l,
    fun a b l w K => xExtract_1 a b l,
    fun a b c l w K => xExtract_2 a b c l,
    fun a b c d l w K => xExtract_3 a b c d l,
    fun a w K => xLoad1_cell a,
    fun w K => rfl⟩
theorem xb {P : Program} : (∀ (t : TypeId) (k : IntKind) (a b : Int) (w : World) (K : VCont), xBin P .add t (.int k a) (.int k b) w K = K (.int k (k.wrap (a + b))) w) ∧
    (∀ (t : TypeId) (k : IntKind) (a b : Int) (w : World) (K : VCont), xBin P .sub t (.int k a) (.int k b) w K = K (.int k (k.wrap (a - b))) w) ∧
    (∀ (t : TypeId) (k : IntKind) (a b : Int) (w : World) (K : VCont), xBin P .mul t (.int k a) (.int k b) w K = K (.int k (k.wrap (a * b))) w) ∧
    (∀ (t : TypeId) (k : IntKind) (a b : Int) (w : World) (K : VCont), xBin P .lss t (.int k a) (.int k b) w K = K (.bool (decide (a < b))) w) ∧
    (∀ (t : TypeId) (k : IntKind) (a b : Int) (w : World) (K : VCont), xBin P .leq t (.int k a) (.int k b) w K = K (.bool (decide (a ≤ b))) w) ∧
    (∀ (t : TypeId) (k : IntKind) (a b : Int) (w : World) (K : VCont), xBin P .gtr t (.int k a) (.int k b) w K = K (.bool (decide (b < a))) w) ∧
    (∀ (t : TypeId) (k : IntKind) (a b : Int) (w : World) (K : VCont), xBin P .geq t (.int k a) (.int k b) w K = K (.bool (decide (b ≤ a))) w) ∧
    (∀ (b : Bool) (w : World) (K : VCont), xUn P .not (.bool b) w K = K (.bool (!b)) w) ∧
    (∀ (t : TypeId) (cx cy : Bool) (k : IntKind) (a b : Int) (w : World) (K : VCont), xEq P .eql t cx cy (.int k a) (.int k b) w K = K (.bool (decide (a = b))) w) ∧
    (∀ (t : TypeId) (cx cy : Bool) (k : IntKind) (a b : Int) (w : World) (K : VCont), xEq P .neq t cx cy (.int k a) (.int k b) w K = K (.bool (!decide (a = b))) w) ∧
    (∀ (a b : Int) (w : World) (K : VCont), xMinMax P true [.int .i64 a, .int .i64 b] w K = K (.int .i64 (max a b)) w) ∧
    (∀ (a b : Int) (w : World) (K : VCont), xMinMax P false [.int .i64 a, .int .i64 b] w K = K (.int .i64 (min a b)) w) :=
  ⟨fun t k a b w K => xBin_add t k a b,
    fun t k a b w K => xBin_sub t k a b,
    fun t k a b w K => xBin_mul t k a b,
    fun t k a b w K => xBin_lss t k a b,
    fun t k a b w K => xBin_leq t k a b,
    fun t k a b w K => xBin_gtr t k a b,
    fun t k a b w K => xBin_geq t k a b,
    fun b w K => xUn_not b,
    fun t cx cy k a b w K => xEq_int t cx cy k a b,
    fun t cx cy k a b w K => xNe_int t cx cy k a b,
    fun a b w K => xMax_i64 a b,
    fun a b w K => xMin_i64 a b⟩

/-- booleans that are known -/
theorem xd : (∀ h : Decidable True, @decide True h = true) ∧ (∀ h : Decidable False, @decide False h = false) ∧ (∀ a b : Value, cond true a b = a) ∧ (∀ a b : Value, cond false a b = b) ∧ (!true) = false ∧ (!false) = true :=
  ⟨fun h => by simp, fun h => by simp, fun a b => rfl, fun a b => rfl, rfl, rfl⟩
section
variable {P : Program} {w : World} {K : VCont}
theorem store_blk {t b o T : Nat} {i : TypeInfo} {v : Value} {cs : Array Value} (hi : P.info? t = some i) (hs : i.size = 1) (hv : v.oneCell' = true) (hb : w.heap[b]? = some (.cells cs T (0, 0))) (ho : o < cs.size)
    (hK : ∀ w', w'.heap[b]? = some (.cells (cs.setIfInBounds o v) T (0, 0)) → Chg (· = b) w w' → w'.heap.size = w.heap.size → K undef w') :
    xStore P t (.pointer (some ⟨b, o, none⟩)) v w K := by
  rw [xStore1 hi hs hv (x := cs[o]) (by rw [cell_of_block hb]; simp [ho]) (by simp [World.frozen?, hb])]
  refine hK _ ?_ (Chg.setCell w _ v rfl) (by simp [World.setCell])
  simp [World.setCell, Array.getElem?_modify, hb]
theorem box_step {t : TypeId} {v : Value} (hK : ∀ b w', b = w.heap.size → w'.heap[b]? = some (.cells v.cells t (0, 0)) → Chg none' w w' → w'.heap.size = w.heap.size + 1 → K (.pointer (some ⟨b, 0, none⟩)) w') :
    xBox P t v w K := by
  rw [xBox_eq]
  exact hK _ _ rfl (heap_alloc_new w _) (Chg.alloc w _ _) (by simp)
theorem alloc_step {t : TypeId} {i : TypeInfo} {z : Value} (hi : P.info? t = some i) (hz : i.zero = some z)
    (hK : ∀ b w', b = w.heap.size → w'.heap[b]? = some (.cells z.cells t (0, 0)) → Chg none' w w' → w'.heap.size = w.heap.size + 1 → K (.pointer (some ⟨b, 0, none⟩)) w') : xAlloc P t w K := by
  rw [xAlloc_eq hi hz]
  exact hK _ _ rfl (heap_alloc_new w _) (Chg.alloc w _ _) (by simp)
theorem makeMap_step {t : TypeId} {α : Type} (E : α → Value) (hK : ∀ b w', b = w.heap.size → MapAt E w' b [] → Chg none' w w' → w'.heap.size = w.heap.size + 1 → K (.map (some b)) w') : xMakeMap P t none w K := by
  rw [xMakeMap_eq]
  exact hK _ _ rfl (MapAt.new E w) (Chg.alloc w _ _) (by simp)
/-- bytes as a string -/
theorem bytes_string {s d e : TypeId} (hs : P.underlying s = some (.slice e)) (he : P.underlying e = some (.int .u8)) (hd : P.underlying d = some .string) {v : Value} {l : List UInt8} (h : Rd w v (l.map bv)) :
    xConvK P .read s d v w K = K (.string ⟨l.toArray⟩) w := by
  obtain ⟨a, cap, rfl, hl, h⟩ := h
  unfold xConvK
  refine xv_iff ?_
  rw [run_convert_bytes_string w s d e a _ _ hs he hd]
  cases a with
  | none =>
    have : l = [] := by simpa using h
    subst this
    rfl
  | some g =>
    have hc : (loadCells g (l.map bv).length).run P w = .ok ((l.map fun x => (x.toNat : Int)).map (Value.int .u8)).toArray w := by
      have := loadCells_run (P := P) (w := w) (a := g) (cs := l.map bv) rfl (fun i hi => by
        rw [List.getElem?_eq_getElem hi]
        exact h i _ (List.getElem?_eq_getElem hi))
      rw [this]
      have h3 : (l.map fun x => (x.toNat : Int)).map (Value.int .u8) = l.map bv := by rw [List.map_map]; rfl
      rw [h3]
    rw [run_bytesToString w g _ cap _ hc]
    congr 2
    have : ∀ (l : List UInt8) (s : ByteArray), (l.map fun x => (x.toNat : Int)).foldl (fun r n => r.push (UInt8.ofNat n.toNat)) s = ⟨s.data ++ l.toArray⟩ := by
      intro l
      induction l with
      | nil => intro s; simp
      | cons x l ih =>
        intro s
        simp only [List.map_cons, List.foldl_cons]
        rw [ih]
        have hx : UInt8.ofNat ((x.toNat : Int)).toNat = x := by simp
        rw [hx]
        simp [ByteArray.push]
    rw [this]
    simp
theorem fill_bytes (vs : List Value) (h1 : ∀ u ∈ vs, u.oneCell' = true) : ∀ (n : Nat) (pre : List Value), pre.length + vs.length = n → ∀ z : List Value, z.length = vs.length →
    Instr.fill (fun i => some (i, 1)) (pre ++ z).toArray ((vs.zipIdx pre.length).map fun p => (p.2, p.1)) = some (pre ++ vs).toArray := by
  induction vs with
  | nil => intro n pre _ z hz; have : z = [] := List.eq_nil_of_length_eq_zero (by simpa using hz); subst this; rfl
  | cons v vs ih =>
    intro n pre hn z hz
    cases z with
    | nil => simp at hz
    | cons y z =>
      have hv : v.cells = #[v] := by have := h1 v (by simp); cases v <;> simp_all [Value.cells, Value.oneCell']
      simp only [List.zipIdx_cons, List.map_cons, Instr.fill, hv]
      have hcond : ¬ ((#[v] : Array Value).size ≠ 1 || pre.length + (#[v] : Array Value).size > (pre ++ y :: z).toArray.size) = true := by simp
      rw [if_neg hcond]
      have := ih (fun u hu => h1 u (by simp [hu])) n (pre ++ [v]) (by simp at hn ⊢; omega) z (by simpa using hz)
      have h2 : (List.foldl (fun cs x => cs.setIfInBounds (pre.length + x.2) x.1) (pre ++ y :: z).toArray (#[v] : Array Value).zipIdx.toList) = (pre ++ [v] ++ z).toArray := by
        simp
      have h3 : ((#[v] : Array Value).zipIdx.foldl (fun cs (x : Value × Nat) => cs.setIfInBounds (pre.length + x.2) x.1) (pre ++ y :: z).toArray) = (pre ++ [v] ++ z).toArray := by
        rw [← Array.foldl_toList]; exact h2
      rw [show (pre ++ [v]).length = pre.length + 1 by simp] at this
      rw [show (pre ++ v :: vs) = (pre ++ [v]) ++ vs by simp]
      rw [← this, ← h3]
/-- a slice that is written out: elements of one cell each -/
theorem buildSlice_step {t e : TypeId} {i : TypeInfo} {z : Value} (ht : P.underlying t = some (.slice e)) (hi : P.info? e = some i) (hs : i.size = 1) (hz : i.zero = some z) (hz1 : z.cells.size = 1) {vs : List Value} {n : Nat} {ps : List (Nat × Value)}
    (hn : vs.length = n) (hps : ps = (vs.zipIdx 0).map fun p => (p.2, p.1)) (h1 : ∀ u ∈ vs, u.oneCell' = true) (hbig : n ≤ 16777216)
    (hK : ∀ v w', Own w' e 1 v n vs → v.ownBlock = some w.heap.size → Chg none' w w' → w'.heap.size = w.heap.size + 1 → K v w') : xBuildSlice P t n ps w K := by
  unfold xBuildSlice
  have : (Instr.buildSlice t n ps.toArray).run P w = .ok (.slice (some ⟨w.heap.size, 0, none⟩) n n) (w.alloc (.cells vs.toArray e)) := by
    unfold Instr.buildSlice
    simp only [Sem.run_bind, run_underlying ht, Result.andThen_ok, sizeOf, typeInfo, run_program, hi, Sem.run_pure, hs, Nat.mul_one]
    rw [if_neg (by omega)]
    subst hps
    have hfill : ∀ z' : Array Value, z'.size = n → Instr.fill (fun i => some (i, 1)) z' ((vs.zipIdx 0).map fun p => (p.2, p.1)) = some vs.toArray := by
      intro z' hz'
      have := fill_bytes vs h1 n [] (by simpa using hn) z'.toList (by simpa [hn] using hz')
      simpa using this
    by_cases h0 : n = 0
    · subst h0
      simp only [if_true, pure_bind]
      rw [hfill _ (by simp)]
      rfl
    · simp only [h0, if_false, zeroValue, typeInfo, Sem.run_bind, run_program, hi, Result.andThen_ok, Sem.run_pure, hz]
      rw [hfill _ (by simp)]
      rfl
  rw [xv_iff this]
  refine hK _ _ ⟨by simpa using hn, .inr ⟨w.heap.size, n, vs.toArray, rfl, heap_alloc_new w _, Nat.le_refl _, by unfold maxLen; omega, by simp [hn], by simp [← hn]⟩⟩ rfl (Chg.alloc w _ _) (by simp)
end

/-- A loop: what holds at its head, and what goes down. -/
theorem Lp.intro {T : LX → List Value → World → Prop} {s : List Value} {w : World} (I : List Value → World → Prop) (μ : List Value → World → Nat) (h0 : I s w)
    (round : ∀ s w, I s w → ∀ X : LX, (∀ s' w', I s' w' → μ s' w' < μ s w → X s' w') → T X s w) : Lp T s w := by
  intro X hX
  have key : ∀ n s w, μ s w = n → I s w → X s w := by
    intro n
    induction n using Nat.strongRecOn with
    | _ n ih =>
      intro s w hn hI
      exact hX s w (round s w hI X fun s' w' hI' hlt => ih (μ s' w') (hn ▸ hlt) s' w' rfl hI')
  exact key _ s w rfl h0
/-- .. with a number that goes down beside the state. -/
theorem Lp.gen {T : LX → List Value → World → Prop} {s : List Value} {w : World} (I : Nat → List Value → World → Prop) (n : Nat) (h0 : I n s w)
    (round : ∀ n s w, I n s w → ∀ X : LX, (∀ n' s' w', I n' s' w' → n' < n → X s' w') → T X s w) : Lp T s w := by
  intro X hX
  have key : ∀ n s w, I n s w → X s w := by
    intro n
    induction n using Nat.strongRecOn with
    | _ n ih =>
      intro s w hI
      exact hX s w (round n s w hI X fun n' s' w' hI' hlt => ih n' hlt s' w' hI')
  exact key n s w h0
end Go.Sx
end
