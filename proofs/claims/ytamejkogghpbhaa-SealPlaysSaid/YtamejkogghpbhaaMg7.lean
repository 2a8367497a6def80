import Derived.Test.YtamejkogghpbhaaMg4
import Derived.Test.YtamejkogghpbhaaMg6
import Derived.Laws.OwnMore
section
/- The keys of a map of strings, sorted: the kit's contracts, turned to this calculus. -/
set_option linter.unusedVariables false
set_option linter.unusedSimpArgs false
namespace Go.Sx
open Go

/-- is there such a function, with a body? -/
def hasBody (P : Program) (f : FuncId) : Bool := match P.funcs[f]? with
  | some fn => fn.body.isSome && !(fn.name == "runtime.NumGoroutine")
  | none => false
theorem xCall_ck {P : Program} {f : FuncId} {args : List Value} {w : World} {K : VCont} (hf : hasBody P f = true) (h : Calls P f args.toArray w (Ret K)) : xCall P f args w K := by
  unfold hasBody at hf
  split at hf
  · rename_i fn hfn
    simp only [Bool.and_eq_true, Bool.not_eq_true'] at hf
    exact xCall_of hfn hf.1 hf.2 h
  · cases hf
abbrev kbytes (s : ByteArray) : List UInt8 := s.data.toList
abbrev kstr (l : List UInt8) : ByteArray := ⟨l.toArray⟩
theorem kstr_kbytes (s : ByteArray) : kstr (kbytes s) = s := by cases s; simp
theorem kbytes_kstr (l : List UInt8) : kbytes (kstr l) = l := by simp
/-- strings, rising -/
def srt (l : List ByteArray) : List ByteArray := ((l.map kbytes).mergeSort leB).map kstr
theorem srt_perm (l : List ByteArray) : (srt l).Perm l := by
  unfold srt
  have := (List.mergeSort_perm (l.map kbytes) leB).map kstr
  rw [List.map_map] at this
  have h2 : l.map (kstr ∘ kbytes) = l := by
    exact (List.map_congr_left (g := id) fun s _ => kstr_kbytes s).trans (by simp)
  rw [h2] at this
  exact this
theorem srt_length (l : List ByteArray) : (srt l).length = l.length := (srt_perm l).length_eq
theorem mem_srt {l : List ByteArray} {x : ByteArray} : x ∈ srt l ↔ x ∈ l := (srt_perm l).mem_iff

section
variable {P : Program} {k : TypeId}
abbrev R0 : Value → Option (DataW Unit × List MemPlace) := fun _ => some (.nil, [])
theorem rd_str (hk : P.underlying k = some .string) {e : MapEntry} {s : ByteArray} (he : e.key = .string s) (hs : s.size ≤ maxLen) : WideElems.rd P k R0 e = some (.string (kbytes s), .nil) := by
  unfold WideElems.rd
  rw [he, WideMaps.keyOf_string_mk hk hs]
  rfl
theorem owns_of {w : World} {b : Nat} {l : List (ByteArray × Value)} (hk : P.underlying k = some .string) (h : MapAt Value.string w b l) (hl : l.length ≤ maxLen) (hs : ∀ p ∈ l, p.1.size ≤ maxLen) :
    ∃ D0 : DataW Unit, w.ownsMap P k R0 b l.length D0 ∧ (Go.strKeys D0).Perm (l.map fun p => kbytes p.1) ∧ Maps.size D0 = l.length := by
  obtain ⟨es, clock, hb, he, hp, hc, hn⟩ := h
  have hlen : es.size = l.length := by have := congrArg List.length he; simpa using this
  have hent : ∀ x ∈ es.toList, ∃ s : ByteArray, x.key = .string s ∧ s.size ≤ maxLen := by
    intro x hx
    have : (x.key, x.val) ∈ es.toList.map (fun e => (e.key, e.val)) := List.mem_map.2 ⟨x, hx, rfl⟩
    unfold entries at he
    rw [he] at this
    obtain ⟨p, hp, hpx⟩ := List.mem_map.1 this
    simp only [Prod.mk.injEq] at hpx
    exact ⟨p.1, hpx.1.symm, hs p hp⟩
  have hkeys : es.toList.map (·.key) = l.map fun p => Value.string p.1 := by
    have := congrArg (List.map Prod.fst) he
    simpa [List.map_map, Function.comp_def] using this
  refine ⟨_, ⟨es, clock, hb, ⟨by omega, ⟨hc, ?_, ?_⟩, ?_⟩, by omega, rfl⟩, ?_, ?_⟩
  · rw [List.Nodup, List.pairwise_map]
    exact hp.imp fun h => Nat.ne_of_lt h
  · rw [hkeys]
    have : (l.map fun p => Value.string p.1) = (l.map (·.1)).map Value.string := by rw [List.map_map]; rfl
    rw [this, List.Nodup, List.pairwise_map]
    exact hn.imp fun h e => h (by injection e)
  · intro x hx
    obtain ⟨s, hs1, hs2⟩ := hent x hx
    exact ⟨_, rd_str hk hs1 hs2⟩
  · have h1 := (WideShapes.sorted_perm (es.toList.map (WideElems.rg P k R0))).map fun p => Go.strOf p.1
    refine h1.trans ?_
    rw [List.map_map]
    have : es.toList.map ((fun p => Go.strOf p.1) ∘ WideElems.rg P k R0) = (es.toList.map (·.key)).map fun v => match v with | .string s => kbytes s | _ => [] := by
      rw [List.map_map]
      apply List.map_congr_left
      intro x hx
      obtain ⟨s, hs1, hs2⟩ := hent x hx
      simp only [Function.comp, WideElems.rg, rd_str hk hs1 hs2, Option.getD_some, Go.strOf, hs1]
    rw [this, hkeys, List.map_map]
    exact List.Perm.refl _
  · rw [Maps.size_eq, DataW.length_sorted]
    simp [hlen]
theorem own_of_row {w : World} {base e size : Nat} {v : Value} {n : Nat} {xs : List Value} (h : w.ownsRow base e size v n xs) : Own w e size v n xs ∧ ∀ g, v.ownBlock = some g → base ≤ g := by
  obtain ⟨h1, h2⟩ := h
  rcases h2 with ⟨rfl, h2⟩ | ⟨g, cap, cur, rfl, hbg, hg, r1, r2, r3, r4⟩
  · exact ⟨⟨h1, .inl ⟨rfl, h2⟩⟩, by simp [Value.ownBlock]⟩
  · refine ⟨⟨h1, .inr ⟨g, cap, cur, rfl, hg, r1, r2, by omega, r4⟩⟩, ?_⟩
    intro g' hg'
    simp [Value.ownBlock] at hg'
    omega
theorem chg_below {w w' : World} (h : RowKit.Below w.heap.size w w') : Chg none' w w' := ⟨h.os, h.tape, h.output, h.size, fun b hb _ => h.block b hb⟩
/-- make([]T, n) -/
theorem make_step {w : World} {K : VCont} {t e : TypeId} {i : TypeInfo} {z : Value} {size : Nat} (ht : P.underlying t = some (.slice e)) (hi : P.info? e = some i) (hz : i.zero = some z) (hsize : i.size = size) {n : Nat}
    (hn : n * size ≤ 16777216) (hb : i.bytes * n ≤ 281474976710656) (hm : n ≤ maxLen)
    (hK : ∀ v w', Own w' e size v n (madeCells z.cells (n * size)).toList → v.ownBlock = some w.heap.size → Chg none' w w' → K v w') : xMakeSlice P t (.int .i64 n) (.int .i64 n) w K := by
  obtain ⟨w', hr, ho, hg⟩ := run_makeSlice_full (P := P) (w := w) w.heap.size t e i z size ht hi hz hsize .i64 .i64 n hn hb hm (Nat.le_refl _)
  unfold xMakeSlice
  rw [xv_iff hr]
  refine hK _ w' (own_of_row ho).1 rfl ((Chg.of_grown hg).mono fun b _ h => by cases h)
theorem xEq_str {w : World} {K : VCont} (t : TypeId) (cx cy : Bool) (a b : ByteArray) : xEq P .eql t cx cy (.string a) (.string b) w K = K (.bool (decide (a = b))) w := by
  rw [xEq_string]
  congr 2
  rw [byteArray_toList, byteArray_toList, Bool.eq_iff_iff]
  cases a; cases b
  simp
theorem xNe_str {w : World} {K : VCont} (t : TypeId) (cx cy : Bool) (a b : ByteArray) : xEq P .neq t cx cy (.string a) (.string b) w K = K (.bool (!decide (a = b))) w := by
  rw [xNe_string]
  congr 3
  rw [byteArray_toList, byteArray_toList, Bool.eq_iff_iff]
  cases a; cases b
  simp
end
end Go.Sx
end
