/- The operations, over assertions side by side. -/
import Derived.Test.YtamejkogghpbhaaSep
set_option linter.unusedVariables false
set_option linter.unusedSimpArgs false
namespace Go.Sx
open Go
abbrev ptr0 (b o : Nat) : Value := .pointer (some ⟨b, o, none⟩)
section
variable {P : Program} {w : World} {K : VCont} {l : List Asn} {A0 A1 A2 A3 A4 A5 A6 : Asn}
theorem Hp.blk {b T : Nat} {cs : List Value} (h : Hp w (BlkA b T cs :: l)) : w.heap[b]? = some (.cells cs.toArray T (0, 0)) := by
  obtain ⟨F, h1, _⟩ := h; exact h1.1
theorem Hp.c0 {b T : Nat} {cs : List Value} (h : Hp w (BlkA b T cs :: l)) (o : Nat) : w.cell? ⟨b, o, none⟩ = cs[o]? := by
  rw [cell_of_block h.blk]; simp
theorem Hp.c1 {b T : Nat} {cs : List Value} (h : Hp w (A0 :: BlkA b T cs :: l)) (o : Nat) : w.cell? ⟨b, o, none⟩ = cs[o]? := h.pick1.c0 o
theorem Hp.c2 {b T : Nat} {cs : List Value} (h : Hp w (A0 :: A1 :: BlkA b T cs :: l)) (o : Nat) : w.cell? ⟨b, o, none⟩ = cs[o]? := h.pick2.c0 o
theorem Hp.c3 {b T : Nat} {cs : List Value} (h : Hp w (A0 :: A1 :: A2 :: BlkA b T cs :: l)) (o : Nat) : w.cell? ⟨b, o, none⟩ = cs[o]? := h.pick3.c0 o
theorem Hp.c4 {b T : Nat} {cs : List Value} (h : Hp w (A0 :: A1 :: A2 :: A3 :: BlkA b T cs :: l)) (o : Nat) : w.cell? ⟨b, o, none⟩ = cs[o]? := h.pick4.c0 o
theorem Hp.c5 {b T : Nat} {cs : List Value} (h : Hp w (A0 :: A1 :: A2 :: A3 :: A4 :: BlkA b T cs :: l)) (o : Nat) : w.cell? ⟨b, o, none⟩ = cs[o]? := h.pick5.c0 o
theorem Hp.c6 {b T : Nat} {cs : List Value} (h : Hp w (A0 :: A1 :: A2 :: A3 :: A4 :: A5 :: BlkA b T cs :: l)) (o : Nat) : w.cell? ⟨b, o, none⟩ = cs[o]? := h.pick6.c0 o
theorem Hp.own {e size n : Nat} {v : Value} {xs : List Value} (h : Hp w (SlA e size v n xs :: l)) : Own w e size v n xs := by
  obtain ⟨F, h1, _⟩ := h; exact h1.1
theorem Hp.sc0 {e size n g : Nat} {v : Value} {xs : List Value} (h : Hp w (SlA e size v n xs :: l)) (hg : v.ownBlock = some g) (j : Nat) (u : Value) (hj : xs[j]? = some u) : w.cell? ⟨g, j, none⟩ = some u := by
  have := h.own.cells (g := g) hg j u hj
  rwa [Addr.add_none, Nat.zero_add] at this
theorem Hp.sc1 {e size n g : Nat} {v : Value} {xs : List Value} (h : Hp w (A0 :: SlA e size v n xs :: l)) (hg : v.ownBlock = some g) (j : Nat) (u : Value) (hj : xs[j]? = some u) : w.cell? ⟨g, j, none⟩ = some u := h.pick1.sc0 hg j u hj
theorem Hp.sc2 {e size n g : Nat} {v : Value} {xs : List Value} (h : Hp w (A0 :: A1 :: SlA e size v n xs :: l)) (hg : v.ownBlock = some g) (j : Nat) (u : Value) (hj : xs[j]? = some u) : w.cell? ⟨g, j, none⟩ = some u := h.pick2.sc0 hg j u hj
theorem Hp.sc3 {e size n g : Nat} {v : Value} {xs : List Value} (h : Hp w (A0 :: A1 :: A2 :: SlA e size v n xs :: l)) (hg : v.ownBlock = some g) (j : Nat) (u : Value) (hj : xs[j]? = some u) : w.cell? ⟨g, j, none⟩ = some u := h.pick3.sc0 hg j u hj
theorem Hp.sc4 {e size n g : Nat} {v : Value} {xs : List Value} (h : Hp w (A0 :: A1 :: A2 :: A3 :: SlA e size v n xs :: l)) (hg : v.ownBlock = some g) (j : Nat) (u : Value) (hj : xs[j]? = some u) : w.cell? ⟨g, j, none⟩ = some u := h.pick4.sc0 hg j u hj
theorem Hp.mapAt {α : Type} {E : α → Value} {m : Nat} {L : List (α × Value)} (h : Hp w (MapA E m L :: l)) : MapAt E w m L := by
  obtain ⟨F, h1, _⟩ := h; exact h1.1
theorem Hp.rdOf {v : Value} {xs : List Value} (h : Hp w (RdA v xs :: l)) : Rd w v xs := by
  obtain ⟨F, h1, _⟩ := h; exact h1.1
theorem Hp.inpOf {W : World} (h : Hp w (InpA W :: l)) : RowKit.Below W.heap.size W w := by
  obtain ⟨F, h1, _⟩ := h; exact h1.1
theorem Hp.mem {A : Asn} (h : Hp w l) (hm : A ∈ l) : ∃ F, A.holds w F := by
  obtain ⟨l1, l2, rfl⟩ := List.append_of_mem hm
  exact (h.perm (List.perm_middle)).head
theorem Hp.inp_mem {W : World} (h : Hp w l) (hm : InpA W ∈ l) : RowKit.Below W.heap.size W w := by
  obtain ⟨F, h1⟩ := h.mem hm; exact h1.1
theorem Rd.inp {W : World} {v : Value} {xs : List Value} (hr : Rd W v xs) (h : Hp w l) (hm : InpA W ∈ l) : Rd w v xs := by
  have hb := h.inp_mem hm
  exact hr.keep' ⟨hb.os, hb.tape, hb.output, hb.size, fun b hlt _ => hb.block b hlt⟩
theorem RdN.inp {W : World} {size n : Nat} {v : Value} {xs : List Value} (hr : RdN W size v n xs) (h : Hp w l) (hm : InpA W ∈ l) : RdN w size v n xs := by
  have hb := h.inp_mem hm
  exact hr.keep' ⟨hb.os, hb.tape, hb.output, hb.size, fun b hlt _ => hb.block b hlt⟩
theorem Own.rdN {e size n : Nat} {v : Value} {xs : List Value} (ho : Own w e size v n xs) : RdN w size v n xs := by
  have hc := fun g hg => ho.cells (g := g) hg
  refine ⟨ho.1, ?_⟩
  rcases ho.2 with ⟨rfl, h0⟩ | ⟨g, cap, cur, rfl, hb, hn, _⟩
  · subst h0
    exact ⟨none, 0, rfl, rfl⟩
  · exact ⟨_, _, rfl, hc g rfl⟩
theorem Own.one {e size n : Nat} {v : Value} {xs : List Value} (ho : Own w e size v n xs) : v.oneCell' = true := by
  rcases ho.2 with ⟨rfl, h0⟩ | ⟨g, cap, cur, rfl, hb, hn, _⟩ <;> rfl
theorem RdN.rd {n : Nat} {v : Value} {xs : List Value} (h : RdN w 1 v n xs) (hc : ∀ a n c, v = .slice a n c → n ≤ c) : Rd w v xs := by
  obtain ⟨hl, a, cap, rfl, h⟩ := h
  have hl : xs.length = n := by simpa using hl
  refine ⟨a, cap, by rw [hl], by rw [hl]; exact hc _ _ _ rfl, ?_⟩
  cases a with
  | none => have h0 : n = 0 := h; exact List.eq_nil_of_length_eq_zero (by omega)
  | some g => exact h
theorem Rd.rdN {v : Value} {xs : List Value} (h : Rd w v xs) : RdN w 1 v xs.length xs := by
  obtain ⟨a, cap, rfl, hl, h⟩ := h
  refine ⟨by simp, a, cap, rfl, ?_⟩
  cases a with
  | none => have h0 : xs = [] := h; simp [h0]
  | some g => exact h

theorem xLoadN_of {n b o : Nat} {cs : List Value} (hl : cs.length = n) (h : ∀ i, i < n → w.cell? ⟨b, o + i, none⟩ = cs[i]?) : xLoadN n (ptr0 b o) w K = K (.agg cs.toArray) w := by
  unfold xLoadN
  refine propext ⟨?_, fun hk => ⟨_, cs, rfl, hl, fun i hi => by rw [Addr.add_none]; exact h i hi, hk⟩⟩
  rintro ⟨a, cs', ha, hl', h', hk⟩
  cases ha
  have : cs' = cs := by
    apply List.ext_getElem?
    intro i
    by_cases hi : i < n
    · rw [← h' i hi, Addr.add_none, h i hi]
    · rw [List.getElem?_eq_none (by omega), List.getElem?_eq_none (by omega)]
  rw [← this]; exact hk
/-- a whole block is loaded -/
theorem xLoadN_blk {n b T : Nat} {cs : List Value} (h : Hp w (BlkA b T cs :: l)) (hl : cs.length = n) : xLoadN n (ptr0 b 0) w K = K (.agg cs.toArray) w :=
  xLoadN_of hl fun i _ => by rw [Nat.zero_add]; exact h.c0 i
/-! writing -/
theorem Hp.st {t b T o : Nat} {cs : List Value} (h : Hp w (BlkA b T cs :: l)) {i : TypeInfo} (hi : P.info? t = some i) (hs : i.size = 1) {v : Value} (hv : v.oneCell' = true) (ho : o < cs.length)
    (hK : ∀ w', Hp w' (BlkA b T (cs.set o v) :: l) → K undef w') : xStore P t (ptr0 b o) v w K := by
  obtain ⟨F, hF, fr⟩ := h.frame1
  refine store_blk hi hs hv hF.1 (by simpa using ho) ?_
  intro w' hb hc hsz
  exact hK w' (fr w' F _ ⟨by rw [hb]; simp, hF.2⟩ (hc.mono fun x _ hx => (hF.2 x).2 hx) fun _ h => .inl h)
theorem storeCells_run {P : Program} {b o T : Nat} : ∀ (cs : List Value) (w : World) (i : Nat) (cur : List Value), w.heap[b]? = some (.cells cur.toArray T (0, 0)) → o + i + cs.length ≤ cur.length → (∀ u ∈ cs, u.oneCell' = true) →
    ∃ w', (storeCells ⟨b, o, none⟩ cs i).run P w = .ok () w' ∧ w'.heap[b]? = some (.cells (cur.take (o + i) ++ cs ++ cur.drop (o + i + cs.length)).toArray T (0, 0)) ∧ Chg (· = b) w w'
  | [], w, i, cur, hb, _, _ => ⟨w, rfl, by simpa using hb, Chg.refl _ _⟩
  | c :: cs, w, i, cur, hb, hl, h1 => by
    simp only [List.length_cons] at hl
    have hb1 : (w.setCell ⟨b, o + i, none⟩ c).heap[b]? = some (.cells (cur.set (o + i) c).toArray T (0, 0)) := by
      simp [World.setCell, Array.getElem?_modify, hb]
    have hlt : o + i < cur.length := by omega
    have hc0 : w.cell? ⟨b, o + i, none⟩ = some (cur[o + i]'hlt) := by
      rw [cell_of_block hb]; simp [hlt]
    obtain ⟨w', hr, hw, hc⟩ := storeCells_run (P := P) (o := o) cs (w.setCell ⟨b, o + i, none⟩ c) (i + 1) (cur.set (o + i) c) hb1 (by rw [List.length_set]; omega) (fun u hu => h1 u (by simp [hu]))
    refine ⟨w', ?_, ?_, Chg.trans (b := w.setCell ⟨b, o + i, none⟩ c) (Chg.setCell w ⟨b, o + i, none⟩ c (S := fun x => x = b) rfl) hc⟩
    · unfold storeCells
      rw [Addr.add_none, Sem.run_bind, run_store P w ⟨b, o + i, none⟩ c .plain (h1 c (by simp))]
      have hf : w.frozen? ⟨b, o + i, none⟩ = false := by simp [World.frozen?, hb]
      simp only [hc0, hf, Bool.false_eq_true, if_false, Result.andThen_ok]
      exact hr
    · rw [hw]
      refine congrArg some (congrArg (fun z : List Value => Obj.cells z.toArray T (0, 0)) ?_)
      rw [← Nat.add_assoc, List.take_add_one, List.drop_set_of_lt (by omega), List.take_set_of_le (by omega)]
      simp only [List.getElem?_set_self (show o + i < cur.length by omega), Option.toList_some, List.length_cons, List.append_assoc, List.cons_append, List.nil_append]
      rw [show o + i + 1 + cs.length = o + i + (cs.length + 1) by omega]
theorem Hp.stN {t b T o n : Nat} {cs new : List Value} (h : Hp w (BlkA b T cs :: l)) {i : TypeInfo} (hi : P.info? t = some i) (hs : i.size = n) {v : Value} (hv : v.cells = new.toArray) (hn : new.length = n) (h1 : ∀ u ∈ new, u.oneCell' = true) (ho : o + n ≤ cs.length)
    (hK : ∀ w', Hp w' (BlkA b T (cs.take o ++ new ++ cs.drop (o + n)) :: l) → K undef w') : xStore P t (ptr0 b o) v w K := by
  obtain ⟨F, hF, fr⟩ := h.frame1
  obtain ⟨w', hr, hw, hc⟩ := storeCells_run (P := P) (o := o) new w 0 cs hF.1 (by omega) h1
  unfold xStore
  have : (Instr.storeAt t (ptr0 b o) v).run P w = .ok () w' := by
    unfold Instr.storeAt Instr.sureAddr storeVar sizeOf typeInfo
    simp only [Sem.run_bind, Sem.run_pure, Result.andThen_ok, run_program, hi, hv, hs]
    rw [if_neg (by simp [hn])]
    simpa using hr
  rw [xu_iff this]
  refine hK w' (fr w' F (BlkA b T _) ⟨by rw [hw, Nat.add_zero, hn], hF.2⟩ (hc.mono fun x _ hx => (hF.2 x).2 hx) fun _ h => .inl h)
theorem Hp.box {t : Nat} {v : Value} {cs : List Value} (h : Hp w l) (hv : v.cells = cs.toArray) (hK : ∀ b w', Hp w' (BlkA b t cs :: l) → K (ptr0 b 0) w') : xBox P t v w K := by
  refine box_step ?_
  rintro b w' rfl hb hc hsz
  exact hK _ w' (h.new (A := BlkA _ t cs) (F := fun x => x = w.heap.size) ⟨by rw [hb, hv], fun _ => Iff.rfl⟩ (fun b e => by omega) hc)
theorem Hp.alloc {t : Nat} {cs : List Value} (h : Hp w l) {i : TypeInfo} {z : Value} (hi : P.info? t = some i) (hz : i.zero = some z) (hv : z.cells = cs.toArray) (hK : ∀ b w', Hp w' (BlkA b t cs :: l) → K (ptr0 b 0) w') : xAlloc P t w K := by
  refine alloc_step hi hz ?_
  rintro b w' rfl hb hc hsz
  exact hK _ w' (h.new (A := BlkA _ t cs) (F := fun x => x = w.heap.size) ⟨by rw [hb, hv], fun _ => Iff.rfl⟩ (fun b e => by omega) hc)
theorem Hp.mkMap {t : Nat} {α : Type} (E : α → Value) (h : Hp w l) (hK : ∀ b w', Hp w' (MapA E b [] :: l) → K (.map (some b)) w') : xMakeMap P t none w K := by
  refine makeMap_step E ?_
  rintro b w' rfl hb hc hsz
  exact hK _ w' (h.new (A := MapA E _ []) (F := fun x => x = w.heap.size) ⟨hb, fun _ => Iff.rfl⟩ (fun b e => by omega) hc)
theorem Hp.mset {α : Type} [DecidableEq α] {k t e : TypeId} (X : Keys α P k) (a : α) {v : Value} {L : List (α × Value)} {m : Nat} (ht : P.underlying t = some (.map k e)) (h : Hp w (MapA X.enc m L :: l)) {kv : Value} (hkv : kv = X.enc a)
    (hK : ∀ w', Hp w' (MapA X.enc m (ins L a v) :: l) → K undef w') : xMapUpdate P t (.map (some m)) kv v w K := by
  obtain ⟨F, hF, fr⟩ := h.frame1
  refine xMapUpdate_map X a v ht hF.1 hkv ?_
  intro w' hm hc hsz
  exact hK w' (fr w' F (MapA X.enc m _) ⟨hm, hF.2⟩ (hc.mono fun x _ hx => (hF.2 x).2 hx) fun _ h => .inl h)
theorem Hp.mdel {α : Type} [DecidableEq α] {k t e : TypeId} (X : Keys α P k) (a : α) {L : List (α × Value)} {m : Nat} (ht : P.underlying t = some (.map k e)) (h : Hp w (MapA X.enc m L :: l)) {ts : List TypeId} {ty : TypeId} {cs : List Bool} {kv : Value} (hkv : kv = X.enc a)
    (hK : ∀ w', Hp w' (MapA X.enc m (del L a) :: l) → K (.tuple #[]) w') : xBuiltin P .delete (List.toArray (t :: ts)) ty cs [.map (some m), kv] w K := by
  obtain ⟨F, hF, fr⟩ := h.frame1
  refine xDelete_map X a ht hF.1 hkv ?_
  intro w' hm hc hsz
  exact hK w' (fr w' F (MapA X.enc m _) ⟨hm, hF.2⟩ (hc.mono fun x _ hx => (hF.2 x).2 hx) fun _ h => .inl h)
theorem Hp.app {t ty e : TypeId} {i : TypeInfo} {z : Value} {size bytes : Nat} (ht : P.underlying t = some (.slice e)) (hi : P.info? e = some i) (hz : i.zero = some z) (hsize : i.size = size) (hby : i.bytes = bytes) (hzs : z.cells.size = size) {cs : List Bool}
    {v u : Value} {n m : Nat} {xs news : List Value} (h : Hp w (SlA e size v n xs :: l)) (hr : RdN w size u m news) (h1 : ∀ u ∈ news, u.oneCell' = true) (h63 : n + m ≤ 1000000000) (hb : bytes ≤ 100000)
    (hK : ∀ v' w', Hp w' (SlA e size v' (n + m) (xs ++ news) :: l) → K v' w') : xBuiltin P .append #[t, t] ty cs [v, u] w K := by
  obtain ⟨F, hF, fr⟩ := h.frame1
  refine append_step ht hi hz hsize hby hzs hF.1 hr h1 (by unfold maxLen; omega) ?_ ?_
  · exact Nat.le_trans (Nat.mul_le_mul h63 hb) (by omega)
  intro v' w' ho hc hv
  refine hK v' w' (fr w' _ (SlA e size v' _ _) ⟨ho, fun _ => Iff.rfl⟩ (hc.mono fun x _ hx => (hF.2 x).2 hx) fun b hb => ?_)
  rcases hv with h | h
  · rw [h] at hb; exact .inl ((hF.2 b).2 hb)
  · rw [h] at hb; cases hb; exact .inr (Nat.le_refl _)
theorem Hp.sl0 {t e : TypeId} {i : TypeInfo} {size : Nat} (ht : P.underlying t = some (.slice e)) (hi : P.info? e = some i) (hs : i.size = size) (h : Hp w l)
    (hK : ∀ v w', Hp w' (SlA e size v 0 [] :: l) → K v w') : xBuildSlice P t 0 [] w K := by
  refine buildSlice0 ht hi hs ?_
  intro v w' ho hb hc hsz
  exact hK v w' (h.new (A := SlA e size v 0 []) (F := fun x => v.ownBlock = some x) ⟨ho, fun _ => Iff.rfl⟩ (fun b e => by rw [hb] at e; cases e; omega) hc)
theorem Hp.sl1 {t e : TypeId} {i : TypeInfo} {z : Value} {size : Nat} (ht : P.underlying t = some (.slice e)) (hi : P.info? e = some i) (hs : i.size = size) (h0 : size ≠ 0) (h16 : size ≤ 16777216) (hz : i.zero = some z) (hzs : z.cells.size = size) (h : Hp w l)
    {cs : List Value} {x : Value} (hx : x.cells = cs.toArray) (hc : cs.length = size)
    (hK : ∀ v w', Hp w' (SlA e size v 1 cs :: l) → K v w') : xBuildSlice P t 1 [(0, x)] w K := by
  refine buildSlice1 ht hi hs h0 h16 hz hzs (by simpa using hc) hx ?_
  intro v w' ho hb hc hsz
  exact hK v w' (h.new (A := SlA e size v 1 cs) (F := fun x => v.ownBlock = some x) ⟨ho, fun _ => Iff.rfl⟩ (fun b e => by rw [hb] at e; cases e; omega) hc)
/-- []T{a, b, ..}, a cell each -/
theorem Hp.sln {t e : TypeId} {i : TypeInfo} {z : Value} (ht : P.underlying t = some (.slice e)) (hi : P.info? e = some i) (hs : i.size = 1) (hz : i.zero = some z) (hz1 : z.cells.size = 1) (h : Hp w l) {vs : List Value} {n : Nat} {ps : List (Nat × Value)}
    (hn : vs.length = n) (hps : ps = (vs.zipIdx 0).map fun p => (p.2, p.1)) (h1 : ∀ u ∈ vs, u.oneCell' = true) (hbig : n ≤ 16777216)
    (hK : ∀ v w', Hp w' (SlA e 1 v n vs :: l) → K v w') : xBuildSlice P t n ps w K := by
  refine buildSlice_step ht hi hs hz hz1 hn hps h1 hbig ?_
  intro v w' ho hb hc hsz
  exact hK v w' (h.new (A := SlA e 1 v n vs) (F := fun x => v.ownBlock = some x) ⟨ho, fun _ => Iff.rfl⟩ (fun b e => by rw [hb] at e; cases e; omega) hc)
/-- a cell of a slice's is set -/
theorem Hp.sst {e u : TypeId} {i : TypeInfo} {size : Nat} (hi : P.info? u = some i) (hs : i.size = 1) {v x : Value} (hx : x.oneCell' = true) {n j g : Nat} {xs : List Value} (h : Hp w (SlA e size v n xs :: l)) (hg : v.ownBlock = some g) (hj : j < xs.length)
    (hK : ∀ w', Hp w' (SlA e size v n (xs.set j x) :: l) → K undef w') : xStore P u (ptr0 g j) x w K := by
  obtain ⟨F, hF, fr⟩ := h.frame1
  refine own_store hi hs hx hF.1 hg hj ?_
  intro w' ho hc hsz
  exact hK w' (fr w' F (SlA e size v n _) ⟨ho, hF.2⟩ (hc.mono fun x _ hx => (hF.2 x).2 (by rw [hx]; exact hg)) fun _ h => .inl h)
/-- the first elements; the last ones -/
theorem head_sl {t e : TypeId} {i : TypeInfo} {size : Nat} (ht : P.underlying t = some (.slice e)) (hi : P.info? e = some i) {v : Value} {n k : Nat} {xs : List Value} (ho : Own w e size v n xs) (hk : k ≤ n) :
    ∃ v', (∀ (w2 : World) (C : VCont), xSlice P t v none (some (.int .i64 k)) none w2 C = C v' w2) ∧ v'.ownBlock = v.ownBlock ∧ ∀ w', Own w' e size v n xs → RdN w' size v' k (xs.take (k * size)) := by
  have hx : xs.length = n * size := ho.1
  have hks : k * size ≤ n * size := Nat.mul_le_mul_right _ hk
  rcases ho.2 with ⟨rfl, h0⟩ | ⟨g, cap, cur, rfl, hb, hn, _⟩
  · have : k = 0 := by omega
    subst this
    exact ⟨.slice none 0 0, fun w2 C => by rw [xSlice_slice ht hi (bounds_hi (by omega) (by omega))]; rfl, rfl, fun w' _ => ⟨by simp, none, 0, rfl, rfl⟩⟩
  · refine ⟨.slice (some ⟨g, 0, none⟩) k cap, fun w2 C => ?_, rfl, fun w' ho' => ⟨by rw [List.length_take]; omega, _, _, rfl, fun j u hj => ?_⟩⟩
    · rw [xSlice_slice ht hi (bounds_hi (by omega) (by omega))]
      congr 2
      split <;> simp [Addr.add]
    · rw [List.getElem?_take] at hj
      split at hj
      · exact ho'.cells (g := g) rfl j u hj
      · cases hj
theorem tail_sl {t e : TypeId} {i : TypeInfo} {size : Nat} (ht : P.underlying t = some (.slice e)) (hi : P.info? e = some i) (hs : i.size = size) {v : Value} {n k : Nat} {xs : List Value} (ho : Own w e size v n xs) (hk : k ≤ n) :
    ∃ v', (∀ (w2 : World) (C : VCont), xSlice P t v (some (.int .i64 k)) none none w2 C = C v' w2) ∧ v'.ownBlock = v.ownBlock ∧ ∀ w', Own w' e size v n xs → RdN w' size v' (n - k) (xs.drop (k * size)) := by
  have hx : xs.length = n * size := ho.1
  have hks : k * size ≤ n * size := Nat.mul_le_mul_right _ hk
  rcases ho.2 with ⟨rfl, h0⟩ | ⟨g, cap, cur, rfl, hb, hn, _⟩
  · have : k = 0 := by omega
    subst this; subst h0
    exact ⟨.slice none 0 0, fun w2 C => by rw [xSlice_slice ht hi (bounds_lo (by omega) (by omega))]; rfl, rfl, fun w' _ => ⟨by simpa using hx, none, 0, rfl, rfl⟩⟩
  · refine ⟨.slice (some (if cap = k then ⟨g, 0, none⟩ else (⟨g, 0, none⟩ : Addr).add (k * size))) (n - k) (cap - k), fun w2 C => ?_, ?_, fun w' ho' => ⟨by rw [List.length_drop, hx, Nat.sub_mul], _, _, rfl, fun j u hj => ?_⟩⟩
    · rw [xSlice_slice ht hi (bounds_lo (by omega) (by omega)), hs]
      simp only [Int.toNat_natCast]
      split <;> rfl
    · split
      · rfl
      · rw [Addr.add_none]; rfl
    · rw [List.getElem?_drop] at hj
      have hjl := (List.getElem?_eq_some_iff.1 hj).1
      have hck : cap ≠ k := by
        intro e
        have : n = k := by omega
        subst this
        omega
      rw [if_neg hck]
      have := ho'.cells (g := g) rfl _ u hj
      rw [Addr.add_none] at this ⊢
      rw [Addr.add_none]
      simpa [Nat.add_comm, Nat.add_left_comm, Nat.add_assoc] using this
end
theorem drw {P : Program} {w : World} {K : World → Prop} (h : K w.drew) : Sx.dr w K := h
end Go.Sx
