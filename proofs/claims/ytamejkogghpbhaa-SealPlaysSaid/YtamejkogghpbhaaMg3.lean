import Derived.Test.YtamejkogghpbhaaMg2
import Derived.WideLaws
import Derived.LaidEql
import Derived.Laws.Strings
section
/- What the operations come to. -/
set_option linter.unusedVariables false
set_option linter.unusedSimpArgs false
namespace Go.Sx
open Go
section
variable {P : Program} {w : World} {K : VCont}

theorem xp_iff {s : Sem Value} {v : Value} (h : ∀ w', s.run P w' = .ok v w') : xp P s w K = K v w := by
  unfold xp
  refine propext ⟨?_, fun hk => ⟨v, h, hk⟩⟩
  rintro ⟨u, h1, h2⟩
  have := (h1 w).symm.trans (h w)
  injection this with h3 _
  rw [← h3]; exact h2
theorem xv_iff {s : Sem Value} {v : Value} {w' : World} (h : s.run P w = .ok v w') : xv P s w K = K v w' := by
  unfold xv; rw [h]
theorem xu_iff {s : Sem Unit} {w' : World} (h : s.run P w = .ok () w') : xu P s w K = K undef w' := by
  unfold xu; rw [h]

/-! control -/
theorem xIf_true (a b : Prop) : xIf (.bool true) a b = a := rfl
theorem xIf_false (a b : Prop) : xIf (.bool false) a b = b := rfl
theorem xPick_bool (t : Bool) (a b : Value) : xPick (.bool t) a b w K = K (cond t a b) w := by
  unfold xPick
  refine propext ⟨?_, fun h => ⟨t, rfl, h⟩⟩
  rintro ⟨u, hu, h⟩
  cases hu; exact h
theorem xWhen_yes (t : Bool) (f : VCont → Prop) : xWhen (.bool t) t f w K = f K := by
  unfold xWhen
  exact propext ⟨fun h => h.1 rfl, fun h => ⟨fun _ => h, fun hn => (hn rfl).elim⟩⟩
theorem xWhen_tf (f : VCont → Prop) : xWhen (.bool true) false f w K = K undef w := by
  unfold xWhen
  exact propext ⟨fun h => h.2 (by simp), fun h => ⟨fun hc => by simp at hc, fun _ => h⟩⟩
theorem xWhen_ft (f : VCont → Prop) : xWhen (.bool false) true f w K = K undef w := by
  unfold xWhen
  exact propext ⟨fun h => h.2 (by simp), fun h => ⟨fun hc => by simp at hc, fun _ => h⟩⟩
theorem xWhen_undef (t : Bool) (f : VCont → Prop) : xWhen undef t f w K = K undef w := by
  unfold xWhen
  exact propext ⟨fun h => h.2 (by simp [undef]), fun h => ⟨fun hc => by simp [undef] at hc, fun _ => h⟩⟩
theorem xNil_some (a : Addr) : xNil (.pointer (some a)) w K = K (.pointer (some a)) w := rfl
theorem xOff_some (n b o : Nat) : xOff (some n) (.pointer (some ⟨b, o, none⟩)) w K = K (.pointer (some ⟨b, o + n, none⟩)) w := by
  unfold xOff
  simp only
  refine propext ⟨?_, fun h => ⟨⟨b, o, none⟩, rfl, by rw [Addr.add_none]; exact h⟩⟩
  rintro ⟨a, ha, h⟩
  cases ha
  rw [Addr.add_none] at h; exact h
theorem xExtract_tuple (vs : Array Value) (i : Nat) {x : Value} (h : vs[i]? = some x) : xExtract (.tuple vs) i w K = K x w := by
  unfold xExtract
  refine propext ⟨?_, fun hk => ⟨vs, x, rfl, h, hk⟩⟩
  rintro ⟨us, y, hu, hy, hk⟩
  cases hu
  rw [h] at hy; cases hy; exact hk
theorem xExtract_0 (a : Value) (l : List Value) : xExtract (.tuple (List.toArray (a :: l))) 0 w K = K a w := xExtract_tuple _ _ (by simp)
theorem xExtract_1 (a b : Value) (l : List Value) : xExtract (.tuple (List.toArray (a :: b :: l))) 1 w K = K b w := xExtract_tuple _ _ (by simp)
theorem xExtract_2 (a b c : Value) (l : List Value) : xExtract (.tuple (List.toArray (a :: b :: c :: l))) 2 w K = K c w := xExtract_tuple _ _ (by simp)
theorem xExtract_3 (a b c d : Value) (l : List Value) : xExtract (.tuple (List.toArray (a :: b :: c :: d :: l))) 3 w K = K d w := xExtract_tuple _ _ (by simp)

/-! integers -/
theorem xBin_add (t : TypeId) (k : IntKind) (a b : Int) : xBin P .add t (.int k a) (.int k b) w K = K (.int k (k.wrap (a + b))) w := xp_iff fun _ => by simp [binOp, Op.intArith]
theorem xBin_sub (t : TypeId) (k : IntKind) (a b : Int) : xBin P .sub t (.int k a) (.int k b) w K = K (.int k (k.wrap (a - b))) w := xp_iff fun _ => by simp [binOp, Op.intArith]
theorem xBin_mul (t : TypeId) (k : IntKind) (a b : Int) : xBin P .mul t (.int k a) (.int k b) w K = K (.int k (k.wrap (a * b))) w := xp_iff fun _ => by simp [binOp, Op.intArith]
theorem xBin_lss (t : TypeId) (k : IntKind) (a b : Int) : xBin P .lss t (.int k a) (.int k b) w K = K (.bool (decide (a < b))) w := xp_iff fun _ => by simp [binOp, Op.intCmp]
theorem xBin_leq (t : TypeId) (k : IntKind) (a b : Int) : xBin P .leq t (.int k a) (.int k b) w K = K (.bool (decide (a ≤ b))) w := xp_iff fun _ => by simp [binOp, Op.intCmp]
theorem xBin_gtr (t : TypeId) (k : IntKind) (a b : Int) : xBin P .gtr t (.int k a) (.int k b) w K = K (.bool (decide (b < a))) w := xp_iff fun _ => by simp [binOp, Op.intCmp]
theorem xBin_geq (t : TypeId) (k : IntKind) (a b : Int) : xBin P .geq t (.int k a) (.int k b) w K = K (.bool (decide (b ≤ a))) w := xp_iff fun _ => by simp [binOp, Op.intCmp]
theorem xBin_quo (t : TypeId) (k : IntKind) (a b : Int) (h : b ≠ 0) : xBin P .quo t (.int k a) (.int k b) w K = K (.int k (k.wrap (a.tdiv b))) w := xp_iff fun _ => by simp [binOp, Op.intDiv, h]
theorem xBin_rem (t : TypeId) (k : IntKind) (a b : Int) (h : b ≠ 0) : xBin P .rem t (.int k a) (.int k b) w K = K (.int k (a.tmod b)) w := xp_iff fun _ => by simp [binOp, Op.intDiv, h]
theorem xBin_and (t : TypeId) (k : IntKind) (a b : Int) : xBin P .and t (.int k a) (.int k b) w K = K (.int k (k.wrap (BitVec.ofInt k.bits a &&& BitVec.ofInt k.bits b).toNat)) w := xp_iff fun _ => by simp [binOp, Op.intBits]
theorem xBin_or (t : TypeId) (k : IntKind) (a b : Int) : xBin P .or t (.int k a) (.int k b) w K = K (.int k (k.wrap (BitVec.ofInt k.bits a ||| BitVec.ofInt k.bits b).toNat)) w := xp_iff fun _ => by simp [binOp, Op.intBits]
theorem xBin_xor (t : TypeId) (k : IntKind) (a b : Int) : xBin P .xor t (.int k a) (.int k b) w K = K (.int k (k.wrap (BitVec.ofInt k.bits a ^^^ BitVec.ofInt k.bits b).toNat)) w := xp_iff fun _ => by simp [binOp, Op.intBits]
theorem xBin_shl (t : TypeId) (k k' : IntKind) (a b : Int) (h : 0 ≤ b) : xBin P .shl t (.int k a) (.int k' b) w K = K (.int k (k.wrap (a * 2 ^ min b.toNat k.bits))) w :=
  xp_iff fun _ => by simp [binOp, Op.shift, show ¬ b < 0 by omega]
theorem xBin_shr (t : TypeId) (k k' : IntKind) (a b : Int) (h : 0 ≤ b) : xBin P .shr t (.int k a) (.int k' b) w K = K (.int k (a.fdiv (2 ^ min b.toNat k.bits))) w :=
  xp_iff fun _ => by simp [binOp, Op.shift, show ¬ b < 0 by omega]
theorem xUn_not (b : Bool) : xUn P .not (.bool b) w K = K (.bool (!b)) w := xp_iff fun _ => by simp [Op.unary]
theorem xUn_neg (k : IntKind) (a : Int) : xUn P .neg (.int k a) w K = K (.int k (k.wrap (0 - a))) w := xp_iff fun _ => by simp [Op.unary, Op.intArith]
theorem wrap_i64 {n : Int} (h : -9223372036854775808 ≤ n) (h' : n ≤ 9223372036854775807) : IntKind.i64.wrap n = n := by
  simp [IntKind.wrap, IntKind.bits, IntKind.signed]; split <;> omega
theorem wrap_u8 {n : Int} (h : 0 ≤ n) (h' : n ≤ 255) : IntKind.u8.wrap n = n := by simp [IntKind.wrap, IntKind.bits, IntKind.signed]; omega
theorem wrap_u32 {n : Int} (h : 0 ≤ n) (h' : n ≤ 4294967295) : IntKind.u32.wrap n = n := by simp [IntKind.wrap, IntKind.bits, IntKind.signed]; omega
theorem wrap_u64 {n : Int} (h : 0 ≤ n) (h' : n ≤ 18446744073709551615) : IntKind.u64.wrap n = n := by simp [IntKind.wrap, IntKind.bits, IntKind.signed]; omega
theorem xConv_int (s d : TypeId) (k k' : IntKind) (n : Int) {ds : TypeDesc} (hs : P.underlying s = some ds) (hd : P.underlying d = some (.int k)) : xConvK P .pure s d (.int k' n) w K = K (.int k (k.wrap n)) w := by
  unfold xConvK
  refine xp_iff fun _ => ?_
  unfold convert
  simp only [Sem.run_bind, run_underlying hs, run_underlying hd, Result.andThen_ok]
  simp [Conv.intToInt]
theorem xMax_i64 (a b : Int) : xMinMax P true [.int .i64 a, .int .i64 b] w K = K (.int .i64 (max a b)) w := by
  unfold xMinMax
  refine xp_iff fun _ => ?_
  simp [Builtin.max_, Builtin.max2]
  rw [Int.max_def]; split <;> split <;> omega
theorem xMin_i64 (a b : Int) : xMinMax P false [.int .i64 a, .int .i64 b] w K = K (.int .i64 (min a b)) w := by
  unfold xMinMax
  refine xp_iff fun _ => ?_
  simp [Builtin.min_, Builtin.min2]
  rw [Int.min_def]; split <;> split <;> omega

/-! '==' -/
theorem eqGuard_plain (op : BinOp) (t : TypeId) (x y : Operand) {a b : Value} (h1 : ∀ c, a ≠ .agg c) (h2 : a ≠ .nilIface) : eqGuard op t x y a b = pure () := by
  cases a <;> first | exact (h2 rfl).elim | exact (h1 _ rfl).elim | (cases op <;> rfl)
theorem xEq_run {op : BinOp} {t : TypeId} {cx cy : Bool} {a b v : Value} (h1 : ∀ c, a ≠ .agg c) (h2 : a ≠ .nilIface) (h : ∀ w', (binOp op t a b).run P w' = .ok v w') : xEq P op t cx cy a b w K = K v w := by
  unfold xEq
  refine xp_iff fun w' => ?_
  rw [eqGuard_plain op t _ _ h1 h2]
  exact h w'
theorem xEq_int (t : TypeId) (cx cy : Bool) (k : IntKind) (a b : Int) : xEq P .eql t cx cy (.int k a) (.int k b) w K = K (.bool (decide (a = b))) w :=
  xEq_run (by simp) (by simp) fun _ => by simp [binOp, Op.intCmp]; rfl
theorem xNe_int (t : TypeId) (cx cy : Bool) (k : IntKind) (a b : Int) : xEq P .neq t cx cy (.int k a) (.int k b) w K = K (.bool (!decide (a = b))) w :=
  xEq_run (by simp) (by simp) fun _ => by simp [binOp, Op.intCmp, bne]; rfl
theorem xEq_string (t : TypeId) (cx cy : Bool) (a b : ByteArray) : xEq P .eql t cx cy (.string a) (.string b) w K = K (.bool (a.toList == b.toList)) w :=
  xEq_run (by simp) (by simp) fun _ => by simp [binOp, Op.stringOp]
theorem xNe_string (t : TypeId) (cx cy : Bool) (a b : ByteArray) : xEq P .neq t cx cy (.string a) (.string b) w K = K (.bool (!(a.toList == b.toList))) w :=
  xEq_run (by simp) (by simp) fun _ => by simp [binOp, Op.stringOp]
theorem run_eq_bool {t : TypeId} (ht : P.underlying t = some .bool) (a b : Bool) (w : World) : (Op.equal t (.bool a) (.bool b)).run P w = .ok (a == b) w := by
  unfold Op.equal Op.maxDepth Op.equalIn
  simp [run_underlying ht]
theorem xEq_bool {t : TypeId} (ht : P.underlying t = some .bool) (cx cy : Bool) (a b : Bool) : xEq P .eql t cx cy (.bool a) (.bool b) w K = K (.bool (a == b)) w :=
  xEq_run (by simp) (by simp) fun w' => by simp [binOp, run_eq_bool ht]
theorem xNe_bool {t : TypeId} (ht : P.underlying t = some .bool) (cx cy : Bool) (a b : Bool) : xEq P .neq t cx cy (.bool a) (.bool b) w K = K (.bool (!(a == b))) w :=
  xEq_run (by simp) (by simp) fun w' => by simp [binOp, run_eq_bool ht]
theorem run_eq_ptr {t el : TypeId} (ht : P.underlying t = some (.pointer el)) (a : Option Addr) (w : World) : (Op.equal t (.pointer a) (.pointer none)).run P w = .ok a.isNone w := by
  unfold Op.equal Op.maxDepth Op.equalIn
  cases a <;> simp [run_underlying ht]
theorem xEq_ptr {t el : TypeId} (ht : P.underlying t = some (.pointer el)) (cx cy : Bool) (a : Option Addr) : xEq P .eql t cx cy (.pointer a) (.pointer none) w K = K (.bool a.isNone) w :=
  xEq_run (by simp) (by simp) fun w' => by simp [binOp, run_eq_ptr ht]
theorem xNe_ptr {t el : TypeId} (ht : P.underlying t = some (.pointer el)) (cx cy : Bool) (a : Option Addr) : xEq P .neq t cx cy (.pointer a) (.pointer none) w K = K (.bool (!a.isNone)) w :=
  xEq_run (by simp) (by simp) fun w' => by simp [binOp, run_eq_ptr ht]
theorem run_eq_slice {t el : TypeId} (ht : P.underlying t = some (.slice el)) (a : Option Addr) (n c : Nat) (w : World) : (Op.equal t (.slice a n c) (.slice none 0 0)).run P w = .ok a.isNone w := by
  unfold Op.equal Op.maxDepth Op.equalIn
  cases a <;> simp [run_underlying ht]
theorem xEq_slice {t el : TypeId} (ht : P.underlying t = some (.slice el)) (cx cy : Bool) (a : Option Addr) (n c : Nat) : xEq P .eql t cx cy (.slice a n c) (.slice none 0 0) w K = K (.bool a.isNone) w :=
  xEq_run (by simp) (by simp) fun w' => by simp [binOp, run_eq_slice ht]
theorem xNe_slice {t el : TypeId} (ht : P.underlying t = some (.slice el)) (cx cy : Bool) (a : Option Addr) (n c : Nat) : xEq P .neq t cx cy (.slice a n c) (.slice none 0 0) w K = K (.bool (!a.isNone)) w :=
  xEq_run (by simp) (by simp) fun w' => by simp [binOp, run_eq_slice ht]

/-! strings -/
theorem xBin_cat (t : TypeId) (a b : ByteArray) (h : a.size + b.size ≤ 9223372036854775807) : xBin P .add t (.string a) (.string b) w K = K (.string (a ++ b)) w :=
  xp_iff fun _ => by
    have : ¬ ((a.size + b.size : Nat) : Int) > IntKind.i64.max := by simp [IntKind.max, IntKind.bits, IntKind.signed]; omega
    simp only [binOp, Op.stringOp]
    rw [if_neg this]; rfl
theorem xBin_slt (t : TypeId) (a b : ByteArray) : xBin P .lss t (.string a) (.string b) w K = K (.bool (Op.bytesLess a.toList b.toList)) w := xp_iff fun _ => by simp [binOp, Op.stringOp]
theorem xLen_string {t : TypeId} (ht : P.underlying t = some .string) (s : ByteArray) : xLen P .pure #[t] (.string s) w K = K (.int .i64 s.size) w := by
  unfold xLen
  exact xp_iff fun _ => by simp [Builtin.len_, run_underlying ht, goInt]
theorem xLen_slice {t e : TypeId} (ht : P.underlying t = some (.slice e)) (a : Option Addr) (n c : Nat) : xLen P .pure #[t] (.slice a n c) w K = K (.int .i64 n) w := by
  unfold xLen
  exact xp_iff fun _ => by simp [Builtin.len_, run_underlying ht, goInt]
theorem xIndex_string {t : TypeId} (ht : P.underlying t = some .string) (s : ByteArray) (i : Int) (h0 : 0 ≤ i) (h : i.toNat < s.size) : xIndex P t (.string s) (.int .i64 i) w K = K (.int .u8 (s[i.toNat]).toNat) w :=
  xp_iff fun _ => by
    simp only [Instr.index, asIntOf, Sem.run_bind, Sem.run_pure, Result.andThen_ok, run_underlying ht]
    rw [if_pos h0]
    have : s[i.toNat]? = some s[i.toNat] := by simp [getElem?_pos, h]
    simp [this]

/-! memory -/
theorem xLoad1_iff {b o : Nat} {x : Value} (h : w.cell? ⟨b, o, none⟩ = some x) : xLoad1 (.pointer (some ⟨b, o, none⟩)) w K = K x w := by
  unfold xLoad1
  refine propext ⟨?_, fun hk => ⟨_, x, rfl, h, hk⟩⟩
  rintro ⟨a, y, ha, hy, hk⟩
  cases ha
  rw [h] at hy; cases hy; exact hk
theorem xLoad1_blk {b o : Nat} {cs : Array Value} {t : TypeId} {fr : Nat × Nat} {x : Value} (h : w.heap[b]? = some (.cells cs t fr)) (hx : cs[o]? = some x) : xLoad1 (.pointer (some ⟨b, o, none⟩)) w K = K x w :=
  xLoad1_iff (by rw [cell_of_block h]; exact hx)
theorem xStore1 {t b o : Nat} {i : TypeInfo} {v x : Value} (hi : P.info? t = some i) (hs : i.size = 1) (hv : v.oneCell' = true) (hc : w.cell? ⟨b, o, none⟩ = some x) (hf : w.frozen? ⟨b, o, none⟩ = false) :
    xStore P t (.pointer (some ⟨b, o, none⟩)) v w K = K undef (w.setCell ⟨b, o, none⟩ v) := by
  unfold xStore
  refine xu_iff ?_
  have hcells : v.cells = #[v] := by cases v <;> simp_all [Value.cells, Value.oneCell']
  unfold Instr.storeAt Instr.sureAddr storeVar sizeOf typeInfo
  simp only [Sem.run_bind, Sem.run_pure, Result.andThen_ok, run_program, hi, hcells, hs]
  simp [storeCells, run_store P w ⟨b, o, none⟩ v .plain hv, hc, hf, Addr.add_none]
theorem xBox_eq (t : TypeId) (v : Value) : xBox P t v w K = K (.pointer (some ⟨w.heap.size, 0, none⟩)) (w.alloc (.cells v.cells t)) := by
  unfold xBox
  exact xv_iff rfl
theorem xAlloc_eq {t : TypeId} {i : TypeInfo} {z : Value} (hi : P.info? t = some i) (hz : i.zero = some z) : xAlloc P t w K = K (.pointer (some ⟨w.heap.size, 0, none⟩)) (w.alloc (.cells z.cells t)) := by
  unfold xAlloc
  refine xv_iff ?_
  unfold Instr.alloc zeroValue typeInfo
  simp only [Sem.run_bind, run_program, Result.andThen_ok, hi, Sem.run_pure, hz]
  rfl
theorem xMakeMap_eq {t : TypeId} : xMakeMap P t none w K = K (.map (some w.heap.size)) (w.alloc (.map #[] 0)) := by
  unfold xMakeMap
  exact xv_iff rfl
theorem xIndexAddr_slice {t e : TypeId} {i : TypeInfo} (ht : P.underlying t = some (.slice e)) (hi : P.info? e = some i) {b o n c : Nat} {k : Int} (h0 : 0 ≤ k) (h : k < n) :
    xIndexAddr P t (.slice (some ⟨b, o, none⟩) n c) (.int .i64 k) w K = K (.pointer (some ⟨b, o + k.toNat * i.size, none⟩)) w := xp_iff fun _ => by
  unfold Instr.indexAt
  simp only [asIntOf, Sem.run_bind, Sem.run_pure, Result.andThen_ok, run_underlying ht]
  rw [if_pos ⟨h0, h⟩]
  simp [sizeOf, typeInfo, hi, Addr.add_none]
theorem xSlice_slice {t e : TypeId} {i : TypeInfo} (ht : P.underlying t = some (.slice e)) (hi : P.info? e = some i) {a : Option Addr} {n c : Nat} {lo hi' : Option Value} {mx : Option Value} {l h m : Nat}
    (hb : ∀ w', (Instr.sliceBounds true n c lo hi' mx).run P w' = .ok (l, h, m) w') :
    xSlice P t (.slice a n c) lo hi' mx w K = K (.slice (if m = l then a else a.map (·.add (l * i.size))) (h - l) (m - l)) w := xp_iff fun w' => by
  unfold Instr.sliceAt Instr.slice
  simp only [Sem.run_bind, Result.andThen_ok, run_underlying ht, hb, sizeOf, typeInfo, run_program, hi, Sem.run_pure]
theorem bounds_hi {n c : Nat} {k : Int} (h0 : 0 ≤ k) (h : k ≤ c) (w' : World) : (Instr.sliceBounds true n c none (some (.int .i64 k)) none).run P w' = .ok (0, k.toNat, c) w' := by
  simp [Instr.sliceBounds, Instr.sliceBound, asIntOf, h0, h]
theorem bounds_lo {n c : Nat} {k : Int} (h0 : 0 ≤ k) (h : k ≤ n) (w' : World) : (Instr.sliceBounds true n c (some (.int .i64 k)) none none).run P w' = .ok (k.toNat, n, c) w' := by
  simp [Instr.sliceBounds, Instr.sliceBound, asIntOf, h0, h]
theorem bounds_lohi {n c : Nat} {k j : Int} (h0 : 0 ≤ k) (h : k ≤ j) (hj : j ≤ c) (w' : World) : (Instr.sliceBounds true n c (some (.int .i64 k)) (some (.int .i64 j)) none).run P w' = .ok (k.toNat, j.toNat, c) w' := by
  have : 0 ≤ j := by omega
  simp [Instr.sliceBounds, Instr.sliceBound, asIntOf, h0, this, hj, show k ≤ max j 0 by omega]
theorem bounds_himax {n c : Nat} {k j : Int} (h0 : 0 ≤ k) (h : k ≤ j) (hj : j ≤ c) (w' : World) : (Instr.sliceBounds true n c none (some (.int .i64 k)) (some (.int .i64 j))).run P w' = .ok (0, k.toNat, j.toNat) w' := by
  have : 0 ≤ j := by omega
  simp [Instr.sliceBounds, Instr.sliceBound, asIntOf, h0, this, hj, show k ≤ max j 0 by omega]
end

/-- Cells that are a byte each. -/
def bv (x : UInt8) : Value := .int .u8 x.toNat
theorem bv_one (l : List UInt8) : ∀ u ∈ l.map bv, u.oneCell' = true := by
  intro u hu
  obtain ⟨x, _, rfl⟩ := List.mem_map.1 hu
  rfl
theorem xAppend {P : Program} {w : World} {K : VCont} {t ty e : TypeId} {i : TypeInfo} {z : Value} {size bytes : Nat} (ht : P.underlying t = some (.slice e)) (hi : P.info? e = some i) (hz : i.zero = some z)
    (hsize : i.size = size) (hby : i.bytes = bytes) (hzs : z.cells.size = size) {cs : List Bool}
    {v : Value} {n : Nat} {xs : List Value} (hown : Own w e size v n xs)
    {a : Addr} {m c : Nat} {news : List Value} (hl : news.length = m * size) (hnews : ∀ j u, news[j]? = some u → w.cell? (a.add j) = some u) (h1 : ∀ u ∈ news, u.oneCell' = true)
    (h63 : n + m ≤ maxLen) (hbytes : (n + m) * bytes ≤ 140737488355328)
    (hK : ∀ v' w', Own w' e size v' (n + m) (xs ++ news) → Chg (fun b => v.ownBlock = some b) w w' → (v'.ownBlock = v.ownBlock ∨ v'.ownBlock = some w.heap.size) → K v' w') :
    xBuiltin P .append #[t, t] ty cs [v, .slice (some a) m c] w K := by
  obtain ⟨v', w', hr, h2, h3, _, h4⟩ := run_append_Own (P := P) w t ty e i z size bytes ht hi hz hsize hby hzs v n xs hown a m c news hl hnews h1 h63 hbytes
  unfold xBuiltin xNext
  have : (builtin .append #[t, t] ty cs.toArray [v, .slice (some a) m c].toArray).run P w = .ok (.value v') w' := by
    unfold builtin
    exact run_next_v hr
  rw [this]
  exact hK v' w' h2 (Chg.of_grown h3) h4
/-- append(v, u...) of a nil or empty u: v -/
theorem xAppend_none {P : Program} {w : World} {K : VCont} {t ty e : TypeId} {i : TypeInfo} (ht : P.underlying t = some (.slice e)) (hi : P.info? e = some i) {cs : List Bool}
    {v : Value} {n : Nat} {xs : List Value} {size : Nat} (hown : Own w e size v n xs) {c : Nat} (hK : K v w) :
    xBuiltin P .append #[t, t] ty cs [v, .slice none 0 c] w K := by
  unfold xBuiltin xNext
  have : (builtin .append #[t, t] ty cs.toArray [v, .slice none 0 c].toArray).run P w = .ok (.value v) w := by
    unfold builtin
    refine run_next_v ?_
    rcases hown.2 with ⟨rfl, rfl⟩ | ⟨g, cap, cur, rfl, hg, hnc, _⟩
    · simp [Builtin.append_, run_underlying ht, sizeOf, typeInfo, hi, Builtin.lenOf, Builtin.firstCells]
    · simp [Builtin.append_, run_underlying ht, sizeOf, typeInfo, hi, Builtin.lenOf, Builtin.firstCells, hnc, storeCells]
  rw [this]
  exact hK
theorem byteArray_toList (s : ByteArray) : s.toList = s.data.toList := ByteArray.toList_eq s
end Go.Sx
end
