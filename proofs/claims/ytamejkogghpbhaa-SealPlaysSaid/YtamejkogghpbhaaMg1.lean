import Derived.Orders
import Derived.Deep.Quiet
import Derived.KernelRfl
import Derived.Laws.Sem
section
/- A small calculus: what a function's code comes to, as a proposition in continuation-passing style; that it holds of the machine. -/
namespace Go.Sx
open Go

abbrev Env := Nat → Value
abbrev Cont := Env → World → Prop
abbrev VCont := Value → World → Prop

def upd (e : Env) (d : Nat) (v : Value) : Env := fun i => cond (Nat.beq i d) v (e i)
def put (e : Env) (d : Option Nat) (v : Value) : Env := match d with | some d => upd e d v | none => e
def ev (e : Env) (x : Operand) : Value := match x with
  | .tmp t => e t
  | .const v => v
  | .global g => .pointer (some ⟨g, 0, none⟩)
  | .func f => .func (.func f) #[] #[]
def isC (x : Operand) : Bool := match x with | .const _ => true | _ => false
def evo (e : Env) (x : Option Operand) : Option Value := match x with | some x => some (ev e x) | none => none

/-- What a step comes to: a value, nothing, or a call that returns. -/
def xNext (P : Program) (s : Sem Next) (w : World) (K : VCont) : Prop :=
  match s.run P w with
  | .ok (.value v) w' => K v w'
  | .ok .skip w' => K undef w'
  | .ok (.enter f args) w' => Calls P f args w' fun e w'' => ∃ v, e = .returned v ∧ K v w''
  | _ => False
def xv (P : Program) (s : Sem Value) (w : World) (K : VCont) : Prop :=
  match s.run P w with
  | .ok v w' => K v w'
  | _ => False
/-- A step that asks nothing of the world. -/
def xp (P : Program) (s : Sem Value) (w : World) (K : VCont) : Prop := ∃ v, (∀ w', s.run P w' = .ok v w') ∧ K v w
def xu (P : Program) (s : Sem Unit) (w : World) (K : VCont) : Prop :=
  match s.run P w with
  | .ok _ w' => K undef w'
  | _ => False

theorem xNext_v {P : Program} {s : Sem Value} {w : World} {K : VCont} (h : xv P s w K) : xNext P (do pure (.value (← s))) w K := by
  unfold xNext; unfold xv at h
  rw [Sem.run_bind]
  cases hr : s.run P w <;> rw [hr] at h
  · exact h
  · exact h.elim
theorem xNext_u {P : Program} {s : Sem Unit} {w : World} {K : VCont} (h : xu P s w K) : xNext P (do s; pure .skip) w K := by
  unfold xNext; unfold xu at h
  rw [Sem.run_bind]
  cases hr : s.run P w <;> rw [hr] at h
  · exact h
  · exact h.elim

theorem xp_run {P : Program} {s : Sem Value} {w : World} {K : VCont} (h : xp P s w K) : xv P s w K := by
  obtain ⟨v, h1, h2⟩ := h
  unfold xv; rw [h1]; exact h2
theorem run_next_v {P : Program} {s : Sem Value} {w w' : World} {v : Value} (h : s.run P w = .ok v w') : (do pure (.value (← s)) : Sem Next).run P w = .ok (.value v) w' := by
  rw [Sem.run_bind, h]; rfl

/-! the operations -/
/-- How many cells a value of this type has, if it is a struct or an array. -/
def aggOf (P : Program) (t : TypeId) : Option (Option Nat) :=
  match P.underlying t with
  | some (.struct _) | some (.array _ _) => match P.info? t with | some i => some (some i.size) | none => none
  | some _ => some none
  | none => none
def offOf (P : Program) (s : TypeId) (f : Nat) : Option Nat :=
  match P.underlying s with
  | some (.struct fs) => match fs.toList[f]? with
    | some fl => match P.info? fl.type with
      | some i => match i.size with | 0 => none | _ + 1 => some fl.offset
      | none => none
    | none => none
  | _ => none
/-- a field of a struct's value: whether it is an aggregate of so many cells, and where it stands -/
def fieldOf (P : Program) (s : TypeId) (f : Nat) : Option (Option Nat × Nat) :=
  match P.underlying s with
  | some (.struct fs) => match fs.toList[f]? with
    | some fl => match aggOf P fl.type with | some a => some (a, fl.offset) | none => none
    | none => none
  | _ => none

def xLoad1 (v : Value) (w : World) (K : VCont) : Prop := ∃ a x, v = .pointer (some a) ∧ w.cell? a = some x ∧ K x w
def xLoadN (n : Nat) (v : Value) (w : World) (K : VCont) : Prop :=
  ∃ (a : Addr) (cs : List Value), v = .pointer (some a) ∧ cs.length = n ∧ (∀ i, i < n → w.cell? (a.add i) = cs[i]?) ∧ K (.agg cs.toArray) w
def xLoad (t : Option (Option Nat)) (v : Value) (w : World) (K : VCont) : Prop :=
  match t with | some none => xLoad1 v w K | some (some n) => xLoadN n v w K | none => False
def xStore (P : Program) (t : TypeId) (a v : Value) (w : World) (K : VCont) : Prop := xu P (Instr.storeAt t a v) w K
def xOff (n : Option Nat) (v : Value) (w : World) (K : VCont) : Prop :=
  match n with | some n => ∃ a, v = .pointer (some a) ∧ K (.pointer (some (a.add n))) w | none => False
def xField1 (n : Nat) (v : Value) (w : World) (K : VCont) : Prop := ∃ cs x, v = .agg cs ∧ cs[n]? = some x ∧ K x w
def xFieldN (n k : Nat) (v : Value) (w : World) (K : VCont) : Prop := ∃ cs, v = .agg cs ∧ K (.agg (cs.extract n (n + k))) w
def xField (f : Option (Option Nat × Nat)) (v : Value) (w : World) (K : VCont) : Prop :=
  match f with | some (none, n) => xField1 n v w K | some (some k, n) => xFieldN n k v w K | none => False
def xNil (v : Value) (w : World) (K : VCont) : Prop :=
  match v with
  | .pointer none | .nilIface | .nilFunc => False
  | .func (.method _) _ _ => False
  | _ => K v w
def xAlloc (P : Program) (t : TypeId) (w : World) (K : VCont) : Prop := xv P (Instr.alloc t true (.tuple #[])) w K
def xBox (P : Program) (t : TypeId) (v : Value) (w : World) (K : VCont) : Prop := xv P (Instr.box t v) w K
def xBuild (P : Program) (t : TypeId) (ps : List (Nat × Value)) (w : World) (K : VCont) : Prop := xp P (Instr.build t ps.toArray) w K
def xBuildSlice (P : Program) (t : TypeId) (n : Nat) (ps : List (Nat × Value)) (w : World) (K : VCont) : Prop := xv P (Instr.buildSlice t n ps.toArray) w K
def xPick (c a b : Value) (w : World) (K : VCont) : Prop := ∃ t, c = .bool t ∧ K (cond t a b) w
/-- '==' between what may be nil interfaces or structs that hold them is asked of no constant: only what is of neither kind. -/
def eqPlain (a b : Value) : Prop := match a, b with | .nilIface, .nilIface => False | .agg _, .agg _ => False | _, _ => True
def xBin (P : Program) (op : BinOp) (t : TypeId) (a b : Value) (w : World) (K : VCont) : Prop := xp P (binOp op t a b) w K
/-- '==', '!=' -/
def xEq (P : Program) (op : BinOp) (t : TypeId) (cx cy : Bool) (a b : Value) (w : World) (K : VCont) : Prop :=
  xp P (do eqGuard op t (cond cx (.const a) (.tmp 0)) (cond cy (.const b) (.tmp 0)) a b; binOp op t a b) w K
def xUn (P : Program) (op : UnOp) (a : Value) (w : World) (K : VCont) : Prop := xp P (Op.unary op a) w K
/-- What kind of step an operation is: it asks nothing of the world; it reads; it does more. -/
inductive Kd where
  | pure
  | read
  | more
def isSl (P : Program) (t : TypeId) : Bool := match P.underlying t with | some (.slice _) => true | _ => false
def convK (P : Program) (s d : TypeId) : Kd := cond (isSl P d) .more (cond (isSl P s) .read .pure)
def xConvK (P : Program) (k : Kd) (s d : TypeId) (a : Value) (w : World) (K : VCont) : Prop :=
  match k with
  | .pure => xp P (convert s d a) w K
  | _ => xv P (convert s d a) w K
def lenK (P : Program) (t : TypeId) : Kd := match P.underlying t with | some .string | some (.slice _) | some (.array _ _) => .pure | some _ => .read | none => .more
def xLen (P : Program) (k : Kd) (ts : Array TypeId) (a : Value) (w : World) (K : VCont) : Prop :=
  match k with
  | .pure => xp P (Builtin.len_ ts 0 #[a]) w K
  | _ => xv P (Builtin.len_ ts 0 #[a]) w K
def xMinMax (P : Program) (b : Bool) (args : List Value) (w : World) (K : VCont) : Prop :=
  xp P (cond b (Builtin.max_ #[] 0 args.toArray) (Builtin.min_ #[] 0 args.toArray)) w K
def xIface (P : Program) (t : TypeId) (a : Value) (w : World) (K : VCont) : Prop := xp P (Instr.makeInterface t a) w K
def xMakeMap (P : Program) (t : TypeId) (r : Option Value) (w : World) (K : VCont) : Prop := xv P (Instr.makeMap t r) w K
def xMakeSlice (P : Program) (t : TypeId) (l c : Value) (w : World) (K : VCont) : Prop := xv P (Instr.makeSlice t l c) w K
def xSlice (P : Program) (t : TypeId) (x : Value) (l h m : Option Value) (w : World) (K : VCont) : Prop := xp P (Instr.sliceAt t x l h m) w K
def xIndexAddr (P : Program) (t : TypeId) (x i : Value) (w : World) (K : VCont) : Prop := xp P (Instr.indexAt t x i) w K
def xIndex (P : Program) (t : TypeId) (x i : Value) (w : World) (K : VCont) : Prop := xp P (Instr.index t x i) w K
def xLookup (P : Program) (t : TypeId) (m k : Value) (ok : Bool) (w : World) (K : VCont) : Prop := xv P (Instr.lookup t m k ok) w K
def xMapUpdate (P : Program) (t : TypeId) (m k v : Value) (w : World) (K : VCont) : Prop := xu P (Instr.mapUpdate t m k v) w K
def xMapEntry (P : Program) (t : TypeId) (m k : Value) (w : World) (K : VCont) : Prop := xv P (Instr.mapEntry t m k) w K
def xEntryStore (P : Program) (t : TypeId) (m s v : Value) (w : World) (K : VCont) : Prop := xu P (Instr.entryStore t m s v) w K
def xRange (P : Program) (t : TypeId) (x : Value) (w : World) (K : VCont) : Prop := xv P (Instr.range t x) w K
def xIter (P : Program) (it : Value) (s : Bool) (t : TypeId) (w : World) (K : VCont) : Prop := xv P (Instr.next it s t) w K
def xEntry (P : Program) (it : Value) (w : World) (K : VCont) : Prop := xv P (Instr.entry it) w K
def xAssert (P : Program) (x : Value) (t a : TypeId) (ok : Bool) (w : World) (K : VCont) : Prop := xp P (Instr.typeAssert x t a ok) w K
def xExtract (v : Value) (i : Nat) (w : World) (K : VCont) : Prop := ∃ vs x, v = .tuple vs ∧ vs[i]? = some x ∧ K x w
def xCall (P : Program) (f : FuncId) (args : List Value) (w : World) (K : VCont) : Prop := xNext P (callFunc f args.toArray) w K
def xCallV (P : Program) (f : Value) (args : List Value) (w : World) (K : VCont) : Prop :=
  xNext P (do let d ← Deferred.ofValue f args.toArray; invoke d.target d.args) w K
def xInvoke (P : Program) (r : Value) (name : String) (args : List Value) (w : World) (K : VCont) : Prop := xNext P (callMethod r name args.toArray) w K
def xBuiltin (P : Program) (b : Builtin) (ts : Array TypeId) (t : TypeId) (cs : List Bool) (args : List Value) (w : World) (K : VCont) : Prop :=
  xNext P (builtin b ts t cs.toArray args.toArray) w K
/-- done, or not, as a guard says -/
def xWhen (c : Value) (b : Bool) (f : VCont → Prop) (w : World) (K : VCont) : Prop := (c = .bool b → f K) ∧ (c ≠ .bool b → K undef w)
def xIf (c : Value) (a b : Prop) : Prop := match c with | .bool true => a | .bool false => b | _ => False

def opx (P : Program) (e : Env) (o : Oper) (w : World) (K : VCont) : Prop :=
  match o.op with
  | .move x | .assign x => K (ev e x) w
  | .pick c a b => xPick (ev e c) (ev e a) (ev e b) w K
  | .alloc t => xAlloc P t w K
  | .box t x => xBox P t (ev e x) w K
  | .build t parts => xBuild P t (parts.toList.map fun p => (p.1, ev e p.2)) w K
  | .buildSlice t len parts => xBuildSlice P t len (parts.toList.map fun p => (p.1, ev e p.2)) w K
  | .load t a => xLoad (aggOf P t) (ev e a) w K
  | .store t a x => xStore P t (ev e a) (ev e x) w K
  | .nilCheck x => xNil (ev e x) w K
  | .binOp .eql t x y _ => xEq P .eql t (isC x) (isC y) (ev e x) (ev e y) w K
  | .binOp .neq t x y _ => xEq P .neq t (isC x) (isC y) (ev e x) (ev e y) w K
  | .binOp op t x y _ => xBin P op t (ev e x) (ev e y) w K
  | .unOp op _ x => xUn P op (ev e x) w K
  | .convert s d x => xConvK P (convK P s d) s d (ev e x) w K
  | .makeInterface t x => xIface P t (ev e x) w K
  | .makeFunc fn first cap => K (.func fn (first.toList.map (ev e)).toArray (cap.toList.map (ev e)).toArray) w
  | .makeMap t r => xMakeMap P t (evo e r) w K
  | .makeSlice t l c => xMakeSlice P t (ev e l) (ev e c) w K
  | .slice t x l h m => xSlice P t (ev e x) (evo e l) (evo e h) (evo e m) w K
  | .fieldAddr s x f => xOff (offOf P s f) (ev e x) w K
  | .field t x f => xField (fieldOf P t f) (ev e x) w K
  | .indexAddr t x i => xIndexAddr P t (ev e x) (ev e i) w K
  | .index t x i => xIndex P t (ev e x) (ev e i) w K
  | .lookup t x i ok => xLookup P t (ev e x) (ev e i) ok w K
  | .mapUpdate t m k v | .insert t m k v => xMapUpdate P t (ev e m) (ev e k) (ev e v) w K
  | .mapEntry t m k => xMapEntry P t (ev e m) (ev e k) w K
  | .entryStore t m s v => xEntryStore P t (ev e m) (ev e s) (ev e v) w K
  | .range t x => xRange P t (ev e x) w K
  | .next it s => xIter P (ev e it) s o.type w K
  | .entry it => xEntry P (ev e it) w K
  | .typeAssert x t a ok => xAssert P (ev e x) t a ok w K
  | .extract t i => xExtract (ev e t) i w K
  | .call c =>
    match c.callee with
    | .value (.func f) => xCall P f (c.args.toList.map (ev e)) w K
    | .value f => xCallV P (ev e f) (c.args.toList.map (ev e)) w K
    | .invoke r name => xInvoke P (ev e r) name (c.args.toList.map (ev e)) w K
    | .builtin .len =>
      match c.argTypes.toList, c.args.toList with
      | [t], [x] => xLen P (lenK P t) c.argTypes (ev e x) w K
      | _, _ => False
    | .builtin .max => xMinMax P true (c.args.toList.map (ev e)) w K
    | .builtin .min => xMinMax P false (c.args.toList.map (ev e)) w K
    | .builtin b => xBuiltin P b c.argTypes o.type (c.args.toList.map isC) (c.args.toList.map (ev e)) w K
  | _ => False

theorem map_evs (e : Env) (xs : Array Operand) : (xs.toList.map (ev e)).toArray = xs.map (ev e) := by
  rw [← List.map_toArray, Array.toArray_toList]
theorem ev_const {e : Env} {x : Operand} (h : isC x = true) : x = .const (ev e x) := by cases x <;> simp_all [isC, ev]
theorem eqGuard_isC (op : BinOp) (t : TypeId) (x y : Operand) (a b : Value) :
    eqGuard op t (cond (isC x) (.const a) (.tmp 0)) (cond (isC y) (.const b) (.tmp 0)) a b = eqGuard op t x y a b := by
  cases x <;> cases y <;> rfl
theorem loadCellsFrom_run {P : Program} {a : Addr} {w : World} : ∀ (cs : List Value) (i : Nat) (acc : Array Value),
    (∀ j, j < cs.length → w.cell? (a.add (i + j)) = cs[j]?) → (loadCellsFrom a i cs.length acc).run P w = .ok (acc ++ cs.toArray) w := by
  intro cs
  induction cs with
  | nil => intro i acc _; simp [loadCellsFrom]
  | cons c cs ih =>
    intro i acc h
    have h0 := h 0 (by simp)
    simp at h0
    simp only [List.length_cons, loadCellsFrom, Sem.run_bind, run_load, h0, Result.andThen_ok]
    rw [ih (i + 1) (acc.push c) (fun j hj => by
      have := h (j + 1) (by simpa using hj)
      rw [show i + 1 + j = i + (j + 1) by omega]; simpa using this)]
    simp
theorem loadCells_run {P : Program} {a : Addr} {w : World} {cs : List Value} {n : Nat} (hl : cs.length = n) (h : ∀ i, i < n → w.cell? (a.add i) = cs[i]?) :
    (loadCells a n).run P w = .ok cs.toArray w := by
  subst hl
  unfold loadCells
  rw [loadCellsFrom_run cs 0 #[] (by simpa using h)]
  simp
theorem xLoad_run {P : Program} {t : TypeId} {v : Value} {w : World} {K : VCont} (h : xLoad (aggOf P t) v w K) : xv P (Instr.loadAt t v) w K := by
  unfold aggOf at h
  have one : ∀ d, P.underlying t = some d → (∀ fs, d ≠ .struct fs) → (∀ n e, d ≠ .array n e) → xLoad1 v w K → xv P (Instr.loadAt t v) w K := by
    rintro d hd h1 h2 ⟨a, x, rfl, hx, hK⟩
    have : (Instr.loadAt t (.pointer (some a))).run P w = .ok x w := by
      unfold Instr.loadAt Instr.sureAddr loadVar isAgg underlying
      cases d <;> simp_all
    unfold xv; rw [this]; exact hK
  have many : ∀ i, ((∃ fs, P.underlying t = some (.struct fs)) ∨ ∃ n e, P.underlying t = some (.array n e)) → P.info? t = some i → xLoadN i.size v w K → xv P (Instr.loadAt t v) w K := by
    rintro i hu hi ⟨a, cs, rfl, hl, hc, hK⟩
    have : (Instr.loadAt t (.pointer (some a))).run P w = .ok (.agg cs.toArray) w := by
      unfold Instr.loadAt Instr.sureAddr loadVar isAgg underlying sizeOf typeInfo
      rcases hu with ⟨fs, hu⟩ | ⟨n, e, hu⟩ <;> simp [hu, hi, loadCells_run hl hc]
    unfold xv; rw [this]; exact hK
  split at h
  · rename_i fs hu
    split at h
    · rename_i i hi; exact many i (.inl ⟨fs, hu⟩) hi h
    · exact h.elim
  · rename_i n e hu
    split at h
    · rename_i i hi; exact many i (.inr ⟨n, e, hu⟩) hi h
    · exact h.elim
  · rename_i d h1 h2 hu
    exact one d hu (fun fs => by rintro rfl; exact h1 fs rfl) (fun n e => by rintro rfl; exact h2 n e rfl) h
  · exact h.elim
theorem xOff_run {P : Program} {t : TypeId} {f : Nat} {v : Value} {w : World} {K : VCont} (h : xOff (offOf P t f) v w K) : xv P (Instr.fieldAt t v f) w K := by
  unfold offOf at h
  split at h <;> try exact h.elim
  rename_i fs hu
  split at h <;> try exact h.elim
  rename_i fl hf
  split at h <;> try exact h.elim
  rename_i i hi
  split at h <;> try exact h.elim
  rename_i k hk
  obtain ⟨a, rfl, hK⟩ := h
  have hf' : fs[f]? = some fl := by simpa using hf
  have : (Instr.fieldAt t (.pointer (some a)) f).run P w = .ok (.pointer (some (a.add fl.offset))) w := by
    unfold Instr.fieldAt Instr.sureAddr underlying fieldPlace sizeOf typeInfo
    simp [hu, hf', hi, hk]
  unfold xv; rw [this]; exact hK
theorem xField_run {P : Program} {t : TypeId} {f : Nat} {v : Value} {w : World} {K : VCont} (h : xField (fieldOf P t f) v w K) : xv P (Instr.field t v f) w K := by
  unfold fieldOf at h
  split at h <;> try exact h.elim
  rename_i fs hu
  split at h <;> try exact h.elim
  rename_i fl hf
  have hf' : fs[f]? = some fl := by simpa using hf
  unfold aggOf at h
  have one : ∀ d, P.underlying fl.type = some d → (∀ fs, d ≠ .struct fs) → (∀ n e, d ≠ .array n e) → xField1 fl.offset v w K → xv P (Instr.field t v f) w K := by
    rintro d hd h1 h2 ⟨cs, x, rfl, hx, hK⟩
    have : (Instr.field t (.agg cs) f).run P w = .ok x w := by
      unfold Instr.field underlying part isAgg asAgg underlying
      cases d <;> simp_all
    unfold xv; rw [this]; exact hK
  have many : ∀ i, ((∃ fs, P.underlying fl.type = some (.struct fs)) ∨ ∃ n e, P.underlying fl.type = some (.array n e)) → P.info? fl.type = some i → xFieldN fl.offset i.size v w K → xv P (Instr.field t v f) w K := by
    rintro i hu' hi ⟨cs, rfl, hK⟩
    have : (Instr.field t (.agg cs) f).run P w = .ok (.agg (cs.extract fl.offset (fl.offset + i.size))) w := by
      unfold Instr.field underlying part isAgg asAgg underlying sizeOf typeInfo
      rcases hu' with ⟨fs, hu'⟩ | ⟨n, e, hu'⟩ <;> simp [hu, hu', hf', hi]
    unfold xv; rw [this]; exact hK
  split at h
  · rename_i x heq
    split at heq
    · rename_i fs hu'
      split at heq
      · rename_i i hi
        obtain rfl := Option.some.inj heq
        exact many i (.inl ⟨fs, hu'⟩) hi h
      · exact absurd heq (by simp)
    · rename_i n e hu'
      split at heq
      · rename_i i hi
        obtain rfl := Option.some.inj heq
        exact many i (.inr ⟨n, e, hu'⟩) hi h
      · exact absurd heq (by simp)
    · rename_i d h1 h2 hu'
      obtain rfl := Option.some.inj heq
      exact one d hu' (fun fs => by rintro rfl; exact h1 fs rfl) (fun n e => by rintro rfl; exact h2 n e rfl) h
    · exact absurd heq (by simp)
  · exact h.elim
theorem evo_map (e : Env) (x : Option Operand) : evo e x = x.map (ev e) := by cases x <;> rfl
theorem parts_map (e : Env) (xs : Array (Nat × Operand)) : (xs.toList.map fun p => (p.1, ev e p.2)).toArray = xs.map fun (i, x) => (i, ev e x) := by
  rw [← List.map_toArray, Array.toArray_toList]
theorem head_app (x : Value) (xs : Array Value) : (#[x] ++ xs)[0]? = some x := by simp [Array.getElem?_append]
theorem tail_app (x : Value) (xs : Array Value) : (#[x] ++ xs).extract 1 (#[x] ++ xs).size = xs := by
  apply Array.ext'
  simp
theorem opx_next {P : Program} {e : Env} {o : Oper} {w : World} {K : VCont} (h : opx P e o w K) : xNext P (execOp (ev e) o) w K := by
  obtain ⟨dst, op, type, pos, after, guard⟩ := o
  cases op <;> simp only [opx] at h <;> simp only [execOp]
  case move => exact h
  case assign => exact h
  case pick =>
    obtain ⟨t, ht, hK⟩ := h
    simp only [ht, xNext]
    cases t <;> exact hK
  case alloc => exact xNext_v h
  case box => exact xNext_v h
  case build => rw [← parts_map]; exact xNext_v (xp_run h)
  case buildSlice => rw [← parts_map]; exact xNext_v h
  case load => exact xNext_v (xLoad_run h)
  case store => exact xNext_u h
  case nilCheck x =>
    revert h
    generalize ev e x = v
    intro h
    unfold xNil at h
    split at h <;> try exact h.elim
    rename_i h1 h2 h3 h4
    split
    · exact (h1 rfl).elim
    · exact (h2 rfl).elim
    · exact (h3 rfl).elim
    · exact (h4 _ _ _ rfl).elim
    · exact h
  case binOp op t x y yt =>
    have key : ∀ (cx cy : Operand), eqGuard op t cx cy (ev e x) (ev e y) = pure () → xBin P op t (ev e x) (ev e y) w K → xNext P (do pure (.value (← do eqGuard op t cx cy (ev e x) (ev e y); binOp op t (ev e x) (ev e y)))) w K := by
      intro cx cy he hb
      rw [he]
      exact xNext_v (xp_run hb)
    cases op
    case eql =>
      refine xNext_v ?_
      rw [← eqGuard_isC .eql t x y]
      exact xp_run h
    case neq =>
      refine xNext_v ?_
      rw [← eqGuard_isC .neq t x y]
      exact xp_run h
    all_goals exact key x y (by unfold eqGuard; rfl) h
  case unOp => exact xNext_v (xp_run h)
  case convert s d x =>
    refine xNext_v ?_
    unfold xConvK at h
    split at h
    · exact xp_run h
    · exact h
  case makeInterface => exact xNext_v (xp_run h)
  case makeFunc => rw [map_evs, map_evs] at h; exact xNext_v h
  case makeMap => rw [evo_map] at h; exact xNext_v h
  case makeSlice => exact xNext_v h
  case slice => rw [evo_map, evo_map, evo_map] at h; exact xNext_v (xp_run h)
  case fieldAddr => exact xNext_v (xOff_run h)
  case field => exact xNext_v (xField_run h)
  case indexAddr => exact xNext_v (xp_run h)
  case index => exact xNext_v (xp_run h)
  case lookup => exact xNext_v h
  case mapUpdate => exact xNext_u h
  case insert => exact xNext_u h
  case mapEntry => exact xNext_v h
  case entryStore => exact xNext_u h
  case range => exact xNext_v h
  case next => exact xNext_v h
  case entry => exact xNext_v h
  case typeAssert => exact xNext_v (xp_run h)
  case extract =>
    obtain ⟨vs, x, hv, hx, hK⟩ := h
    refine xNext_v ?_
    simp only [hv, Instr.extract, xv, hx]
    exact hK
  case call c =>
    obtain ⟨callee, args, ts⟩ := c
    cases callee <;> simp only at h
    case value f =>
      cases f <;> simp only [resolve] <;> simp only [xCallV, xCall, map_evs] at h
      case func f =>
        have : (do let d ← Deferred.ofValue (ev e (.func f)) (args.map (ev e)); invoke d.target d.args : Sem Next) = callFunc f (args.map (ev e)) := by
          simp [ev, Deferred.ofValue, invoke]
        rw [this]; exact h
      all_goals exact h
    case invoke r name =>
      simp only [resolve]
      simp only [xInvoke, map_evs] at h
      have : (do let d ← (pure { target := .fn (.method name) #[], args := #[ev e r] ++ args.map (ev e) } : Sem Deferred); invoke d.target d.args : Sem Next) = callMethod (ev e r) name (args.map (ev e)) := by
        simp only [invoke, pure_bind, head_app, tail_app]
      rw [this]; exact h
    case builtin b =>
      simp only [resolve]
      have hc : (args.toList.map isC).toArray = args.map (fun | .const _ => true | _ => false) := by
        rw [← List.map_toArray, Array.toArray_toList]
        rfl
      cases b
      case len =>
        simp only at h
        split at h
        · rename_i t x ht hx
          have hx' : args = #[x] := by rw [← Array.toArray_toList (xs := args), hx]
          subst hx'
          have h' : xv P (Builtin.len_ ts 0 #[ev e x]) w K := by
            unfold xLen at h
            split at h
            · exact xp_run h
            · exact h
          have hl : Builtin.len_ ts type (Array.map (ev e) #[x]) = Builtin.len_ ts 0 #[ev e x] := by simp [Builtin.len_]
          rw [← hl] at h'
          exact xNext_v h'
        · exact h.elim
      case max =>
        simp only [xMinMax, cond_true, map_evs] at h
        exact xNext_v (xp_run h)
      case min =>
        simp only [xMinMax, cond_false, map_evs] at h
        exact xNext_v (xp_run h)
      all_goals
        simp only [xBuiltin, map_evs, hc] at h
        exact h

/-! the code -/
/-- How a piece of code is left. -/
inductive Ex where
  | normal
  | exit (id : Nat)
  | ret
abbrev LX := List Value → World → Prop
/-- A place that is told by a text of its own: a join, or a loop: the slots that it leaves alone and reads, those that it turns, its round. -/
inductive Ent where
  | join (J : List LX → Env → World → Prop)
  | loop (fs vs : List Nat) (T : List LX → List Value → LX → List Value → World → Prop)

/-- The least relation that a round carries on: whoever comes here comes out. -/
def Lp (T : LX → List Value → World → Prop) (s : List Value) (w : World) : Prop := ∀ X : LX, (∀ s w, T X s w → X s w) → X s w

def thenX (C : Cont) (Q : Ex → Cont) : Ex → Cont := fun x => match x with | .normal => C | .exit i => Q (.exit i) | .ret => Q .ret
def blockX (id : Nat) (Q : Ex → Cont) : Ex → Cont := fun x => match x with
  | .normal => Q .normal
  | .exit i => cond (Nat.beq i id) (Q .normal) (Q (.exit i))
  | .ret => Q .ret

/-- How often a piece of code is left in one way, as a text without cuts would have it. -/
def cntN : Code → Nat
  | .region _ ops true => cond (ops.toList.any fun o => match o.op with | .alloc _ | .buildSlice .. => true | _ => false) 2 1
  | .seq a b => match cntN a with | 0 => 0 | _ + 1 => cntN b
  | .cond _ a b => cntN a + cntN b
  | .block id a => cntN a + cntE id a
  | .loop _ | .exit _ | .ret | .goto _ | .refuse _ => 0
  | _ => 1
where cntE (id : Nat) : Code → Nat
  | .seq a b => cntE id a + match cntN a with | 0 => 0 | _ + 1 => cntE id b
  | .cond _ a b => cntE id a + cntE id b
  | .block _ a => cntE id a
  | .loop a => cntE id a
  | .exit i => cond (Nat.beq i id) 1 0
  | _ => 0
def hasLoop : Code → Bool
  | .seq a b | .cond _ a b => hasLoop a || hasLoop b
  | .block _ a => hasLoop a
  | .loop _ => true
  | _ => false
/-- Is what stands behind a told by a text of its own? -/
def cut (a : Code) : Bool := Nat.blt 1 (cntN a) || hasLoop a
/-- How many texts of their own there are. -/
def nj : Code → Nat
  | .seq a b => nj a + nj b + cond (cut a) 1 0
  | .cond _ a b => nj a + nj b
  | .block _ a => nj a
  | .loop a => nj a + 1
  | _ => 0

def opsx (P : Program) (all : List Oper) : List Oper → Env → World → Cont → Prop
  | [], e, w, K => K e w
  | o :: r, e, w, K =>
    match o.guard with
    | none => opx P e o w fun v w' => opsx P all r (put e o.dst v) w' K
    | some (j, b) =>
      match (all[j]?).bind (·.dst) with
      | some d => xWhen (e d) b (opx P e o w) w fun v w' => opsx P all r (put e o.dst v) w' K
      | none => False

/-! a region whose order Go leaves open -/
def builtinK (P : Program) (b : Builtin) (ts : Array TypeId) : Kd :=
  match b with
  | .len => match ts.toList with | [t] => lenK P t | _ => .more
  | .max | .min => .pure
  | _ => .more
def kindOf (P : Program) (op : Op) : Kd :=
  match op with
  | .move _ | .assign _ | .pick .. | .nilCheck _ | .makeFunc .. | .fieldAddr .. | .field .. | .extract .. | .binOp .. | .unOp .. | .makeInterface .. | .slice ..
  | .indexAddr .. | .index .. | .build .. | .typeAssert .. => .pure
  | .convert s d _ => convK P s d
  | .load .. | .lookup .. => .read
  | .call c => match c.callee with | .builtin b => builtinK P b c.argTypes | _ => .more
  | _ => .more
/-- An operation that was carried out early, and what it read. -/
structure Pend where
  k : Nat
  e : Env
  o : Oper
  v : Value
/-- an operation, if its guard says so -/
def opg (P : Program) (all : List Oper) (e : Env) (o : Oper) (w : World) (K : VCont) : Prop :=
  match o.guard with
  | none => opx P e o w K
  | some (j, b) =>
    match (all[j]?).bind (·.dst) with
    | some d => xWhen (e d) b (opx P e o w) w K
    | none => False
def pend1 (P : Program) (all : List Oper) (p : Pend) (w : World) : Prop := opg P all p.e p.o w fun v' w' => w' = w ∧ v' = p.v
def pends (P : Program) (all : List Oper) (S : List Pend) (w : World) (next : Prop) : Prop :=
  match S with
  | [] => next
  | p :: S => pend1 P all p w ∧ pends P all S w next
/-- An order that stands for all: floating operations as early as they may be; where several others may come, each of them. -/
inductive OT where
  | done
  | fl (i : Nat) (r : OT)
  | an (i : Nat) (r more : OT)
  | no
/-- the operations that must come ahead, as bits: out of those of the elder ones -/
def maskOf (C : List (Nat × Nat)) (after : List Edge) : Nat :=
  match after with
  | [] => 0
  | e :: r => cond (Region.binds .any e) (Nat.lor (Nat.lor (Nat.shiftLeft 1 e.on) ((C.lookup e.on).getD 0)) (maskOf C r)) (maskOf C r)
def drawx (P : Program) (all : List Oper) : OT → List (Nat × Nat) → List Pend → Env → World → Cont → Prop
  | .done, _, _, e, w, K => K e w
  | .no, _, _, _, _, _ => True
  | .fl i r, C, S, e, w, K =>
    match all[i]? with
    | some o =>
      let C' := (i, maskOf C o.after.toList) :: C
      match kindOf P o.op with
      | .pure => opg P all e o w fun v _ => drawx P all r C' S (put e o.dst v) w K
      | .read => opg P all e o w fun v w' => w' = w ∧ drawx P all r C' (⟨i, e, o, v⟩ :: S) (put e o.dst v) w K
      | .more => False
    | none => False
  | .an i r more, C, S, e, w, K =>
    match all[i]? with
    | some o =>
      let m := maskOf C o.after.toList
      let S' := S.filter fun p => !Nat.testBit m p.k
      opgAnd P all e o w (fun v w' => pends P all S' w' (drawx P all r ((i, m) :: C) S' (put e o.dst v) w' K)) more (drawx P all more C S e w K)
    | none => False
where opgAnd (P : Program) (all : List Oper) (e : Env) (o : Oper) (w : World) (K : VCont) (more : OT) (M : Prop) : Prop :=
  match more with
  | .no => opg P all e o w K
  | _ => opg P all e o w K ∧ M

def getE (Es : List Ent) (n : Nat) : Ent := Es.getD n (.join fun _ _ _ => False)
def sxh (P : Program) (Os : Nat → OT) (Es : List Ent) (Xs : List LX) : Nat → Code → (Ex → Cont) → Env → World → Prop
  | _, .skip, Q, e, w => Q .normal e w
  | _, .label _, Q, e, w => Q .normal e w
  | _, .region _ ops false, Q, e, w => opsx P ops.toList ops.toList e w (Q .normal)
  | _, .region id ops true, Q, e, w => drawx P ops.toList (Os id) [] [] e w.drew (Q .normal)
  | n, .seq a b, Q, e, w =>
    cond (cut a)
      (sxh P Os Es Xs (n + 1) a (thenX (fun e w => match getE Es n with | .join J => J Xs e w | .loop .. => False) Q) e w)
      (sxh P Os Es Xs n a (thenX (fun e w => sxh P Os Es Xs (n + nj a) b Q e w) Q) e w)
  | n, .cond c a b, Q, e, w => xIf (ev e c) (sxh P Os Es Xs n a Q e w) (sxh P Os Es Xs (n + nj a) b Q e w)
  | n, .block id a, Q, e, w => sxh P Os Es Xs n a (blockX id Q) e w
  | n, .loop _, _, e, w => match getE Es n with | .loop fs vs T => Lp (T Xs (fs.map e)) (vs.map e) w | .join _ => False
  | _, .exit id, Q, e, w => Q (.exit id) e w
  | _, .ret, Q, e, w => Q .ret e w
  | _, _, _, _, _ => False

/-- What the texts of their own must be, in order. -/
def deep (P : Program) (Os : Nat → OT) (Es : List Ent) : Nat → Code → (List LX → Ex → Cont) → List (List LX → Env → World → Prop)
  | n, .seq a b, Q =>
    cond (cut a)
      ((fun Xs e w => sxh P Os Es Xs (n + 1 + nj a) b (Q Xs) e w) ::
        (deep P Os Es (n + 1) a (fun Xs => thenX (fun e w => match getE Es n with | .join J => J Xs e w | .loop .. => False) (Q Xs)) ++
          deep P Os Es (n + 1 + nj a) b Q))
      (deep P Os Es n a (fun Xs => thenX (fun e w => sxh P Os Es Xs (n + nj a) b (Q Xs) e w) (Q Xs)) ++ deep P Os Es (n + nj a) b Q)
  | n, .cond _ a b, Q => deep P Os Es n a Q ++ deep P Os Es (n + nj a) b Q
  | n, .block id a, Q => deep P Os Es n a (fun Xs => blockX id (Q Xs))
  | n, .loop a, Q =>
    let vs := match getE Es n with | .loop _ vs _ => vs | .join _ => []
    let Q' : List LX → Ex → Cont := fun Xs => thenX (fun e w => Xs.headD (fun _ _ => False) (vs.map e) w) (Q (Xs.drop 1))
    (fun Xs e w => sxh P Os Es Xs (n + 1) a (Q' Xs) e w) :: deep P Os Es (n + 1) a Q'
  | _, _, _ => []
def shal : List Ent → List (List LX → Env → World → Prop)
  | [] => []
  | .join J :: Es => (fun Xs e w => J Xs e w) :: shal Es
  | .loop fs vs T :: Es => (fun Xs e w => T (Xs.drop 1) (fs.map e) (Xs.headD fun _ _ => False) (vs.map e) w) :: shal Es

def fitD (N : Nat) : Option Nat → Bool | none => true | some d => Nat.blt d N
def fits (N : Nat) : Code → Bool
  | .region _ ops _ => ops.toList.all fun o => fitD N o.dst
  | .seq a b | .cond _ a b => fits N a && fits N b
  | .block _ a | .loop a => fits N a
  | _ => true
/-- Does it write this slot? -/
def wr (i : Nat) : Code → Bool
  | .region _ ops _ => ops.toList.any fun o => match o.dst with | some d => Nat.beq d i | none => false
  | .seq a b | .cond _ a b => wr i a || wr i b
  | .block _ a | .loop a => wr i a
  | _ => false
/-- The slots that a loop is told to leave alone it leaves alone. -/
def fsOk (Es : List Ent) : Nat → Code → Bool
  | n, .seq a b => cond (cut a) (fsOk Es (n + 1) a && fsOk Es (n + 1 + nj a) b) (fsOk Es n a && fsOk Es (n + nj a) b)
  | n, .cond _ a b => fsOk Es n a && fsOk Es (n + nj a) b
  | n, .block _ a => fsOk Es n a
  | n, .loop a => (match getE Es n with | .loop fs _ _ => fs.all fun i => !wr i a | .join _ => false) && fsOk Es (n + 1) a
  | _, _ => true

/-! it holds of the machine -/
structure Rel (N : Nat) (e : Env) (a : Act) : Prop where
  defers : a.defers = []
  size : a.tmps.size = N
  env : (fun i => a.tmps.getD i undef) = e
theorem Rel.eval {N : Nat} {e : Env} {a : Act} (h : Rel N e a) : a.eval = ev e := by
  funext x
  rw [← h.env]
  cases x <;> rfl
theorem Rel.put {N : Nat} {e : Env} {a : Act} (h : Rel N e a) {d : Option Tmp} (hd : fitD N d = true) (v : Value) : Rel N (put e d v) (a.put d v) := by
  cases d with
  | none => exact h
  | some d =>
    have hlt : d < N := by simpa [fitD, Nat.blt_eq] using hd
    refine ⟨h.defers, by simp [Act.put, h.size], ?_⟩
    funext i
    simp only [Act.put, Sx.put, upd]
    rw [← h.env]
    by_cases hi : i = d
    · subst hi
      simp [Array.getD, h.size, hlt]
    · have hb : Nat.beq i d = false := by
        cases hx : Nat.beq i d
        · rfl
        · exact absurd (Nat.eq_of_beq_eq_true hx) hi
      have hne : d ≠ i := fun h => hi h.symm
      simp only [hb, cond_false]
      simp only [Array.getD_eq_getD_getElem?, Array.getElem?_setIfInBounds]
      rw [if_neg hne]

theorem opx_mono {P : Program} {e : Env} {o : Oper} {w : World} {K K' : VCont} (hK : ∀ v w, K v w → K' v w) (h : opx P e o w K) : opx P e o w K' := by
  have xn : ∀ {s : Sem Next}, xNext P s w K → xNext P s w K' := by
    intro s h
    unfold xNext at *
    cases hr : s.run P w with
    | ok n w' =>
      rw [hr] at h
      cases n <;> first | exact hK _ _ h | exact h.elim | skip
      exact h.mono fun e w' ⟨v, he, hv⟩ => ⟨v, he, hK _ _ hv⟩
    | halt x w' => rw [hr] at h; exact h.elim
  have xvm : ∀ {s : Sem Value}, xv P s w K → xv P s w K' := by
    intro s h
    unfold xv at *
    cases hr : s.run P w with
    | ok n w' => rw [hr] at h; exact hK _ _ h
    | halt x w' => rw [hr] at h; exact h.elim
  have xpm : ∀ {s : Sem Value}, xp P s w K → xp P s w K' := by
    rintro s ⟨v, h1, h2⟩
    exact ⟨v, h1, hK _ _ h2⟩
  have xum : ∀ {s : Sem Unit}, xu P s w K → xu P s w K' := by
    intro s h
    unfold xu at *
    cases hr : s.run P w with
    | ok n w' => rw [hr] at h; exact hK _ _ h
    | halt x w' => rw [hr] at h; exact h.elim
  obtain ⟨dst, op, type, pos, after, guard⟩ := o
  cases op <;> simp only [opx] at h ⊢
  case move => exact hK _ _ h
  case assign => exact hK _ _ h
  case pick => obtain ⟨t, ht, hk⟩ := h; exact ⟨t, ht, hK _ _ hk⟩
  case alloc => exact xvm h
  case box => exact xvm h
  case build => exact xpm h
  case buildSlice => exact xvm h
  case load t _ =>
    revert h
    generalize aggOf P t = r
    intro h
    cases r with
    | none => exact h
    | some k => cases k with
      | none => obtain ⟨a, x, h1, h2, h3⟩ := h; exact ⟨a, x, h1, h2, hK _ _ h3⟩
      | some n => obtain ⟨a, cs, h1, h2, h3, h4⟩ := h; exact ⟨a, cs, h1, h2, h3, hK _ _ h4⟩
  case store => exact xum h
  case nilCheck =>
    unfold xNil at *
    split at h <;> first | exact h.elim | exact hK _ _ h
  case binOp op t x y yt => cases op <;> exact xpm h
  case unOp => exact xpm h
  case convert s d x =>
    unfold xConvK at *
    split at h
    · exact xpm h
    · exact xvm h
  case makeInterface => exact xpm h
  case makeFunc => exact hK _ _ h
  case makeMap => exact xvm h
  case makeSlice => exact xvm h
  case slice => exact xpm h
  case fieldAddr s _ f =>
    revert h
    generalize offOf P s f = r
    intro h
    cases r with
    | none => exact h
    | some n => obtain ⟨a, h1, h2⟩ := h; exact ⟨a, h1, hK _ _ h2⟩
  case field t _ f =>
    revert h
    generalize fieldOf P t f = r
    intro h
    cases r with
    | none => exact h
    | some p =>
      obtain ⟨k, n⟩ := p
      cases k with
      | none => obtain ⟨cs, x, h1, h2, h3⟩ := h; exact ⟨cs, x, h1, h2, hK _ _ h3⟩
      | some k => obtain ⟨cs, h1, h2⟩ := h; exact ⟨cs, h1, hK _ _ h2⟩
  case indexAddr => exact xpm h
  case index => exact xpm h
  case lookup => exact xvm h
  case mapUpdate => exact xum h
  case insert => exact xum h
  case mapEntry => exact xvm h
  case entryStore => exact xum h
  case range => exact xvm h
  case next => exact xvm h
  case entry => exact xvm h
  case typeAssert => exact xpm h
  case extract => obtain ⟨vs, x, h1, h2, h3⟩ := h; exact ⟨vs, x, h1, h2, hK _ _ h3⟩
  case call c =>
    obtain ⟨callee, args, ts⟩ := c
    cases callee <;> simp only at h ⊢
    case value f => cases f <;> exact xn h
    case builtin b =>
      cases b
      case len =>
        simp only at h ⊢
        split at h
        · unfold xLen at *
          split at h
          · exact xpm h
          · exact xvm h
        · exact h.elim
      case max => exact xpm h
      case min => exact xpm h
      all_goals exact xn h
    all_goals exact xn h

theorem wp_of_opx {P : Program} {N : Nat} {e : Env} {a : Act} {o : Oper} {w : World} {K : VCont} {K' : Act → World → Prop} {Q : Exit → Act → World → Prop}
    (hR : Rel N e a) (h : opx P e o w K) (hK : ∀ v w', K v w' → K' (a.put o.dst v) w') : o.wp P a w K' Q := by
  have h := opx_next h
  unfold Oper.wp Oper.upon
  rw [hR.eval]
  unfold xNext at h
  cases hr : (execOp (ev e) o).run P w with
  | halt x w' => rw [hr] at h; exact h.elim
  | ok n w' =>
    rw [hr] at h
    cases n <;> first | exact h.elim | exact hK _ _ h | skip
    refine h.mono ?_
    rintro _ w'' ⟨v, rfl, hv⟩
    exact hK _ _ hv

theorem wpOps_of_opsx {P : Program} {N : Nat} {ops : Array Oper} {K : Cont} {Q : Exit → Act → World → Prop}
    (hQ : ∀ e a w, Rel N e a → K e w → Q .normal a w) : ∀ (r pre : List Oper) (e : Env) (a : Act) (w : World), ops.toList = pre ++ r →
      (r.all fun o => fitD N o.dst) = true → Rel N e a → opsx P ops.toList r e w K → wpOps P ops Q (List.range' pre.length r.length) a w := by
  intro r
  induction r with
  | nil => intro pre e a w _ _ hR h; exact hQ e a w hR h
  | cons o r ih =>
    intro pre e a w hpre hf hR h
    simp only [List.all_cons, Bool.and_eq_true] at hf
    simp only [List.length_cons, List.range'_succ, wpOps]
    have hget : ops[pre.length]? = some o := by
      rw [← Array.getElem?_toList, hpre]; simp
    rw [hget]
    simp only []
    have next : ∀ v w', opsx P ops.toList r (put e o.dst v) w' K → wpOps P ops Q (List.range' (pre.length + 1) r.length) (a.put o.dst v) w' := by
      intro v w' h'
      have := ih (pre ++ [o]) (put e o.dst v) (a.put o.dst v) w' (by simpa using hpre) hf.2 (hR.put hf.1 v) h'
      simpa using this
    unfold opsx at h
    unfold Region.wanted
    cases hg : o.guard with
    | none =>
      rw [hg] at h
      simp only [if_true]
      exact .inl (wp_of_opx hR h next)
    | some jb =>
      obtain ⟨j, b⟩ := jb
      rw [hg] at h
      simp only at h ⊢
      rw [Array.getElem?_toList] at h
      cases hd : (ops[j]?).bind (·.dst) with
      | none => rw [hd] at h; exact h.elim
      | some d =>
        rw [hd] at h
        simp only at h
        obtain ⟨h1, h2⟩ := h
        have hy : yielded ops a.tmps j = match a.tmps[d]? with | some (.bool c) => some c | _ => none := by
          unfold yielded; rw [hd]; rfl
        have he : e d = (a.tmps[d]?).getD undef := by rw [← hR.env]; simp [Array.getD_eq_getD_getElem?]
        by_cases hc : e d = .bool b
        · have : yielded ops a.tmps j = some b := by
            rw [hy]
            cases ht : a.tmps[d]? with
            | none => rw [ht] at he; rw [he] at hc; simp [undef] at hc
            | some v => rw [ht] at he; simp at he; rw [← he, hc]
          rw [if_pos (by simp [this])]
          exact .inl (wp_of_opx hR (h1 hc) next)
        · have : (yielded ops a.tmps j == some b) = false := by
            rw [hy]
            cases ht : a.tmps[d]? with
            | none => simp
            | some v =>
              rw [ht] at he; simp at he
              cases v <;> simp
              intro hbb; rw [hbb] at he; exact hc he
          rw [if_neg (by simp only [this]; simp)]
          exact next _ _ (h2 hc)

theorem opsx_mono {P : Program} {all : List Oper} {K K' : Cont} (hK : ∀ e w, K e w → K' e w) {r : List Oper} {e : Env} {w : World} (h : opsx P all r e w K) : opsx P all r e w K' := by
  induction r generalizing e w with
  | nil => exact hK _ _ h
  | cons o r ih =>
    unfold opsx at h ⊢
    cases hg : o.guard with
    | none => rw [hg] at h; exact opx_mono (fun _ _ h => ih h) h
    | some jb =>
      obtain ⟨j, b⟩ := jb
      rw [hg] at h
      simp only at h ⊢
      cases hd : (all[j]?).bind (·.dst) with
      | none => rw [hd] at h; exact h
      | some d =>
        rw [hd] at h
        exact ⟨fun hc => opx_mono (fun _ _ h => ih h) (h.1 hc), fun hc => ih (h.2 hc)⟩

/-- behind a region the slots that it does not write are as they were -/
theorem opsx_frame {P : Program} {all : List Oper} {K : Cont} : ∀ (r : List Oper) (e : Env) (w : World), opsx P all r e w K →
    opsx P all r e w fun e' w' => (∀ i, (r.any fun o => match o.dst with | some d => Nat.beq d i | none => false) = false → e' i = e i) ∧ K e' w' := by
  intro r
  induction r with
  | nil => intro e w h; exact ⟨fun _ _ => rfl, h⟩
  | cons o r ih =>
    intro e w h
    have key : ∀ v w', opsx P all r (put e o.dst v) w' K → opsx P all r (put e o.dst v) w' fun e' w' => (∀ i, ((o :: r).any fun o => match o.dst with | some d => Nat.beq d i | none => false) = false → e' i = e i) ∧ K e' w' := by
      intro v w' h'
      have := ih _ _ h'
      refine opsx_mono (fun e' w' ⟨hf, hk⟩ => ⟨fun i hi => ?_, hk⟩) this
      simp only [List.any_cons, Bool.or_eq_false_iff] at hi
      rw [hf i hi.2]
      cases hd : o.dst with
      | none => rfl
      | some d =>
        rw [hd] at hi
        have h1 : Nat.beq d i = false := hi.1
        have : Nat.beq i d = false := by
          cases hx : Nat.beq i d
          · rfl
          · have := Nat.eq_of_beq_eq_true hx; subst this; simp at h1
        simp [put, upd, this]
    unfold opsx at h ⊢
    cases hg : o.guard with
    | none => rw [hg] at h; exact opx_mono key h
    | some jb =>
      obtain ⟨j, b⟩ := jb
      rw [hg] at h
      simp only at h ⊢
      cases hd : (all[j]?).bind (·.dst) with
      | none => rw [hd] at h; exact h
      | some d =>
        rw [hd] at h
        exact ⟨fun hc => opx_mono key (h.1 hc), fun hc => key _ _ (h.2 hc)⟩
/-! any order -/
section draw
variable {P : Program} {ops : Array Oper} {Q : Exit → Act → World → Prop}

def wpAnyR (P : Program) (ops : Array Oper) (Q : Exit → Act → World → Prop) (R : Array Bool → World → Prop) : Nat → Array Bool → Act → World → Prop
  | 0, listed, a, w => R listed w ∧ Region.ready .any ops listed = [] ∧ Q .normal a w
  | fuel + 1, listed, a, w => R listed w ∧ (Region.ready .any ops listed = [] → Q .normal a w) ∧
    ∀ i ∈ Region.ready .any ops listed, wpOp P ops Q i (wpAnyR P ops Q R fuel (listed.setIfInBounds i true)) a w
theorem wpAnyR_any {R : Array Bool → World → Prop} : ∀ (fuel : Nat) (listed : Array Bool) (a : Act) (w : World), wpAnyR P ops Q R fuel listed a w → wpAny P .any ops Q fuel listed a w := by
  intro fuel
  induction fuel with
  | zero => intro listed a w h; exact h.2
  | succ fuel ih => intro listed a w h; exact ⟨h.2.1, fun i hi => wpOp_mono (fun a w => ih _ a w) (h.2.2 i hi)⟩
theorem wpAnyR_R {R : Array Bool → World → Prop} {fuel : Nat} {listed : Array Bool} {a : Act} {w : World} (h : wpAnyR P ops Q R fuel listed a w) : R listed w := by
  cases fuel <;> exact h.1
/-- what stays listed -/
theorem wpAnyR_mono {R R' : Array Bool → World → Prop} {i : Nat} (hR : ∀ listed w, listed.getD i false = true → R' listed w → R listed w) : ∀ (fuel : Nat) (listed : Array Bool) (a : Act) (w : World),
    listed.getD i false = true → wpAnyR P ops Q R' fuel listed a w → wpAnyR P ops Q R fuel listed a w := by
  intro fuel
  induction fuel with
  | zero => intro listed a w hl h; exact ⟨hR _ _ hl h.1, h.2⟩
  | succ fuel ih =>
    intro listed a w hl h
    exact ⟨hR _ _ hl h.1, h.2.1, fun j hj => wpOp_mono (fun a w => ih _ a w (getD_set_true hl)) (h.2.2 j hj)⟩

def Cl (ops : Array Oper) (listed : Array Bool) : Prop :=
  ∀ j o, ops[j]? = some o → listed.getD j false = true → ∀ e ∈ o.after, Region.binds .any e = true → listed.getD e.on false = true
theorem Cl.set {listed : Array Bool} {j : Nat} (h : Cl ops listed) (hj : j ∈ Region.ready .any ops listed) : Cl ops (listed.setIfInBounds j true) := by
  intro k o hk hl e he hb
  by_cases hjk : j = k
  · subst hjk
    obtain ⟨_, o', ho', hall⟩ := mem_ready.1 hj
    rw [hk] at ho'
    obtain rfl := Option.some.inj ho'
    exact getD_set_true (hall e he hb)
  · rw [getD_set_ne false hjk] at hl
    exact getD_set_true (h k o hk hl e he hb)
inductive Tw (ops : Array Oper) : Nat → Nat → Prop
  | one {j i : Nat} {o : Oper} {e : Edge} (h : ops[j]? = some o) (he : e ∈ o.after) (hb : Region.binds .any e = true) (hi : e.on = i) : Tw ops j i
  | step {j i : Nat} {o : Oper} {e : Edge} (h : ops[j]? = some o) (he : e ∈ o.after) (hb : Region.binds .any e = true) (hi : Tw ops e.on i) : Tw ops j i
theorem Cl.tw {listed : Array Bool} (h : Cl ops listed) {j i : Nat} (ht : Tw ops j i) : listed.getD j false = true → listed.getD i false = true := by
  induction ht with
  | one hj he hb hi => intro hl; rw [← hi]; exact h _ _ hj hl _ he hb
  | step hj he hb _ ih => intro hl; exact ih (h _ _ hj hl _ he hb)

theorem wpOp_putY {j : Nat} {oj : Oper} {dst : Option Tmp} {v : Value} {Y : Act → Prop} (hj : ops[j]? = some oj) (hsj : ∀ cs b, oj.op ≠ .select cs b)
    (h1 : ∀ d, dst = some d → d ∉ oj.looksAt ops) (h2 : ∀ d, dst = some d → oj.dst ≠ some d)
    (hQ : ∀ c a w, ¬ Q (.panic c) a w) (hL : ¬ LetsOut Q) (keep : ∀ a, Y a → ∀ u, Y (a.put oj.dst u)) (keepD : ∀ a, Y a → ∀ d, Y { a with defers := d :: a.defers })
    {K : Act → World → Prop} {a : Act} {w : World}
    (hy : Y a) (h : wpOp P ops Q j K (a.put dst v) w) : wpOp P ops Q j (fun a' w' => Y a' ∧ K (a'.put dst v) w') a w := by
  unfold wpOp at *
  simp only [hj] at *
  rw [wanted_put oj a dst v h1] at h
  split
  · rename_i hw
    simp only [hw, if_true] at h
    rcases h with h | ⟨_, hlets⟩
    case inr => exact (hL hlets).elim
    refine .inl ?_
    unfold Oper.wp at *
    rw [execOp_put oj hsj a dst v h1] at h
    generalize (execOp a.eval oj).run P w = r at *
    cases r with
    | ok n w' =>
      cases n <;> simp only [Oper.upon] at h ⊢
      case value u => exact ⟨keep a hy u, by rw [← Act.put_comm a v u h2]; exact h⟩
      case skip => exact ⟨keep a hy _, by rw [← Act.put_comm a v undef h2]; exact h⟩
      case defer d =>
        refine ⟨keep _ (keepD _ hy d) _, ?_⟩
        rw [← Act.put_comm _ v undef h2, ← Act.put_defers]
        exact h
      case enter f args =>
        refine Calls.mono h fun e w'' he => ?_
        cases e with
        | returned u => exact ⟨keep a hy u, by rw [← Act.put_comm a v u h2]; exact he⟩
        | panicked c => exact (hQ _ _ _ he).elim
        | outgrown => exact he
      case row row args => exact Rows.mono h fun u w'' he => ⟨keep a hy u, by rw [← Act.put_comm a v u h2]; exact he⟩
    | halt x w' =>
      cases x <;> simp only [Oper.upon] at h ⊢
      case panic u => exact (hQ _ _ _ h).elim
  · rename_i hw
    simp only [hw] at h
    exact ⟨keep a hy _, by rw [← Act.put_comm a v undef h2]; exact h⟩

/-- **An operation that may come up now, and whose value stays what it is as long as it waits, may be taken first.** -/
theorem wpAnyR_first {i : Nat} {oi : Oper} {v : Value} {b : Bool} {X : Sem Next} {R R' : Array Bool → World → Prop} (hi : ops[i]? = some oi)
    (hsel : ∀ (j : Nat) (o : Oper) cs b, ops[j]? = some o → o.op ≠ .select cs b) (hQ : ∀ c a w, ¬ Q (.panic c) a w) (hL : ¬ LetsOut Q)
    (hRR : ∀ listed w, R' listed w → R listed w)
    (hR : ∀ listed w, Cl ops listed → listed.getD i true = false → R' (listed.setIfInBounds i true) w → R listed w)
    (hX : ∀ listed w, Cl ops listed → listed.getD i true = false → R' (listed.setIfInBounds i true) w → b = true → X.run P w = .ok (.value v) w) :
    ∀ (fuel : Nat) (listed : Array Bool) (a : Act) (w : World), Cl ops listed →
      (∀ j oj, ops[j]? = some oj → j ≠ i → listed.getD j true = false → (∀ e ∈ oj.after, Region.binds .any e = true → e.on ≠ i) → oi.apart ops oj = true) →
      i ∈ Region.ready .any ops listed → Region.wanted oi (yielded ops a.tmps) = b → (b = true → execOp a.eval oi = X) → (b = false → v = undef) →
      wpAnyR P ops Q R' fuel (listed.setIfInBounds i true) (a.put oi.dst v) w → wpAnyR P ops Q R (fuel + 1) listed a w := by
  intro fuel
  have same : ∀ (fuel : Nat) (listed : Array Bool) (a : Act) (w : World), Cl ops listed → i ∈ Region.ready .any ops listed → Region.wanted oi (yielded ops a.tmps) = b → (b = true → execOp a.eval oi = X) → (b = false → v = undef) →
      wpAnyR P ops Q R' fuel (listed.setIfInBounds i true) (a.put oi.dst v) w → wpOp P ops Q i (wpAnyR P ops Q R fuel (listed.setIfInBounds i true)) a w := by
    intro fuel listed a w hcl hr hb hx hv H
    have hun := (mem_ready.1 hr).1
    have hlt : i < listed.size := by
      rcases Nat.lt_or_ge i listed.size with h' | h'
      · exact h'
      · simp [Array.getElem?_eq_none h'] at hun
    have H' := wpAnyR_mono (R := R) (i := i) (fun l w _ h => hRR l w h) fuel _ _ _ (by simp [hlt]) H
    unfold wpOp
    simp only [hi]
    cases b with
    | true =>
      rw [hb]
      simp only [if_true]
      refine .inl ?_
      unfold Oper.wp
      rw [hx rfl, hX listed w hcl hun (wpAnyR_R H) rfl]
      exact H'
    | false =>
      rw [hb]
      simp only [Bool.false_eq_true, if_false]
      rw [← hv rfl]
      exact H'
  induction fuel with
  | zero =>
    intro listed a w hcl hfree hr hb hx hv H
    have hun := (mem_ready.1 hr).1
    refine ⟨hR listed w hcl hun (wpAnyR_R H), fun h => (by rw [h] at hr; cases hr), fun j hj => ?_⟩
    by_cases hji : j = i
    · subst hji; exact same 0 listed a w hcl hr hb hx hv H
    · have := ready_mono hj hji
      rw [H.2.1] at this
      cases this
  | succ fuel ih =>
    intro listed a w hcl hfree hr hb hx hv H
    have hun := (mem_ready.1 hr).1
    refine ⟨hR listed w hcl hun (wpAnyR_R H), fun h => (by rw [h] at hr; cases hr), fun j hj => ?_⟩
    by_cases hji : j = i
    · subst hji; exact same (fuel + 1) listed a w hcl hr hb hx hv H
    · have h1 := H.2.2 j (ready_mono hj hji)
      obtain ⟨hjun, oj, hoj, hall⟩ := mem_ready.1 hj
      have hnot : ∀ e ∈ oj.after, Region.binds .any e = true → e.on ≠ i := fun e he hbe heq => by
        have h1 := hall e he hbe
        rw [heq] at h1
        rcases Nat.lt_or_ge i listed.size with h' | h'
        · simp [h'] at hun h1; rw [hun] at h1; cases h1
        · simp [Array.getElem?_eq_none h'] at h1
      obtain ⟨p1, p2, p3⟩ := Oper.apart_spec (hfree j oj hoj hji hjun hnot)
      have hsi := fun cs b => hsel i oi cs b hi
      have h2 := wpOp_putY (Y := fun a => Region.wanted oi (yielded ops a.tmps) = b ∧ (b = true → execOp a.eval oi = X)) hoj (fun cs b => hsel j oj cs b hoj) p1 p2 hQ hL
        (fun a hy u => ⟨by rw [wanted_put oi a oj.dst u p3]; exact hy.1, fun hbt => by rw [execOp_put oi hsi a oj.dst u p3]; exact hy.2 hbt⟩)
        (fun a hy d => hy) ⟨hb, hx⟩ h1
      have hfree' : ∀ k ok, ops[k]? = some ok → k ≠ i → (listed.setIfInBounds j true).getD k true = false →
          (∀ e ∈ ok.after, Region.binds .any e = true → e.on ≠ i) → oi.apart ops ok = true := fun k ok hk hki hkun hno => by
        refine hfree k ok hk hki ?_ hno
        by_cases hjk : j = k
        · subst hjk; exact hjun
        · rw [getD_set_ne true hjk] at hkun; exact hkun
      refine wpOp_mono (fun a' w' h3 => ih (listed.setIfInBounds j true) a' w' (hcl.set hj) hfree' (ready_mono hr (Ne.symm hji)) h3.1.1 h3.1.2 hv ?_) h2
      rw [Array.setIfInBounds_comm _ _ hji]
      exact h3.2

end draw

/-- what a step that asks nothing of the world gives, it gives in every world -/
theorem opx_pure {P : Program} {e : Env} {o : Oper} {w : World} {K : VCont} (hk : kindOf P o.op = .pure) (h : opx P e o w K) :
    ∃ v, (∀ w', (execOp (ev e) o).run P w' = .ok (.value v) w') ∧ K v w := by
  -- by the continuation that tells the value alone, in each world
  have key : ∀ {s : Sem Value}, xp P s w K → ∃ v, (∀ w', (do pure (.value (← s)) : Sem Next).run P w' = .ok (.value v) w') ∧ K v w := by
    rintro s ⟨v, h1, h2⟩
    exact ⟨v, fun w' => run_next_v (h1 w'), h2⟩
  obtain ⟨dst, op, type, pos, after, guard⟩ := o
  cases op <;> simp only [kindOf] at hk <;> simp only [opx] at h <;> simp only [execOp] <;> try exact Kd.noConfusion hk
  case move => exact ⟨_, fun _ => rfl, h⟩
  case assign => exact ⟨_, fun _ => rfl, h⟩
  case pick =>
    obtain ⟨t, ht, hK⟩ := h
    refine ⟨_, fun w' => ?_, hK⟩
    rw [ht]
    cases t <;> rfl
  case build => rw [← parts_map]; exact key h
  case nilCheck x =>
    revert h
    generalize ev e x = v
    intro h
    unfold xNil at h
    split at h <;> try exact h.elim
    rename_i h1 h2 h3 h4
    refine ⟨v, fun w' => ?_, h⟩
    split
    · exact (h1 rfl).elim
    · exact (h2 rfl).elim
    · exact (h3 rfl).elim
    · exact (h4 _ _ _ rfl).elim
    · rfl
  case binOp op t x y yt =>
    have key' : ∀ (cx cy : Operand), eqGuard op t cx cy (ev e x) (ev e y) = pure () → xBin P op t (ev e x) (ev e y) w K →
        ∃ v, (∀ w', (do pure (.value (← do eqGuard op t cx cy (ev e x) (ev e y); binOp op t (ev e x) (ev e y))) : Sem Next).run P w' = .ok (.value v) w') ∧ K v w := by
      intro cx cy he hb
      rw [he]
      exact key hb
    cases op
    case eql => rw [← eqGuard_isC .eql t x y]; exact key h
    case neq => rw [← eqGuard_isC .neq t x y]; exact key h
    all_goals exact key' x y (by unfold eqGuard; rfl) h
  case unOp => exact key h
  case convert s d x => rw [hk] at h; exact key h
  case makeInterface => exact key h
  case makeFunc => rw [map_evs, map_evs] at h; exact ⟨_, fun _ => rfl, h⟩
  case slice => rw [evo_map, evo_map, evo_map] at h; exact key h
  case fieldAddr s x f =>
    revert h
    cases ho : offOf P s f with
    | none => exact fun h => h.elim
    | some n =>
      rintro ⟨a, ha, hK⟩
      refine ⟨_, fun w' => ?_, hK⟩
      have := xOff_run (P := P) (t := s) (f := f) (v := ev e x) (w := w') (K := fun v w'' => w'' = w' ∧ v = .pointer (some (a.add n))) (by rw [ho]; exact ⟨a, ha, rfl, rfl⟩)
      unfold xv at this
      cases hr : (Instr.fieldAt s (ev e x) f).run P w' with
      | ok v w'' => rw [hr] at this; obtain ⟨rfl, rfl⟩ := this; exact run_next_v hr
      | halt y w'' => rw [hr] at this; exact this.elim
  case field t x f =>
    have gen : ∀ v, (∀ w', xField (fieldOf P t f) (ev e x) w' fun v' w'' => w'' = w' ∧ v' = v) → ∀ w', (do pure (.value (← Instr.field t (ev e x) f)) : Sem Next).run P w' = .ok (.value v) w' := by
      intro v hv w'
      have := xField_run (hv w')
      unfold xv at this
      cases hr : (Instr.field t (ev e x) f).run P w' with
      | ok v' w'' => rw [hr] at this; obtain ⟨rfl, rfl⟩ := this; exact run_next_v hr
      | halt y w'' => rw [hr] at this; exact this.elim
    revert h
    cases ho : fieldOf P t f with
    | none => exact fun h => h.elim
    | some p =>
      obtain ⟨k, n⟩ := p
      cases k with
      | none => rintro ⟨cs, y, h1, h2, hK⟩; exact ⟨_, gen _ fun w' => by rw [ho]; exact ⟨cs, y, h1, h2, rfl, rfl⟩, hK⟩
      | some k => rintro ⟨cs, h1, hK⟩; exact ⟨_, gen _ fun w' => by rw [ho]; exact ⟨cs, h1, rfl, rfl⟩, hK⟩
  case indexAddr => exact key h
  case index => exact key h
  case typeAssert => exact key h
  case extract =>
    obtain ⟨vs, x, hv, hx, hK⟩ := h
    refine ⟨x, fun w' => ?_, hK⟩
    rw [hv]
    simp only [Instr.extract, hx]
    rfl
  case call c =>
    obtain ⟨callee, args, ts⟩ := c
    cases callee <;> simp only at h hk <;> try exact Kd.noConfusion hk
    rename_i b
    cases b <;> simp only [builtinK] at hk <;> simp only at h <;> try exact Kd.noConfusion hk
    case max =>
      simp only [xMinMax, cond_true, map_evs] at h
      simp only [resolve]
      exact key h
    case min =>
      simp only [xMinMax, cond_false, map_evs] at h
      simp only [resolve]
      exact key h
    case len =>
      simp only [resolve]
      split at h
      · rename_i t x ht hx
        have hx' : args = #[x] := by rw [← Array.toArray_toList (xs := args), hx]
        subst hx'
        rw [ht] at hk
        simp only at hk
        rw [hk] at h
        have hl : Builtin.len_ ts type (Array.map (ev e) #[x]) = Builtin.len_ ts 0 #[ev e x] := by simp [Builtin.len_]
        have h' : xp P (Builtin.len_ ts type (Array.map (ev e) #[x])) w K := by rw [hl]; exact h
        exact key h'
      · exact h.elim
theorem opx_read {P : Program} {e : Env} {o : Oper} {w : World} {K : VCont} (hk : kindOf P o.op = .read) (h : opx P e o w K) :
    ∃ v w', (execOp (ev e) o).run P w = .ok (.value v) w' ∧ K v w' := by
  have key : ∀ {s : Sem Value}, xv P s w K → ∃ v w', (do pure (.value (← s)) : Sem Next).run P w = .ok (.value v) w' ∧ K v w' := by
    intro s h
    unfold xv at h
    cases hr : s.run P w with
    | ok v w' => rw [hr] at h; exact ⟨v, w', run_next_v hr, h⟩
    | halt y w' => rw [hr] at h; exact h.elim
  obtain ⟨dst, op, type, pos, after, guard⟩ := o
  cases op <;> simp only [kindOf] at hk <;> simp only [opx] at h <;> simp only [execOp] <;> try exact Kd.noConfusion hk
  case convert s d x => rw [hk] at h; exact key h
  case load => exact key (xLoad_run h)
  case lookup => exact key h
  case call c =>
    obtain ⟨callee, args, ts⟩ := c
    cases callee <;> simp only at h hk <;> try exact Kd.noConfusion hk
    rename_i b
    cases b <;> simp only [builtinK] at hk <;> simp only at h <;> try exact Kd.noConfusion hk
    simp only [resolve]
    split at h
    · rename_i t x ht hx
      have hx' : args = #[x] := by rw [← Array.toArray_toList (xs := args), hx]
      subst hx'
      rw [ht] at hk
      simp only at hk
      rw [hk] at h
      have hl : Builtin.len_ ts type (Array.map (ev e) #[x]) = Builtin.len_ ts 0 #[ev e x] := by simp [Builtin.len_]
      have h' : xv P (Builtin.len_ ts type (Array.map (ev e) #[x])) w K := by rw [hl]; exact h
      exact key h'
    · exact h.elim

/-! the check of an order, and what it stands for -/
def waits (L : List Bool) (o : Oper) : Bool := o.after.toList.any fun e => Region.binds .any e && !L.getD e.on false
def okFree (ops : Array Oper) (i : Nat) (oi : Oper) (L : List Bool) : List Oper → Nat → Bool
  | [], _ => true
  | oj :: r, j => (Nat.beq j i || L.getD j true || (oj.after.toList.any fun e => Region.binds .any e && Nat.beq e.on i) || oi.apart ops oj) && okFree ops i oi L r (j + 1)
def okHeads (L : List Bool) (hs : List Nat) : List Oper → Nat → Bool
  | [], _ => true
  | o :: r, j => (L.getD j true || hs.contains j || waits L o) && okHeads L hs r (j + 1)
def okT (P : Program) (ops : Array Oper) : OT → List Bool → List Nat → Bool
  | .done, L, _ => L.all id
  | .no, _, _ => false
  | .fl i r, L, _ => match ops.toList[i]? with
    | some o => (match kindOf P o.op with | .more => false | _ => true) && !L.getD i true && !waits L o && okFree ops i o L ops.toList 0 && okT P ops r (L.set i true) []
    | none => false
  | .an i r more, L, hs => match ops.toList[i]? with
    | some o => (match kindOf P o.op with | .more => true | _ => false) && !L.getD i true && !waits L o && okT P ops r (L.set i true) [] &&
      (match more with | .no => okHeads L (i :: hs) ops.toList 0 | .an .. => okT P ops more L (i :: hs) | _ => false)
    | none => false
def draws (P : Program) (Os : Nat → OT) : Code → Bool
  | .region id ops true => Region.noSelect ops && okT P ops (Os id) (List.replicate ops.toList.length false) [] && (match Os id with | .an .. | .fl .. | .done => true | .no => false)
  | .seq a b | .cond _ a b => draws P Os a && draws P Os b
  | .block _ a | .loop a => draws P Os a
  | _ => true

def wantedE (all : List Oper) (e : Env) (o : Oper) : Prop :=
  match o.guard with
  | none => True
  | some (j, b) => match (all[j]?).bind (·.dst) with | some d => e d = .bool b | none => False
theorem wanted_iff {N : Nat} {ops : Array Oper} {e : Env} {a : Act} (hR : Rel N e a) (o : Oper) : Region.wanted o (yielded ops a.tmps) = true ↔ wantedE ops.toList e o := by
  unfold Region.wanted wantedE
  cases hg : o.guard with
  | none => simp
  | some jb =>
    obtain ⟨j, b⟩ := jb
    simp only
    rw [Array.getElem?_toList]
    unfold yielded
    cases hd : (ops[j]?).bind (·.dst) with
    | none => simp
    | some d =>
      simp only [Option.bind_some]
      have he : e d = (a.tmps[d]?).getD undef := by rw [← hR.env]; simp [Array.getD_eq_getD_getElem?]
      rw [he]
      cases ht : a.tmps[d]? with
      | none => simp [undef]
      | some v => cases v <;> simp
theorem opg_wanted {P : Program} {all : List Oper} {e : Env} {o : Oper} {w : World} {K : VCont} (h : opg P all e o w K) (hw : wantedE all e o) : opx P e o w K := by
  unfold opg at h; unfold wantedE at hw
  split at h
  · exact h
  · rename_i j b hg
    rw [hg] at hw
    simp only at hw
    split at h
    · rename_i d hd; rw [hd] at hw; exact h.1 hw
    · exact h.elim
theorem opg_unwanted {P : Program} {all : List Oper} {e : Env} {o : Oper} {w : World} {K : VCont} (h : opg P all e o w K) (hw : ¬ wantedE all e o) : K undef w := by
  unfold opg at h; unfold wantedE at hw
  split at h
  · rename_i hg; rw [hg] at hw; exact (hw trivial).elim
  · rename_i j b hg
    rw [hg] at hw
    simp only at hw
    split at h
    · rename_i d hd; rw [hd] at hw; exact h.2 hw
    · exact h.elim

section draw
variable {P : Program} {ops : Array Oper} {Q : Exit → Act → World → Prop}
def runs (P : Program) (ops : Array Oper) (p : Pend) (w : World) : Prop := wantedE ops.toList p.e p.o → (execOp (ev p.e) p.o).run P w = .ok (.value p.v) w
def RS (P : Program) (ops : Array Oper) (S : List Pend) (listed : Array Bool) (w : World) : Prop :=
  ∀ p ∈ S, (∀ j o, ops[j]? = some o → kindOf P o.op = .more → listed.getD j false = true → ¬ Tw ops j p.k) → runs P ops p w
theorem pend_runs {p : Pend} {w : World} (hk : kindOf P p.o.op = .read) (h : pend1 P ops.toList p w) : runs P ops p w := by
  intro hw
  obtain ⟨v, w', h1, rfl, h2⟩ := opx_read hk (opg_wanted h hw)
  rw [h1, h2]
theorem pends_all {all : List Oper} {S : List Pend} {w : World} {next : Prop} (h : pends P all S w next) : (∀ p ∈ S, pend1 P all p w) ∧ next := by
  induction S with
  | nil => exact ⟨fun _ hp => (by cases hp), h⟩
  | cons p S ih =>
    have hh := ih h.2
    refine ⟨fun q hq => ?_, hh.2⟩
    rcases List.mem_cons.1 hq with rfl | hq
    · exact h.1
    · exact hh.1 q hq

def cf (L : List Bool) : Nat := (L.filter (!·)).length
theorem cf_set : ∀ (L : List Bool) (i : Nat), L.getD i true = false → cf L = cf (L.set i true) + 1 := by
  intro L
  induction L with
  | nil => intro i h; simp at h
  | cons b L ih =>
    intro i h
    cases i with
    | zero => simp at h; subst h; simp [cf]
    | succ i =>
      have := ih i (by simpa using h)
      unfold cf at *
      cases b <;> simp [this]
theorem getD_toArray (L : List Bool) (i : Nat) (d : Bool) : L.toArray.getD i d = L.getD i d := by
  simp [Array.getD_eq_getD_getElem?, List.getD_eq_getElem?_getD]
theorem getD_both' {L : List Bool} {i : Nat} (h : L.getD i true = false) : L.getD i false = false := by
  simp only [List.getD_eq_getElem?_getD] at *
  cases hx : L[i]? with
  | none => rfl
  | some b => rw [hx] at h; simpa using h
theorem ready_iff {L : List Bool} {k : Nat} : k ∈ Region.ready .any ops L.toArray ↔ L.getD k true = false ∧ ∃ o, ops[k]? = some o ∧ waits L o = false := by
  rw [mem_ready, getD_toArray]
  constructor
  · rintro ⟨h0, o, ho, hall⟩
    refine ⟨h0, o, ho, ?_⟩
    unfold waits
    rw [List.any_eq_false]
    intro e he
    have := hall e (by simpa using he)
    cases hb : Region.binds .any e
    · simp
    · rw [getD_toArray] at this; have := this hb; simp [List.getD_eq_getElem?_getD] at this ⊢; exact this
  · rintro ⟨h0, o, ho, hw⟩
    refine ⟨h0, o, ho, fun e he hb => ?_⟩
    unfold waits at hw
    rw [List.any_eq_false] at hw
    have := hw e (by simpa using he)
    rw [getD_toArray]
    simpa [hb] using this
theorem okFree_spec {i : Nat} {oi : Oper} {L : List Bool} : ∀ (l : List Oper) (k : Nat), okFree ops i oi L l k = true → ∀ j oj, l[j]? = some oj → k + j ≠ i → L.getD (k + j) true = false →
    (∀ e ∈ oj.after, Region.binds .any e = true → e.on ≠ i) → oi.apart ops oj = true := by
  intro l
  induction l with
  | nil => intro k _ j oj h; simp at h
  | cons o l ih =>
    intro k h j oj hj hne hun hno
    simp only [okFree, Bool.and_eq_true] at h
    cases j with
    | zero =>
      simp at hj; subst hj
      have h1 := h.1
      simp only [Bool.or_eq_true] at h1
      rcases h1 with ((h1 | h1) | h1) | h1
      · exact absurd (Nat.eq_of_beq_eq_true h1) (by simpa using hne)
      · simp only [Nat.add_zero] at hun; rw [hun] at h1; simp at h1
      · rw [List.any_eq_true] at h1
        obtain ⟨e, he, h1⟩ := h1
        simp only [Bool.and_eq_true] at h1
        exact absurd (Nat.eq_of_beq_eq_true h1.2) (hno e (by simpa using he) h1.1)
      · exact h1
    | succ j =>
      simp at hj
      exact ih (k + 1) h.2 j oj hj (by omega) (by rw [show k + 1 + j = k + (j + 1) by omega]; exact hun) hno
theorem okHeads_spec {L : List Bool} {hs : List Nat} : ∀ (l : List Oper) (k : Nat), okHeads L hs l k = true → ∀ j oj, l[j]? = some oj → L.getD (k + j) true = false → waits L oj = false → k + j ∈ hs := by
  intro l
  induction l with
  | nil => intro k _ j oj h; simp at h
  | cons o l ih =>
    intro k h j oj hj hun hw
    simp only [okHeads, Bool.and_eq_true] at h
    cases j with
    | zero =>
      simp at hj; subst hj
      have h1 := h.1
      simp only [Nat.add_zero] at hun
      simp only [Bool.or_eq_true, hun, hw, Bool.false_eq_true, false_or, or_false] at h1
      simpa using h1
    | succ j =>
      simp at hj
      have := ih (k + 1) h.2 j oj hj (by rw [show k + 1 + j = k + (j + 1) by omega]; exact hun) hw
      rw [show k + (j + 1) = k + 1 + j by omega]; exact this
theorem maskOf_spec {C : List (Nat × Nat)} (hC : ∀ x m, C.lookup x = some m → ∀ k, m.testBit k = true → Tw ops x k) {i : Nat} {o : Oper} (ho : ops[i]? = some o) :
    ∀ (l : List Edge), (∀ e ∈ l, e ∈ o.after) → ∀ k, (maskOf C l).testBit k = true → Tw ops i k := by
  intro l
  induction l with
  | nil => intro _ k h; simp [maskOf] at h
  | cons e l ih =>
    intro hl k h
    have he := hl e (by simp)
    simp only [maskOf] at h
    cases hbe : Region.binds .any e with
    | false => rw [hbe] at h; exact ih (fun e he => hl e (by simp [he])) k h
    | true =>
    rw [hbe] at h
    simp only [cond_true] at h
    have h' : ((Nat.shiftLeft 1 e.on ||| (C.lookup e.on).getD 0) ||| maskOf C l).testBit k = true := h
    rw [Nat.testBit_or, Nat.testBit_or, Bool.or_eq_true, Bool.or_eq_true] at h'
    rcases h' with (h' | h') | h'
    · have : k = e.on := by
        have h2 : (1 <<< e.on).testBit k = true := h'
        rw [Nat.testBit_shiftLeft] at h2
        simp only [Bool.and_eq_true, decide_eq_true_eq] at h2
        have h3 := h2.2
        cases hx : k - e.on with
        | zero => omega
        | succ n => rw [hx, Nat.testBit_succ] at h3; simp at h3
      exact .one ho he hbe this.symm
    · cases hlk : C.lookup e.on with
      | none => rw [hlk] at h'; simp at h'
      | some m => rw [hlk] at h'; exact .step ho he hbe (hC _ _ hlk k h')
    · exact ih (fun e he => hl e (by simp [he])) k h'
end draw

section draw
variable {P : Program} {ops : Array Oper} {Q : Exit → Act → World → Prop}
theorem getD_set_self {A : Array Bool} {i : Nat} (h : i < A.size) : (A.setIfInBounds i true).getD i false = true := by simp [h]
theorem set_toArray (L : List Bool) (i : Nat) : (L.set i true).toArray = L.toArray.setIfInBounds i true := by simp
theorem fit_all {N : Nat} {ops : Array Oper} (h : (ops.toList.all fun o => fitD N o.dst) = true) {j : Nat} {o : Oper} (ho : ops[j]? = some o) : fitD N o.dst = true := by
  rw [List.all_eq_true] at h
  refine h o ?_
  rw [← Array.getElem?_toList] at ho
  exact List.mem_of_getElem? ho
theorem drawx_sound {N : Nat} {K : Cont} (hns : Region.noSelect ops = true) (hQ : ∀ c a w, ¬ Q (.panic c) a w) (hL : ¬ LetsOut Q)
    (hK : ∀ e a w, Rel N e a → K e w → Q .normal a w) (hfit : (ops.toList.all fun o => fitD N o.dst) = true) : ∀ (T : OT) (L : List Bool) (C : List (Nat × Nat)) (S : List Pend) (e : Env) (a : Act) (w : World),
    (∀ x m, C.lookup x = some m → ∀ k, m.testBit k = true → Tw ops x k) → L.length = ops.size → Cl ops L.toArray → Rel N e a →
    (∀ p ∈ S, kindOf P p.o.op = .read) → RS P ops S L.toArray w →
    (okT P ops T L [] = true → drawx P ops.toList T C S e w K → ∀ fuel, cf L ≤ fuel → wpAnyR P ops Q (RS P ops S) fuel L.toArray a w) ∧
    (∀ hs, okT P ops T L hs = true → drawx P ops.toList T C S e w K → (match T with | .an .. => True | _ => False) → ∀ fuel, cf L ≤ fuel + 1 →
      ∃ heads : List Nat, (∀ k ∈ heads, wpOp P ops Q k (wpAnyR P ops Q (RS P ops S) fuel (L.toArray.setIfInBounds k true)) a w) ∧
        (∀ k ∈ Region.ready .any ops L.toArray, k ∈ heads ∨ k ∈ hs) ∧ ∃ k, k ∈ Region.ready .any ops L.toArray) := by
  intro T
  have hsel := Region.noSelect_spec hns
  induction T with
  | no => intro L C S e a w _ _ _ _ _ _; exact ⟨fun h => by simp [okT] at h, fun hs h => by simp [okT] at h⟩
  | done =>
    intro L C S e a w hC hlen hcl hR hk hS
    refine ⟨fun h hd fuel _ => ?_, fun hs _ _ h => h.elim⟩
    simp only [okT] at h
    have hr : Region.ready .any ops L.toArray = [] := by
      rw [List.eq_nil_iff_forall_not_mem]
      intro k hkr
      have h0 := (ready_iff.1 hkr).1
      rw [List.getD_eq_getElem?_getD] at h0
      cases hx : L[k]? with
      | none => rw [hx] at h0; simp at h0
      | some b =>
        rw [hx] at h0
        have := List.all_eq_true.1 h b (List.mem_of_getElem? hx)
        simp at h0 this
        rw [h0] at this
        cases this
    cases fuel with
    | zero => exact ⟨hS, hr, hK _ _ _ hR hd⟩
    | succ f => exact ⟨hS, fun _ => hK _ _ _ hR hd, fun i hi => by rw [hr] at hi; cases hi⟩
  | fl i r ih =>
    intro L C S e a w hC hlen hcl hR hk hS
    refine ⟨fun h hd fuel hfu => ?_, fun hs _ _ h => h.elim⟩
    simp only [okT] at h
    simp only [drawx] at hd
    cases ho : ops.toList[i]? with
    | none => rw [ho] at h; simp at h
    | some o =>
      rw [ho] at h hd
      simp only [Bool.and_eq_true] at h
      simp only at hd
      obtain ⟨⟨⟨⟨hkind, hun⟩, hwt⟩, hfree⟩, hok⟩ := h
      have ho' : ops[i]? = some o := by rw [← Array.getElem?_toList]; exact ho
      have hun' : L.getD i true = false := by simpa using hun
      have hwt' : waits L o = false := by simpa using hwt
      have hr : i ∈ Region.ready .any ops L.toArray := ready_iff.2 ⟨hun', o, ho', hwt'⟩
      have hC' : ∀ x m, ((i, maskOf C o.after.toList) :: C).lookup x = some m → ∀ k, m.testBit k = true → Tw ops x k := by
        intro x m hx k hkb
        rw [List.lookup_cons] at hx
        cases hxi : x == i
        · rw [hxi] at hx; exact hC x m hx k hkb
        · rw [hxi] at hx
          have hxi' : x = i := by simpa using hxi
          subst hxi'
          obtain rfl := Option.some.inj hx
          exact maskOf_spec hC ho' o.after.toList (fun e he => by simpa using he) k hkb
      have hcfs := cf_set L i hun'
      obtain ⟨fu, rfl⟩ : ∃ fu, fuel = fu + 1 := ⟨fuel - 1, by omega⟩
      have hlen' : (L.set i true).length = ops.size := by simpa using hlen
      have hcl' : Cl ops (L.set i true).toArray := by rw [set_toArray]; exact hcl.set hr
      have hfr : ∀ j oj, ops[j]? = some oj → j ≠ i → L.toArray.getD j true = false → (∀ e ∈ oj.after, Region.binds .any e = true → e.on ≠ i) → o.apart ops oj = true := by
        intro j oj hj hne hu hno
        rw [getD_toArray] at hu
        exact okFree_spec ops.toList 0 hfree j oj (by rw [Array.getElem?_toList]; exact hj) (by simpa using hne) (by simpa using hu) hno
      have hwi := wanted_iff (ops := ops) hR o
      have hfd := fit_all hfit ho'
      -- which ones count is the same, whether this one is listed or not
      have alive : ∀ (S : List Pend) (listed : Array Bool) (w : World), kindOf P o.op ≠ .more → RS P ops S (listed.setIfInBounds i true) w → RS P ops S listed w := by
        intro S listed w hkm h p hp hall
        refine h p hp fun j oj hj hm hl => hall j oj hj hm ?_
        by_cases hij : i = j
        · subst hij; rw [ho'] at hj; obtain rfl := Option.some.inj hj; exact (hkm hm).elim
        · rw [getD_set_ne false hij] at hl; exact hl
      have alive' : ∀ (S : List Pend) (listed : Array Bool) (w : World), RS P ops S listed w → RS P ops S (listed.setIfInBounds i true) w := by
        intro S listed w h p hp hall
        exact h p hp fun j oj hj hm hl => hall j oj hj hm (getD_set_true hl)
      cases hkd : kindOf P o.op with
      | more => rw [hkd] at hkind; simp at hkind
      | pure =>
        rw [hkd] at hd
        simp only at hd
        have fin : ∀ (v : Value) (b : Bool) (X : Sem Next), Region.wanted o (yielded ops a.tmps) = b → (b = true → execOp a.eval o = X) → (b = false → v = undef) → (b = true → ∀ w', X.run P w' = .ok (.value v) w') →
            drawx P ops.toList r ((i, maskOf C o.after.toList) :: C) S (put e o.dst v) w K → wpAnyR P ops Q (RS P ops S) (fu + 1) L.toArray a w := by
          intro v b X hb hx hv hrun hdr
          have := (ih (L.set i true) _ S (put e o.dst v) (a.put o.dst v) w hC' hlen' hcl' (hR.put hfd v) hk (by rw [set_toArray]; exact alive' S _ _ hS)).1 hok hdr fu (by omega)
          rw [set_toArray] at this
          exact wpAnyR_first (X := X) (R' := RS P ops S) ho' hsel hQ hL (fun _ _ h => h) (fun l w _ _ h => alive S l w (by rw [hkd]; simp) h) (fun _ w _ _ _ hbt => hrun hbt w) fu L.toArray a w hcl hfr hr hb hx hv this
        cases hb : Region.wanted o (yielded ops a.tmps) with
        | true =>
          obtain ⟨v, h1, h2⟩ := opx_pure hkd (opg_wanted hd (hwi.1 hb))
          exact fin v true (execOp (ev e) o) hb (fun _ => by rw [hR.eval]) (by simp) (fun _ => h1) h2
        | false =>
          have := opg_unwanted hd (fun hw => by rw [hwi.2 hw] at hb; cases hb)
          exact fin undef false (execOp (ev e) o) hb (by simp) (fun _ => rfl) (by simp) this
      | read =>
        rw [hkd] at hd
        simp only at hd
        have fin : ∀ (v : Value) (b : Bool), Region.wanted o (yielded ops a.tmps) = b → (b = false → v = undef) → (b = true → (execOp (ev e) o).run P w = .ok (.value v) w) →
            drawx P ops.toList r ((i, maskOf C o.after.toList) :: C) (⟨i, e, o, v⟩ :: S) (put e o.dst v) w K → wpAnyR P ops Q (RS P ops S) (fu + 1) L.toArray a w := by
          intro v b hb hv hrun hdr
          have hS' : RS P ops (⟨i, e, o, v⟩ :: S) (L.toArray.setIfInBounds i true) w := by
            intro p hp hall
            rcases List.mem_cons.1 hp with rfl | hp
            · intro hw
              have : b = true := by rw [← hb]; exact hwi.2 hw
              exact hrun this
            · exact alive' S _ _ hS p hp hall
          have := (ih (L.set i true) _ (⟨i, e, o, v⟩ :: S) (put e o.dst v) (a.put o.dst v) w hC' hlen' hcl' (hR.put hfd v) (fun p hp => by
            rcases List.mem_cons.1 hp with rfl | hp
            · exact hkd
            · exact hk p hp) (by rw [set_toArray]; exact hS')).1 hok hdr fu (by omega)
          rw [set_toArray] at this
          refine wpAnyR_first (X := execOp (ev e) o) (R' := RS P ops (⟨i, e, o, v⟩ :: S)) ho' hsel hQ hL (fun _ _ h p hp => h p (List.mem_cons_of_mem _ hp))
            (fun l w _ _ h => alive S l w (by rw [hkd]; simp) (fun p hp => h p (List.mem_cons_of_mem _ hp))) ?_ fu L.toArray a w hcl hfr hr hb (fun _ => by rw [hR.eval]) hv this
          intro l w' hcl1 hun1 h hbt
          refine h ⟨i, e, o, v⟩ (List.mem_cons_self ..) ?_ ?_
          · intro j oj hj hm hl ht
            have hij : i ≠ j := by rintro rfl; rw [ho'] at hj; obtain rfl := Option.some.inj hj; rw [hkd] at hm; cases hm
            rw [getD_set_ne false hij] at hl
            have := hcl1.tw ht hl
            rcases Nat.lt_or_ge i l.size with h' | h'
            · simp [h'] at this hun1; rw [this] at hun1; cases hun1
            · simp [Array.getElem?_eq_none h'] at this
          · exact hwi.1 (by rw [hb]; exact hbt)
        cases hb : Region.wanted o (yielded ops a.tmps) with
        | true =>
          obtain ⟨v, w', h1, h2, h3⟩ := opx_read hkd (opg_wanted hd (hwi.1 hb))
          subst h2
          exact fin v true hb (by simp) (fun _ => h1) h3
        | false =>
          have := opg_unwanted hd (fun hw => by rw [hwi.2 hw] at hb; cases hb)
          exact fin undef false hb (fun _ => rfl) (by simp) this.2
  | an i r more ihr ihm =>
    intro L C S e a w hC hlen hcl hR hk hS
    have part : ∀ hs, okT P ops (.an i r more) L hs = true → drawx P ops.toList (.an i r more) C S e w K → ∀ fuel, cf L ≤ fuel + 1 →
      ∃ heads : List Nat, (∀ k ∈ heads, wpOp P ops Q k (wpAnyR P ops Q (RS P ops S) fuel (L.toArray.setIfInBounds k true)) a w) ∧
        (∀ k ∈ Region.ready .any ops L.toArray, k ∈ heads ∨ k ∈ hs) ∧ ∃ k, k ∈ Region.ready .any ops L.toArray := by
      intro hs h hd fuel hfu
      simp only [okT] at h
      simp only [drawx] at hd
      cases ho : ops.toList[i]? with
      | none => rw [ho] at h; simp at h
      | some o =>
        rw [ho] at h hd
        simp only [Bool.and_eq_true] at h
        obtain ⟨⟨⟨⟨hkind, hun⟩, hwt⟩, hok⟩, hmore⟩ := h
        have hkd : kindOf P o.op = .more := by
          cases hkd : kindOf P o.op <;> rw [hkd] at hkind <;> simp at hkind ⊢
        have ho' : ops[i]? = some o := by rw [← Array.getElem?_toList]; exact ho
        have hun' : L.getD i true = false := by simpa using hun
        have hwt' : waits L o = false := by simpa using hwt
        have hr : i ∈ Region.ready .any ops L.toArray := ready_iff.2 ⟨hun', o, ho', hwt'⟩
        have hm := maskOf_spec hC ho' o.after.toList (fun e he => by simpa using he)
        have hC' : ∀ x m, ((i, maskOf C o.after.toList) :: C).lookup x = some m → ∀ k, m.testBit k = true → Tw ops x k := by
          intro x m hx k hkb
          rw [List.lookup_cons] at hx
          cases hxi : x == i
          · rw [hxi] at hx; exact hC x m hx k hkb
          · rw [hxi] at hx
            have hxi' : x = i := by simpa using hxi
            subst hxi'
            obtain rfl := Option.some.inj hx
            exact hm k hkb
        have hcfs := cf_set L i hun'
        have hlen' : (L.set i true).length = ops.size := by simpa using hlen
        have hcl' : Cl ops (L.set i true).toArray := by rw [set_toArray]; exact hcl.set hr
        have hwi := wanted_iff (ops := ops) hR o
        have hfd := fit_all hfit ho'
        have hilt : i < L.toArray.size := by
          have := (Array.getElem?_eq_some_iff.1 ho').1
          simp [hlen, this]
        have step : opg P ops.toList e o w (fun v w' => pends P ops.toList (S.filter fun p => !Nat.testBit (maskOf C o.after.toList) p.k) w'
              (drawx P ops.toList r ((i, maskOf C o.after.toList) :: C) (S.filter fun p => !Nat.testBit (maskOf C o.after.toList) p.k) (put e o.dst v) w' K)) →
            wpOp P ops Q i (wpAnyR P ops Q (RS P ops S) fuel (L.toArray.setIfInBounds i true)) a w := by
          intro hd
          have next : ∀ v w', pends P ops.toList (S.filter fun p => !Nat.testBit (maskOf C o.after.toList) p.k) w'
              (drawx P ops.toList r ((i, maskOf C o.after.toList) :: C) (S.filter fun p => !Nat.testBit (maskOf C o.after.toList) p.k) (put e o.dst v) w' K) →
              wpAnyR P ops Q (RS P ops S) fuel (L.toArray.setIfInBounds i true) (a.put o.dst v) w' := by
            intro v w' hp
            obtain ⟨hp1, hp2⟩ := pends_all hp
            have hk' : ∀ p ∈ S.filter fun p => !Nat.testBit (maskOf C o.after.toList) p.k, kindOf P p.o.op = .read := fun p hp => hk p (List.mem_filter.1 hp).1
            have := (ihr (L.set i true) _ _ (put e o.dst v) (a.put o.dst v) w' hC' hlen' hcl' (hR.put hfd v) hk' (fun p hp _ => pend_runs (hk' p hp) (hp1 p hp))).1 hok hp2 fuel (by omega)
            rw [set_toArray] at this
            refine wpAnyR_mono (i := i) ?_ fuel _ _ _ (getD_set_self hilt) this
            intro l w'' hli h p hp hall
            refine h p (List.mem_filter.2 ⟨hp, ?_⟩) hall
            cases hbt : Nat.testBit (maskOf C o.after.toList) p.k
            · rfl
            · exact absurd (hm _ hbt) (hall i o ho' hkd hli)
          unfold wpOp
          simp only [ho']
          cases hb : Region.wanted o (yielded ops a.tmps) with
          | true =>
            simp only [if_true]
            exact .inl (wp_of_opx hR (opg_wanted hd (hwi.1 hb)) next)
          | false =>
            simp only [Bool.false_eq_true, if_false]
            exact next _ _ (opg_unwanted hd (fun hw => by rw [hwi.2 hw] at hb; cases hb))
        cases more with
        | no =>
          refine ⟨[i], ?_, ?_, i, hr⟩
          · intro k hk'
            obtain rfl := List.mem_singleton.1 hk'
            exact step hd
          · intro k hkr
            obtain ⟨h0, ok, hok', hw⟩ := ready_iff.1 hkr
            have := okHeads_spec (hs := i :: hs) ops.toList 0 hmore k ok (by rw [Array.getElem?_toList]; exact hok') (by simpa using h0) hw
            simp at this
            rcases this with rfl | this
            · exact .inl (by simp)
            · exact .inr this
        | an i' r' more' =>
          obtain ⟨hd1, hd2⟩ := hd
          obtain ⟨heads, h1, h2, h3⟩ := (ihm L C S e a w hC hlen hcl hR hk hS).2 (i :: hs) hmore hd2 trivial fuel hfu
          refine ⟨i :: heads, ?_, ?_, h3⟩
          · intro k hk'
            rcases List.mem_cons.1 hk' with rfl | hk'
            · exact step hd1
            · exact h1 k hk'
          · intro k hkr
            rcases h2 k hkr with h | h
            · exact .inl (List.mem_cons_of_mem _ h)
            · rcases List.mem_cons.1 h with rfl | h
              · exact .inl (List.mem_cons_self ..)
              · exact .inr h
        | fl i' r' => simp at hmore
        | done => simp at hmore
    refine ⟨fun h hd fuel hfu => ?_, fun hs h hd _ fuel hfu => part hs h hd fuel hfu⟩
    have hpos : cf L ≥ 1 := by
      simp only [okT] at h
      cases ho : ops.toList[i]? with
      | none => rw [ho] at h; simp at h
      | some o =>
        rw [ho] at h
        simp only [Bool.and_eq_true] at h
        have := cf_set L i (by simpa using h.1.1.1.2)
        omega
    obtain ⟨fu, rfl⟩ : ∃ fu, fuel = fu + 1 := ⟨fuel - 1, by omega⟩
    obtain ⟨heads, h1, h2, k0, h3⟩ := part [] h hd fu hfu
    refine ⟨hS, fun hr => (by rw [hr] at h3; cases h3), fun k hkr => ?_⟩
    rcases h2 k hkr with h | h
    · exact h1 k h
    · cases h
end draw


theorem opg_mono {P : Program} {all : List Oper} {e : Env} {o : Oper} {w : World} {K K' : VCont} (hK : ∀ v w, K v w → K' v w) (h : opg P all e o w K) : opg P all e o w K' := by
  unfold opg at *
  split at h
  · exact opx_mono hK h
  · split at h
    · exact ⟨fun hc => opx_mono hK (h.1 hc), fun hc => hK _ _ (h.2 hc)⟩
    · exact h
theorem pends_mono {P : Program} {all : List Oper} {S : List Pend} {w : World} {A B : Prop} (hab : A → B) (h : pends P all S w A) : pends P all S w B := by
  induction S with
  | nil => exact hab h
  | cons p S ih => exact ⟨h.1, ih h.2⟩
theorem drawx_mono {P : Program} {all : List Oper} {K K' : Cont} (hK : ∀ e w, K e w → K' e w) : ∀ (T : OT) (C : List (Nat × Nat)) (S : List Pend) (e : Env) (w : World), drawx P all T C S e w K → drawx P all T C S e w K' := by
  intro T
  induction T with
  | done => intro C S e w h; exact hK _ _ h
  | no => intro C S e w h; exact h
  | fl i r ih =>
    intro C S e w h
    simp only [drawx] at h ⊢
    cases ho : all[i]? with
    | none => rw [ho] at h; exact h
    | some o =>
      rw [ho] at h
      simp only at h ⊢
      cases hk : kindOf P o.op <;> rw [hk] at h
      · exact opg_mono (fun _ _ h => ih _ _ _ _ h) h
      · exact opg_mono (fun _ _ h => ⟨h.1, ih _ _ _ _ h.2⟩) h
      · exact h
  | an i r more ihr ihm =>
    intro C S e w h
    simp only [drawx] at h ⊢
    cases ho : all[i]? with
    | none => rw [ho] at h; exact h
    | some o =>
      rw [ho] at h
      simp only at h ⊢
      cases more with
      | no => exact opg_mono (fun _ _ h => pends_mono (ihr _ _ _ _) h) h
      | _ => exact ⟨opg_mono (fun _ _ h => pends_mono (ihr _ _ _ _) h) h.1, ihm _ _ _ _ h.2⟩
theorem drawx_frame {P : Program} {all : List Oper} {K : Cont} : ∀ (T : OT) (C : List (Nat × Nat)) (S : List Pend) (e : Env) (w : World), drawx P all T C S e w K →
    drawx P all T C S e w fun e' w' => (∀ i, (all.any fun o => match o.dst with | some d => Nat.beq d i | none => false) = false → e' i = e i) ∧ K e' w' := by
  intro T
  have key : ∀ {i : Nat} {o : Oper} {r : OT} {C : List (Nat × Nat)} {S : List Pend} {e : Env} {v : Value} {w : World} (_ : all[i]? = some o)
      (_ : drawx P all r C S (put e o.dst v) w fun e' w' => (∀ i, (all.any fun o => match o.dst with | some d => Nat.beq d i | none => false) = false → e' i = put e o.dst v i) ∧ K e' w'),
      drawx P all r C S (put e o.dst v) w fun e' w' => (∀ i, (all.any fun o => match o.dst with | some d => Nat.beq d i | none => false) = false → e' i = e i) ∧ K e' w' := by
    intro i o r C S e v w ho h
    refine drawx_mono (fun e' w' ⟨hf, hk⟩ => ⟨fun j hj => ?_, hk⟩) r C S _ w h
    rw [hf j hj]
    cases hd : o.dst with
    | none => rfl
    | some d =>
      have h1 := (List.any_eq_false.1 hj) o (List.mem_of_getElem? ho)
      rw [hd] at h1
      have : Nat.beq j d = false := by
        cases hx : Nat.beq j d
        · rfl
        · have := Nat.eq_of_beq_eq_true hx; subst this; simp at h1
      simp [put, upd, this]
  induction T with
  | done => intro C S e w h; exact ⟨fun _ _ => rfl, h⟩
  | no => intro C S e w h; exact h
  | fl i r ih =>
    intro C S e w h
    simp only [drawx] at h ⊢
    cases ho : all[i]? with
    | none => rw [ho] at h; exact h
    | some o =>
      rw [ho] at h
      simp only at h ⊢
      cases hk : kindOf P o.op <;> rw [hk] at h
      · exact opg_mono (fun _ _ h => key ho (ih _ _ _ _ h)) h
      · exact opg_mono (fun _ _ h => ⟨h.1, key ho (ih _ _ _ _ h.2)⟩) h
      · exact h
  | an i r more ihr ihm =>
    intro C S e w h
    simp only [drawx] at h ⊢
    cases ho : all[i]? with
    | none => rw [ho] at h; exact h
    | some o =>
      rw [ho] at h
      simp only at h ⊢
      cases more with
      | no => exact opg_mono (fun _ _ h => pends_mono (fun h => key ho (ihr _ _ _ _ h)) h) h
      | _ => exact ⟨opg_mono (fun _ _ h => pends_mono (fun h => key ho (ihr _ _ _ _ h)) h) h.1, ihm _ _ _ _ h.2⟩

def lift (N : Nat) (W : Nat → Bool) (e0 : Env) (Q : Ex → Cont) : Exit → Act → World → Prop := fun ex a w =>
  ∃ e, Rel N e a ∧ (∀ i, W i = false → e i = e0 i) ∧ match ex with
    | .normal => Q .normal e w
    | .exit id => Q (.exit id) e w
    | .ret => Q .ret e w
    | _ => False

def LW (P : Program) (c : Code) (Q : Exit → Act → World → Prop) (a : Act) (w : World) : Prop :=
  ∀ (b : Frame) (k : List Item) (cs : List Frame), ∃ e a' w', Q e a' w' ∧ Arrives P (lone (b.at a (.code c :: .inLoop c :: k)) cs w) b k cs e a' w'
theorem LW_step {P : Program} {c : Code} {Q : Exit → Act → World → Prop} {a : Act} {w : World} (h : c.wp P (Exit.then (LW P c Q) Q) a w) : LW P c Q a w := by
  intro b k cs
  obtain ⟨e, a₁, w₁, hq, harr⟩ := h b (.inLoop c :: k) cs
  cases e with
  | normal =>
    obtain ⟨e₂, a₂, w₂, hq₂, harr₂⟩ := hq b k cs
    exact ⟨e₂, a₂, w₂, hq₂, .of_steps (Steps.trans harr (.one step_inLoop)) harr₂⟩
  | exit id => exact ⟨_, a₁, w₁, hq, .pass (x := .inLoop c) rfl (fun _ _ => .inl (by simp)) harr⟩
  | goto l => exact ⟨_, a₁, w₁, hq, .pass (x := .inLoop c) rfl (fun _ _ => .inl (by simp)) harr⟩
  | ret => exact ⟨_, a₁, w₁, hq, .pass (x := .inLoop c) rfl (fun _ _ => .inl (by simp)) harr⟩
  | panic ch => exact ⟨_, a₁, w₁, hq, .pass (x := .inLoop c) rfl (fun _ _ => .inl (by simp)) harr⟩
  | outgrown => exact ⟨_, a₁, w₁, hq, .pass (x := .inLoop c) rfl (fun _ _ => .inl (by simp)) harr⟩
theorem wp_of_LW {P : Program} {c : Code} {Q : Exit → Act → World → Prop} {a : Act} {w : World} (h : LW P c Q a w) : (Code.loop c).wp P Q a w := by
  intro b k cs
  obtain ⟨e, a', w', hq, harr⟩ := h b k cs
  exact ⟨e, a', w', hq, .of_steps (.one step_loop) harr⟩
theorem LW_mono {P : Program} {c : Code} {Q Q' : Exit → Act → World → Prop} {a : Act} {w : World} (h : LW P c Q a w) (hq : ∀ e a w, Q e a w → Q' e a w) : LW P c Q' a w :=
  fun b k cs => let ⟨e, a', w', q, r⟩ := h b k cs; ⟨e, a', w', hq _ _ _ q, r⟩

def shal1 : Ent → List LX → Env → World → Prop
  | .join J => fun Xs e w => J Xs e w
  | .loop fs vs T => fun Xs e w => T (Xs.drop 1) (fs.map e) (Xs.headD fun _ _ => False) (vs.map e) w
theorem shal_get (Es : List Ent) : ∀ n : Nat, (shal Es)[n]? = (Es[n]?).map shal1 := by
  induction Es with
  | nil => intro n; rfl
  | cons E Es ih =>
    intro n
    cases n with
    | zero => cases E <;> rfl
    | succ n => cases E <;> (simp only [shal, List.getElem?_cons_succ]; exact ih n)
theorem deep_length (P : Program) (Os : Nat → OT) (Es : List Ent) : ∀ (c : Code) (n : Nat) (Q : List LX → Ex → Cont), (deep P Os Es n c Q).length = nj c := by
  intro c
  induction c with
  | seq a b iha ihb =>
    intro n Q
    simp only [deep, nj]
    cases cut a <;> simp [iha, ihb] <;> omega
  | cond _ a b iha ihb => intro n Q; simp [deep, nj, iha, ihb]
  | block _ a ih => intro n Q; simp only [deep, nj, ih]
  | loop a ih => intro n Q; simp only [deep, nj, List.length_cons, ih]
  | _ => intro n Q; rfl

/-- The texts of their own are what the code is. -/
def Fits (P : Program) (Os : Nat → OT) (Es : List Ent) (n : Nat) (c : Code) (Q : List LX → Ex → Cont) : Prop :=
  ∀ k f, (deep P Os Es n c Q)[k]? = some f → (shal Es)[n + k]? = some f
theorem getE_of {Es : List Ent} {n : Nat} {f : List LX → Env → World → Prop} (h : (shal Es)[n]? = some f) : f = shal1 (getE Es n) := by
  rw [shal_get] at h
  unfold getE
  cases hE : Es[n]? with
  | none => rw [hE] at h; simp at h
  | some E => rw [hE] at h; simp at h; simp [List.getD_eq_getElem?_getD, hE, h]

theorem sound {P : Program} {N : Nat} {Os : Nat → OT} {Es : List Ent} (hm : P.follows .mixedOrders = true) : ∀ (c : Code) (n : Nat) (Q : List LX → Ex → Cont), fits N c = true → draws P Os c = true → fsOk Es n c = true → Fits P Os Es n c Q →
    ∀ (Xs : List LX) (e : Env) (a : Act) (w : World), Rel N e a → sxh P Os Es Xs n c (Q Xs) e w → c.wp P (lift N (fun i => wr i c) e (Q Xs)) a w := by
  intro c
  induction c with
  | skip => intro n Q _ _ _ _ Xs e a w hR h; exact wp_skip ⟨e, hR, fun _ _ => rfl, h⟩
  | label l => intro n Q _ _ _ _ Xs e a w hR h; exact wp_label ⟨e, hR, fun _ _ => rfl, h⟩
  | exit id => intro n Q _ _ _ _ Xs e a w hR h; exact wp_exit ⟨e, hR, fun _ _ => rfl, h⟩
  | ret => intro n Q _ _ _ _ Xs e a w hR h; exact wp_ret ⟨e, hR, fun _ _ => rfl, h⟩
  | goto l => intro n Q _ _ _ _ Xs e a w hR h; exact h.elim
  | refuse _ => intro n Q _ _ _ _ Xs e a w hR h; exact h.elim
  | scope _ => intro n Q _ _ _ _ Xs e a w hR h; exact h.elim
  | rangeFunc _ _ _ _ => intro n Q _ _ _ _ Xs e a w hR h; exact h.elim
  | region id ops draw =>
    intro n Q hf hdw _ _ Xs e a w hR h
    cases draw with
    | true =>
      simp only [draws, Bool.and_eq_true] at hdw
      refine wp_region_any hm ?_
      simp only [sxh] at h
      have h' := drawx_frame (Os id) [] [] e w.drew h
      have := (drawx_sound (P := P) (Q := lift N (fun i => wr i (.region id ops true)) e (Q Xs)) (N := N)
        (K := fun e' w' => (∀ i, (ops.toList.any fun o => match o.dst with | some d => Nat.beq d i | none => false) = false → e' i = e i) ∧ Q Xs .normal e' w') hdw.1.1
        (fun c a w ⟨_, _, _, hq⟩ => hq) (fun ⟨_, _, _, _, _, hq⟩ => hq) (fun e' a' w' hR' hk => ⟨e', hR', hk.1, hk.2⟩) hf (Os id)
        (List.replicate ops.toList.length false) [] [] e a w.drew (by simp) (by simp) (by
          intro j o hj hl
          rw [getD_toArray, List.getD_eq_getElem?_getD] at hl
          by_cases hlt : j < ops.size
          · simp [hlt] at hl
          · simp [hlt] at hl) hR (by simp) (by intro p hp; cases hp)).1 hdw.1.2 h' ops.size (by
          unfold cf
          exact Nat.le_trans (List.length_filter_le _ _) (by simp))
      have h2 := wpAnyR_any _ _ _ _ this
      simpa [List.toArray_replicate] using h2
    | false =>
      refine wp_region ?_
      have h' := opsx_frame _ _ _ h
      have := wpOps_of_opsx (Q := lift N (fun i => wr i (.region id ops false)) e (Q Xs)) (K := fun e' w' => (∀ i, (ops.toList.any fun o => match o.dst with | some d => Nat.beq d i | none => false) = false → e' i = e i) ∧ Q Xs .normal e' w')
        (fun e' a' w' hR' hk => ⟨e', hR', hk.1, hk.2⟩) ops.toList [] e a w (by simp) hf hR h'
      simpa [List.range_eq_range'] using this
  | seq x y ihx ihy =>
    intro n Q hf hdw hs hd Xs e a w hR h
    simp only [fits, Bool.and_eq_true] at hf
    simp only [draws, Bool.and_eq_true] at hdw
    unfold Fits at hd
    simp only [deep] at hd
    simp only [sxh] at h
    simp only [fsOk] at hs
    have fin : ∀ (C : Cont), (∀ e' a' w', Rel N e' a' → C e' w' → y.wp P (lift N (fun i => wr i y) e' (Q Xs)) a' w') →
        x.wp P (lift N (fun i => wr i x) e (thenX C (Q Xs))) a w → (Code.seq x y).wp P (lift N (fun i => wr i (.seq x y)) e (Q Xs)) a w := by
      intro C hC hx
      refine wp_seq (wp_mono hx ?_)
      intro ex a' w' hq
      obtain ⟨e', hR', hfr, hq⟩ := hq
      have hfr' : ∀ i, wr i (.seq x y) = false → e' i = e i := fun i hi => hfr i (by simp only [wr, Bool.or_eq_false_iff] at hi; exact hi.1)
      cases ex with
      | normal =>
        refine wp_mono (hC e' a' w' hR' hq) ?_
        rintro ex a'' w'' ⟨e'', hR'', hfr'', hq''⟩
        exact ⟨e'', hR'', fun i hi => (hfr'' i (by simp only [wr, Bool.or_eq_false_iff] at hi; exact hi.2)).trans (hfr' i hi), hq''⟩
      | exit id => exact ⟨e', hR', hfr', hq⟩
      | ret => exact ⟨e', hR', hfr', hq⟩
      | goto l => exact hq.elim
      | panic ch => exact hq.elim
      | outgrown => exact hq.elim
    cases hc : cut x with
    | false =>
      rw [hc] at h hd hs
      simp only [cond_false, Bool.and_eq_true] at h hd hs
      refine fin _ ?_ (ihx n (fun Xs => thenX (fun e w => sxh P Os Es Xs (n + nj x) y (Q Xs) e w) (Q Xs)) hf.1 hdw.1 hs.1 ?_ Xs e a w hR h)
      · intro e' a' w' hR' h'
        refine ihy (n + nj x) Q hf.2 hdw.2 hs.2 ?_ Xs e' a' w' hR' h'
        intro k f hk
        have := hd (nj x + k) f (by
          rw [List.getElem?_append_right (by rw [deep_length]; omega), deep_length, Nat.add_sub_cancel_left]; exact hk)
        rw [show n + nj x + k = n + (nj x + k) by omega]; exact this
      · intro k f hk
        refine hd k f ?_
        rw [List.getElem?_append_left]
        · exact hk
        · exact (List.getElem?_eq_some_iff.1 hk).1
    | true =>
      rw [hc] at h hd hs
      simp only [cond_true, Bool.and_eq_true] at h hd hs
      refine fin _ ?_ (ihx (n + 1) (fun Xs => thenX (fun e w => match getE Es n with | .join J => J Xs e w | .loop .. => False) (Q Xs)) hf.1 hdw.1 hs.1 ?_ Xs e a w hR h)
      · intro e' a' w' hR' h'
        refine ihy (n + 1 + nj x) Q hf.2 hdw.2 hs.2 ?_ Xs e' a' w' hR' ?_
        · intro k f hk
          have := hd (nj x + k + 1) f (by
            rw [List.getElem?_cons_succ, List.getElem?_append_right (by rw [deep_length]; omega), deep_length, Nat.add_sub_cancel_left]; exact hk)
          rw [show n + 1 + nj x + k = n + (nj x + k + 1) by omega]; exact this
        · have h0 := getE_of (hd 0 _ rfl)
          have h1 := congrFun (congrFun (congrFun h0 Xs) e') w'
          rw [h1]
          rw [Nat.add_zero]
          cases hE : getE Es n with
          | join J => rw [hE] at h'; exact h'
          | loop fs vs T => rw [hE] at h'; exact h'.elim
      · intro k f hk
        have := hd (k + 1) f (by
          rw [List.getElem?_cons_succ, List.getElem?_append_left]
          · exact hk
          · exact (List.getElem?_eq_some_iff.1 hk).1)
        rw [show n + 1 + k = n + (k + 1) by omega]; exact this
  | cond o x y ihx ihy =>
    intro n Q hf hdw hs hd Xs e a w hR h
    simp only [fits, Bool.and_eq_true] at hf
    simp only [draws, Bool.and_eq_true] at hdw
    simp only [fsOk, Bool.and_eq_true] at hs
    unfold Fits at hd
    simp only [deep] at hd
    simp only [sxh] at h
    unfold xIf at h
    have he : a.eval o = ev e o := by rw [hR.eval]
    have hdx : Fits P Os Es n x Q := by
      intro k f hk
      refine hd k f ?_
      rw [List.getElem?_append_left]
      · exact hk
      · exact (List.getElem?_eq_some_iff.1 hk).1
    have hdy : Fits P Os Es (n + nj x) y Q := by
      intro k f hk
      have := hd (nj x + k) f (by
        rw [List.getElem?_append_right (by rw [deep_length]; omega), deep_length, Nat.add_sub_cancel_left]; exact hk)
      rw [show n + nj x + k = n + (nj x + k) by omega]; exact this
    split at h
    · rename_i hv
      refine wp_cond_true (by rw [he, hv]) (wp_mono (ihx n Q hf.1 hdw.1 hs.1 hdx Xs e a w hR h) ?_)
      rintro ex a' w' ⟨e', hR', hfr, hq⟩
      exact ⟨e', hR', fun i hi => hfr i (by simp only [wr, Bool.or_eq_false_iff] at hi; exact hi.1), hq⟩
    · rename_i hv
      refine wp_cond_false (by rw [he, hv]) (wp_mono (ihy (n + nj x) Q hf.2 hdw.2 hs.2 hdy Xs e a w hR h) ?_)
      rintro ex a' w' ⟨e', hR', hfr, hq⟩
      exact ⟨e', hR', fun i hi => hfr i (by simp only [wr, Bool.or_eq_false_iff] at hi; exact hi.2), hq⟩
    · exact h.elim
  | block id x ih =>
    intro n Q hf hdw hs hd Xs e a w hR h
    refine wp_block (wp_mono (ih n (fun Xs => blockX id (Q Xs)) hf hdw hs hd Xs e a w hR h) ?_)
    rintro ex a' w' ⟨e', hR', hfr, hq⟩
    cases ex with
    | normal => exact ⟨e', hR', hfr, hq⟩
    | exit id' =>
      simp only [blockX] at hq
      simp only [Exit.inBlock]
      cases hb : Nat.beq id' id with
      | true =>
        rw [hb] at hq
        rw [if_pos (Nat.eq_of_beq_eq_true hb)]
        exact ⟨e', hR', hfr, hq⟩
      | false =>
        rw [hb] at hq
        rw [if_neg (by rintro rfl; simp at hb)]
        exact ⟨e', hR', hfr, hq⟩
    | ret => exact ⟨e', hR', hfr, hq⟩
    | goto l => exact hq.elim
    | panic ch => exact hq.elim
    | outgrown => exact hq.elim
  | loop x ih =>
    intro n Q hf hdw hs hd Xs e a w hR h
    simp only [sxh] at h
    unfold Fits at hd
    simp only [deep] at hd
    simp only [fsOk, Bool.and_eq_true] at hs
    have h0 := getE_of (hd 0 _ rfl)
    simp only [Nat.add_zero] at h0
    cases hE : getE Es n with
    | join J => rw [hE] at h; exact h.elim
    | loop fs vs T =>
      rw [hE] at h h0 hs hd
      simp only at h hs hd h0
      let X0 : LX := fun s w => ∀ e' a', Rel N e' a' → (∀ i, wr i x = false → e' i = e i) → vs.map e' = s → LW P x (lift N (fun i => wr i x) e (Q Xs)) a' w
      refine wp_of_LW (h X0 ?_ e a hR (fun _ _ => rfl) rfl)
      intro s w hT e' a' hR' hfr hse
      subst hse
      have hfs : fs.map e = fs.map e' := by
        apply List.map_congr_left
        intro i hi
        refine (hfr i ?_).symm
        have := List.all_eq_true.1 hs.1 i hi
        simpa using this
      rw [hfs] at hT
      have h1 := congrFun (congrFun (congrFun h0 (X0 :: Xs)) e') w
      simp only [shal1, List.drop_succ_cons, List.drop_zero, List.headD_cons] at h1
      rw [← h1] at hT
      refine LW_step (wp_mono (ih (n + 1) (fun Xs => thenX (fun e w => Xs.headD (fun _ _ => False) (vs.map e) w) (Q (Xs.drop 1))) hf hdw hs.2 ?_ (X0 :: Xs) e' a' w hR' hT) ?_)
      · intro k f hk
        have := hd (k + 1) f (by rw [List.getElem?_cons_succ]; exact hk)
        rw [show n + 1 + k = n + (k + 1) by omega]; exact this
      · rintro ex a'' w'' ⟨e'', hR'', hfr'', hq⟩
        have hfr3 : ∀ i, wr i x = false → e'' i = e i := fun i hi => (hfr'' i hi).trans (hfr i hi)
        cases ex with
        | normal => exact hq e'' a'' hR'' hfr3 rfl
        | exit id => exact ⟨e'', hR'', hfr3, hq⟩
        | ret => exact ⟨e'', hR'', hfr3, hq⟩
        | goto l => exact hq.elim
        | panic ch => exact hq.elim
        | outgrown => exact hq.elim

/-! a function -/
def Ret (R : VCont) : Ending → World → Prop := fun e w => ∃ v, e = .returned v ∧ R v w
def one (vs : List Value) : Value := match vs with | [v] => v | vs => .tuple vs.toArray
def resx (P : Program) : List ResultVar → Env → World → (List Value → World → Prop) → Prop
  | [], _, w, K => K [] w
  | .tmp t :: r, e, w, K => resx P r e w fun vs w => K (e t :: vs) w
  | .cell a t :: r, e, w, K => xLoad (aggOf P t) (e a) w fun v w => resx P r e w fun vs w => K (v :: vs) w
def retQ (P : Program) (rs : List ResultVar) (R : VCont) : Ex → Cont := fun x => match x with
  | .normal | .ret => fun e w => resx P rs e w fun vs w => R (one vs) w
  | .exit _ => fun _ _ => False
def bodyOf (fn : Func) : Code := fn.body.getD .skip
def envOf (args : List Value) : Env := fun i => args.getD i undef

theorem resx_run {P : Program} {e : Env} {tmps : Array Value} (he : (fun i => tmps.getD i undef) = e) : ∀ (rs : List ResultVar) (w : World) (K : List Value → World → Prop), resx P rs e w K →
    ∃ vs, (rs.mapM (fun (r : ResultVar) => (match r with
      | .tmp t => pure (tmps.getD t undef)
      | .cell a t => do loadVar t (← asAddr (tmps.getD a undef)) : Sem Value))).run P w = .ok vs w ∧ K vs w := by
  intro rs
  induction rs with
  | nil => intro w K h; exact ⟨[], rfl, h⟩
  | cons r rs ih =>
    intro w K h
    cases r with
    | tmp t =>
      obtain ⟨vs, h1, h2⟩ := ih w _ h
      refine ⟨e t :: vs, ?_, h2⟩
      rw [List.mapM_cons]
      simp only [pure_bind, Sem.run_bind, h1, Result.andThen_ok, Sem.run_pure]
      rw [← he]
    | cell a t =>
      unfold resx at h
      have ht : tmps.getD a undef = e a := by rw [← he]
      have key : ∃ v, (Instr.loadAt t (e a)).run P w = .ok v w ∧ resx P rs e w fun vs w => K (v :: vs) w := by
        have h' : xLoad (aggOf P t) (e a) w fun v w' => w' = w ∧ resx P rs e w fun vs w => K (v :: vs) w := by
          revert h
          generalize aggOf P t = q
          intro h
          cases q with
          | none => exact h
          | some k => cases k with
            | none => obtain ⟨b, x, h1, h2, h3⟩ := h; exact ⟨b, x, h1, h2, rfl, h3⟩
            | some n => obtain ⟨b, cs, h1, h2, h3, h4⟩ := h; exact ⟨b, cs, h1, h2, h3, rfl, h4⟩
        have := xLoad_run h'
        unfold xv at this
        cases hr : (Instr.loadAt t (e a)).run P w with
        | ok v w' => rw [hr] at this; obtain ⟨rfl, h2⟩ := this; exact ⟨v, rfl, h2⟩
        | halt x w' => rw [hr] at this; exact this.elim
      obtain ⟨v, hv, h'⟩ := key
      obtain ⟨vs, h1, h2⟩ := ih w _ h'
      refine ⟨v :: vs, ?_, h2⟩
      rw [List.mapM_cons]
      have hl : (do loadVar t (← asAddr (tmps.getD a undef)) : Sem Value).run P w = .ok v w := by
        rw [ht]
        unfold Instr.loadAt Instr.sureAddr at hv
        cases hea : e a <;> rw [hea] at hv <;> first | (simp at hv; done) | skip
        rename_i o
        cases o with
        | none => simp at hv
        | some b => simpa [asAddr] using hv
      simp only [Sem.run_bind] at hl ⊢
      rw [hl]
      simp only [Result.andThen_ok]
      rw [h1]
      rfl

theorem calls_of_sx {P : Program} {f : FuncId} {fn : Func} {R : VCont} {Os : Nat → OT} {Es : List Ent} {args : List Value} {w : World} (hm : P.follows .mixedOrders = true) (hf : P.funcs[f]? = some fn)
    (hb : fn.body.isSome = true) (ha : Nat.ble args.length fn.ntmps = true) (hfit : fits fn.ntmps (bodyOf fn) = true) (hdr : draws P Os (bodyOf fn) = true) (hs : fsOk Es 0 (bodyOf fn) = true)
    (hd : deep P Os Es 0 (bodyOf fn) (fun _ => retQ P fn.results.toList R) = shal Es)
    (h : sxh P Os Es [] 0 (bodyOf fn) (retQ P fn.results.toList R) (envOf args) w) : Calls P f args.toArray w (Ret R) := by
  have hb' : fn.body = some (bodyOf fn) := by
    unfold bodyOf
    cases hx : fn.body with
    | none => rw [hx] at hb; simp at hb
    | some c => rfl
  have hle : args.length ≤ fn.ntmps := Nat.le_of_ble_eq_true ha
  refine calls_of_wp hf hb' ?_
  have hR : Rel fn.ntmps (envOf args) { tmps := args.toArray ++ Array.replicate (fn.ntmps - args.toArray.size) undef, defers := [] } := by
    refine ⟨rfl, by simp; omega, ?_⟩
    funext i
    simp only [envOf, Array.getD_eq_getD_getElem?, List.getD_eq_getElem?_getD]
    by_cases hi : i < args.length
    · rw [Array.getElem?_append_left (by simpa using hi)]; simp
    · rw [Array.getElem?_append_right (by simpa using hi), List.getElem?_eq_none (by omega)]
      simp only [List.size_toArray, Array.getElem?_replicate, Option.getD_none]
      split <;> rfl
  refine wp_mono (sound (N := fn.ntmps) (Es := Es) hm (bodyOf fn) 0 (fun _ => retQ P fn.results.toList R) hfit hdr hs ?_ [] _ _ w hR h) ?_
  · intro k f' hk
    rw [hd] at hk
    rw [Nat.zero_add]; exact hk
  · rintro ex a w' ⟨e, hR', _, hq⟩
    have fin : (resx P fn.results.toList e w' fun vs w => R (one vs) w) → a.defers = [] ∧ ∃ v, (results fn a.tmps).run P w' = .ok v w' ∧ Ret R (.returned v) w' := by
      intro hq
      obtain ⟨vs, h1, h2⟩ := resx_run (tmps := a.tmps) hR'.env _ _ _ hq
      refine ⟨hR'.defers, one vs, ?_, one vs, rfl, h2⟩
      unfold results
      rw [Sem.run_bind]
      have : (fn.results.mapM (fun (r : ResultVar) => (match r with
          | .tmp t => pure (a.tmps.getD t undef)
          | .cell b t => do loadVar t (← asAddr (a.tmps.getD b undef)) : Sem Value))).run P w' = .ok vs.toArray w' := by
        rw [← Array.toArray_toList (xs := fn.results), List.mapM_toArray]
        rw [Sem.run_map]
        rw [h1]
        rfl
      refine (congrArg (fun z => Result.andThen z _) this).trans ?_
      simp only [Result.andThen_ok]
      unfold one
      cases vs with
      | nil => rfl
      | cons v vs => cases vs <;> rfl
    cases ex with
    | normal => exact fin hq
    | ret => exact fin hq
    | exit id => exact hq.elim
    | goto l => exact hq.elim
    | panic ch => exact hq.elim
    | outgrown => exact hq.elim

/-- what a drawn region begins with -/
def dr (w : World) (K : World → Prop) : Prop := K w.drew
def hx (Xs : List LX) : LX := Xs.headD fun _ _ => False
theorem xCall_of {P : Program} {f : FuncId} {fn : Func} {args : List Value} {w : World} {K : VCont} (hf : P.funcs[f]? = some fn) (hb : fn.body.isSome = true)
    (hn : (fn.name == "runtime.NumGoroutine") = false) (h : Calls P f args.toArray w (Ret K)) : xCall P f args w K := by
  have : (callFunc f args.toArray).run P w = .ok (.enter f args.toArray) w := by
    unfold callFunc
    rw [Sem.run_bind]
    simp only [run_program, Result.andThen_ok, hf]
    rw [hn]
    have hbn : fn.body.isNone = false := by cases hx : fn.body <;> simp_all
    simp only [Bool.false_eq_true, if_false, hbn]
    rfl
  unfold xCall xNext
  rw [this]
  exact h
/-- a contract at a call -/
theorem xCall_mono {P : Program} {f : FuncId} {args : List Value} {w : World} {K K' : VCont} (h : xCall P f args w K) (hK : ∀ v w, K v w → K' v w) : xCall P f args w K' := by
  unfold xCall xNext at *
  cases hr : (callFunc f args.toArray).run P w with
  | ok n w' =>
    rw [hr] at h
    cases n <;> first | exact hK _ _ h | exact h.elim | skip
    exact h.mono fun e w' ⟨v, he, hv⟩ => ⟨v, he, hK _ _ hv⟩
  | halt x w' => rw [hr] at h; exact h.elim

attribute [irreducible] xNext xv xu xp xCall xCallV xInvoke xBuiltin
attribute [irreducible] sxh deep shal fits draws fsOk opsx drawx opx opg retQ resx envOf bodyOf

end Go.Sx
end
