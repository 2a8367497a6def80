/- Frames: reading all; a list of byte slices. -/
import Derived.Test.YtamejkogghpbhaaFrame1
set_option linter.unusedVariables false
set_option linter.unusedSimpArgs false
namespace Go.Proofs.Ytamejkogghpbhaa
open Go.Sx
/-- these values are byte slices that read so -/
def RdL (w : World) (vs : List Value) (xss : List (List UInt8)) : Prop := vs.length = xss.length ∧ ∀ (i : Nat) (v : Value) (x : List UInt8), vs[i]? = some v → xss[i]? = some x → Rd w v (x.map bv)
theorem RdL.nil (w : World) : RdL w [] [] := ⟨rfl, by simp⟩
theorem RdL.snoc {w : World} {vs : List Value} {xss : List (List UInt8)} {v : Value} {x : List UInt8} (h : RdL w vs xss) (hv : Rd w v (x.map bv)) : RdL w (vs ++ [v]) (xss ++ [x]) := by
  refine ⟨by simp [h.1], fun i u y hu hy => ?_⟩
  by_cases hi : i < vs.length
  · rw [List.getElem?_append_left hi] at hu
    rw [List.getElem?_append_left (by rw [← h.1]; exact hi)] at hy
    exact h.2 i u y hu hy
  · have hlt := (List.getElem?_eq_some_iff.1 hu).1
    simp at hlt
    have : i = vs.length := by omega
    subst this
    rw [List.getElem?_append_right (Nat.le_refl _)] at hu
    rw [h.1, List.getElem?_append_right (Nat.le_refl _)] at hy
    simp at hu hy
    subst hu; subst hy
    exact hv
theorem RdL.drop {w : World} {vs : List Value} {xss : List (List UInt8)} (h : RdL w vs xss) (k : Nat) : RdL w (vs.drop k) (xss.drop k) := by
  refine ⟨by simp [h.1], fun i u y hu hy => ?_⟩
  rw [List.getElem?_drop] at hu hy
  exact h.2 _ _ _ hu hy
theorem RdL.keep' {w w' : World} {vs : List Value} {xss : List (List UInt8)} (h : RdL w vs xss) (hc : Chg none' w w') : RdL w' vs xss := ⟨h.1, fun i v x hv hx => (h.2 i v x hv hx).keep' hc⟩
/-- a slice of byte slices that can be read -/
def RdBs (w : World) (v : Value) (xss : List (List UInt8)) : Prop := ∃ vs, Rd w v vs ∧ RdL w vs xss
theorem RdBs.keep' {w w' : World} {v : Value} {xss : List (List UInt8)} (h : RdBs w v xss) (hc : Chg none' w w') : RdBs w' v xss := by
  obtain ⟨vs, h1, h2⟩ := h; exact ⟨vs, h1.keep' hc, h2.keep' hc⟩
theorem RdBs.inp {W w : World} {l : List Asn} {v : Value} {xss : List (List UInt8)} (hr : RdBs W v xss) (h : Hp w l) (hm : InpA W ∈ l) : RdBs w v xss := by
  have hb := h.inp_mem hm
  exact hr.keep' ⟨hb.os, hb.tape, hb.output, hb.size, fun b hlt _ => hb.block b hlt⟩
theorem RdBs.len {w : World} {v : Value} {xss : List (List UInt8)} (h : RdBs w v xss) {t e : TypeId} (ht : P.underlying t = some (.slice e)) (w' : World) (K : VCont) : xLen P .pure #[t] v w' K = K (i64 xss.length) w' := by
  obtain ⟨vs, h1, h2⟩ := h
  rw [rd_len h1 ht, h2.1]
theorem RdBs.at {w : World} {v : Value} {xss : List (List UInt8)} (h : RdBs w v xss) {t e : TypeId} {i : TypeInfo} (ht : P.underlying t = some (.slice e)) (hi : P.info? e = some i) (hs : i.size = 1) {k : Nat} {x : List UInt8} (hx : xss[k]? = some x) :
    ∃ (p : Addr) (u : Value), (∀ (w2 : World) (C : VCont), xIndexAddr P t v (.int .i64 k) w2 C = C (.pointer (some p)) w2) ∧ w.cell? p = some u ∧ Rd w u (x.map bv) := by
  obtain ⟨vs, h1, h2⟩ := h
  have hk : k < vs.length := by rw [h2.1]; exact (List.getElem?_eq_some_iff.1 hx).1
  obtain ⟨p, e1, e2⟩ := at_rd (P := P) ht hi hs h1 hk
  exact ⟨p, vs[k], e1, e2 w h1, h2.2 k _ _ (List.getElem?_eq_getElem hk) hx⟩
/-- .. that is the program's own -/
def BsA (v : Value) (xss : List (List UInt8)) : Asn := ExA fun vs => StarA [SlA ty.s_uint8 1 v vs.length vs, RoA fun w => RdL w vs xss]
theorem BsA.op {w : World} {l : List Asn} {v : Value} {xss : List (List UInt8)} : Hp w (BsA v xss :: l) ↔ ∃ vs, Hp w (SlA ty.s_uint8 1 v vs.length vs :: RoA (fun w => RdL w vs xss) :: l) := Hp.ex.trans (exists_congr fun _ => Hp.star2)
theorem BsA.ro {w : World} {l : List Asn} {v : Value} {xss : List (List UInt8)} (h : Hp w (BsA v xss :: l)) : Hp w (RoA (fun w => RdBs w v xss) :: l) := by
  obtain ⟨vs, h⟩ := BsA.op.1 h
  exact h.ofSl.roAnd.roMono fun w h => ⟨vs, h.1.rd, h.2⟩
section
variable {w : World} {K : VCont} {l : List Asn}
theorem frame_Read_hp {v : Value} {B : List UInt8} {p : World → Prop} (h : Hp w (RoA p :: l)) (hp : ∀ w, p w → Rd w v (B.map bv)) (hl : B.length ≤ 10000000)
    (hK : ∀ v' w', Hp w' (BsA v' (unf (B.length + 1) B) :: RoA p :: l) → K (.tuple #[v', i64 (frames (unf (B.length + 1) B)).length]) w') : xCall P nr.frame_Read [v] w K := by
  refine frame_Read_call ?_
  unfold frame_Read_main
  have hone : v.oneCell' = true := by obtain ⟨_, _, rfl, _⟩ := hp _ h.ro; rfl
  refine Hp.box h (cs := [v]) (by cases v <;> simp_all [Value.cells, Value.oneCell']) ?_
  intro b1 w1 h
  refine Hp.alloc (cs := [.slice none 0 0]) h inf.s_s_uint8 rfl rfl ?_
  intro b2 w2 h
  refine Hp.alloc (cs := [i64 0]) h inf.int rfl rfl ?_
  intro b3 w3 h
  refine Hp.st h inf.int rfl rfl (by simp) ?_
  intro w4 h
  -- b3: at; b2: out; b1: b
  have h0 : Hp w4 (BsA (.slice none 0 0) [] :: BlkA b3 ty.int [i64 0] :: BlkA b2 ty.s_s_uint8 [.slice none 0 0] :: BlkA b1 ty.s_uint8 [v] :: RoA p :: l) := by
    refine BsA.op.2 ⟨[], ?_⟩
    have h1 := Hp.roTrue h (p := fun w => RdL w [] []) (fun w => RdL.nil w)
    exact h1.new (A := SlA ty.s_uint8 1 (.slice none 0 0) 0 []) (F := fun _ => False) ⟨Own.nil _ _ _, fun b => by simp [Value.ownBlock]⟩ (fun _ h => h.elim) (Chg.refl _ _)
  refine Lp.gen (fun n s w' => ∃ rs vo, s = [] ∧ unf (B.length + 1) B = rs ++ unf n (B.drop (frames rs).length) ∧ (frames rs).length ≤ B.length ∧ rs.length + n = B.length + 1 ∧ (∀ x ∈ rs, fits x) ∧
      Hp w' (BsA vo rs :: BlkA b3 ty.int [i64 (frames rs).length] :: BlkA b2 ty.s_s_uint8 [vo] :: BlkA b1 ty.s_uint8 [v] :: RoA p :: l)) (B.length + 1)
    ⟨[], .slice none 0 0, rfl, by simp [frames_nil], by simp [frames_nil], by simp, by simp, h0⟩ ?_
  rintro n s w5 ⟨rs, vo, rfl, hu, hfl, hn, hfit, h⟩ X hX
  unfold frame_Read_l1
  refine (xCallV_func nr.frame_Read_c1 [ptr b1, ptr b3, ptr b2] []).mpr ?_
  refine frame_Read_c1_call ?_
  unfold frame_Read_c1_main
  simp only [xs, h.c3, h.c1, List.getElem?_cons_zero]
  refine frame_One_hp h (hp _ h.pick4.ro) hl hfl ?_ ?_
  · intro hn1 w6 h6 hc6
    simp only [xs, xb, xd, show (-1 : Int) < 0 by omega]
    unfold frame_Read_j0
    have h6 := h6.drew
    simp only [xs, h6.c1, h6.c2, List.getElem?_cons_zero, true_and]
    have hend : unf (B.length + 1) B = rs := by
      rw [hu]
      cases n with
      | zero => simp [unf]
      | succ n => unfold unf; rw [hn1]; simp
    have := hK vo w6.drew (by rw [hend]; exact h6.pick1.tail.pick1.tail.pick1.tail)
    rwa [hend] at this
  · intro x hx v6 w6 h6 hc6
    obtain ⟨hxf, hxl⟩ := one_fits hx
    rw [List.length_drop] at hxl
    have hng : ¬ (((frames rs).length + 6 + x.length : Nat) : Int) < 0 := by omega
    simp only [xs, xb, xd, hng, h6.c3, List.getElem?_cons_zero]
    refine Hp.sl1 (size := 1) und.s_s_uint8 inf.s_uint8 rfl (by omega) (by omega) rfl rfl h6 (cs := [v6]) ?_ rfl ?_
    · obtain ⟨_, _, _, e⟩ := own_sl h6.own; rw [e]; rfl
    intro v7 w7 h7
    obtain ⟨vs, h7⟩ := BsA.op.1 h7.pick2
    have hvs : vs.length = rs.length := h7.pick1.ro.1
    -- every record has seven bytes or more
    have hcount : ∀ ys : List (List UInt8), (∀ y ∈ ys, fits y) → ys.length ≤ (frames ys).length := by
      intro ys
      induction ys with
      | nil => intro _; simp
      | cons y ys ih =>
        intro hy
        have := ih fun z hz => hy z (by simp [hz])
        rw [frames_cons, List.length_append, frame_len, List.length_cons]
        omega
    have hxc := hcount rs hfit
    refine Hp.app (size := 1) (bytes := 24) und.s_s_uint8 inf.s_uint8 rfl rfl rfl rfl h7 h7.pick2.own.rdN ?_ (by omega) (by omega) ?_
    · intro u hu'
      obtain ⟨_, _, _, e⟩ := own_sl h7.pick3.own
      simp at hu'; subst hu'; rw [e]; rfl
    intro v8 w8 h8
    have hv8 := h8.own.one
    refine Hp.st h8.pick5 inf.s_s_uint8 rfl hv8 (by simp) ?_
    intro w9 h9
    refine Hp.st h9.pick5 inf.int rfl rfl (by simp) ?_
    intro w10 h10
    cases n with
    | zero => omega
    | succ n =>
      have hfx : (frames (rs ++ [x])).length = (frames rs).length + 6 + x.length := by
        rw [frames_append, List.length_append, frames_cons, frames_nil, List.append_nil, frame_len]; omega
      refine hX n _ _ ⟨rs ++ [x], v8, rfl, ?_, ?_, by simp; omega, ?_, ?_⟩ (by omega)
      · rw [hu]
        conv => lhs; unfold unf
        rw [hx]
        simp only
        rw [List.drop_drop, hfx, List.append_assoc]
        rw [show (frames rs).length + (6 + x.length) = (frames rs).length + 6 + x.length by omega]
        rfl
      · omega
      · intro y hy
        rcases List.mem_append.1 hy with hy | hy
        · exact hfit y hy
        · simp at hy; subst hy; exact hxf
      · -- at, out, own, ro, its slice, the new record, b1, ro, l
        have h11 := (SlA.ro h10.pick4.tail.pick4).pick4.roAnd.roMono (q := fun w => RdL w (vs ++ [v6]) (rs ++ [x])) fun w hw => hw.1.snoc hw.2
        refine BsA.op.2 ⟨vs ++ [v6], ?_⟩
        rw [hfx]
        simpa using h11.pick3
end
end Go.Proofs.Ytamejkogghpbhaa
