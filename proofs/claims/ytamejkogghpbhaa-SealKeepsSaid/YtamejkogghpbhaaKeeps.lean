/- SealKeeps: the law. -/
import Derived.Test.YtamejkogghpbhaaElder
import Derived.Test.YtamejkogghpbhaaTxtKeeps
set_option linter.unusedVariables false
set_option linter.unusedSimpArgs false
namespace Go.Proofs.Ytamejkogghpbhaa
open Go.Sx
structure Op6 where
  kind : Int
  n : Int
  bsv : Value
  bs : List UInt8
  lsv : Value
  ls : List (List UInt8)
def op6cell (o : Op6) : List Value := [i64 o.kind, i64 o.n, o.bsv, o.lsv]
structure Op6Ok (W : World) (o : Op6) : Prop where
  n : -9223372036854775808 ≤ o.n ∧ o.n ≤ 9223372036854775807
  rd : Rd W o.bsv (o.bs.map bv)
  rl : RdBs W o.lsv o.ls
  len : o.bs.length ≤ 9223372036854775807
  ll : o.ls.length ≤ 9223372036854775807
  le : ∀ x ∈ o.ls, x.length ≤ 9223372036854775807
theorem RdBs.one {w : World} {v : Value} {xss : List (List UInt8)} (h : RdBs w v xss) : v.oneCell' = true := by
  obtain ⟨vs, ⟨_, _, rfl, _⟩, _⟩ := h; rfl
theorem Rd.one {w : World} {v : Value} {xs : List Value} (h : Rd w v xs) : v.oneCell' = true := by
  obtain ⟨_, _, rfl, _⟩ := h; rfl
theorem op6_one {W : World} {o : Op6} (h : Op6Ok W o) : ∀ u ∈ op6cell o, u.oneCell' = true := by
  intro u hu
  simp only [op6cell, List.mem_cons, List.not_mem_nil, or_false] at hu
  rcases hu with rfl | rfl | rfl | rfl
  · rfl
  · rfl
  · exact Rd.one h.rd
  · exact RdBs.one h.rl
theorem op6_at {ops : List Op6} {i : Nat} {o : Op6} (h : ops[i]? = some o) (r : Nat) (hr : r < 4) : (ops.flatMap op6cell)[i * 4 + r]? = (op6cell o)[r]? := by
  rw [List.flatMap_def]
  exact flatten_get (size := 4) (fun es hes => by obtain ⟨o, _, rfl⟩ := List.mem_map.1 hes; rfl) (by rw [List.getElem?_map, h]; rfl) hr
def fewP (o : Op6) : Prop := o.bs.length ≤ 100 ∧ o.ls.length ≤ 6 ∧ ∀ x ∈ o.ls, x.length ≤ 100
instance (o : Op6) : Decidable (fewP o) := inferInstanceAs (Decidable (_ ∧ _ ∧ _))
section
variable {W w : World} {K : VCont} {l : List Asn} {d p : Nat} {D : Ab} {S R : List (List UInt8)} {y : Nat} {v0 : Value}
theorem head_rd' {t e : TypeId} {i : TypeInfo} (ht : P.underlying t = some (.slice e)) (hi : P.info? e = some i) (hs : i.size = 1) {v : Value} {xs : List Value} (h : Rd w v xs) {k : Nat} (h1 : k ≤ xs.length) :
    ∃ v', (∀ (w2 : World) (C : VCont), xSlice P t v none (some (.int .i64 k)) none w2 C = C v' w2) ∧ ∀ w', Rd w' v xs → Rd w' v' (xs.take k) := by
  obtain ⟨v', h2, h3⟩ := slice_rd (P := P) ht hi hs h (lo := 0) (hi' := k) (Nat.zero_le _) h1
  refine ⟨v', fun w2 C => ?_, fun w' hr => by have := h3 w' hr; rwa [List.drop_zero] at this⟩
  rw [← h2 w2 C]
  obtain ⟨a, cap, rfl, hl, _⟩ := h
  rw [xSlice_slice ht hi (bounds_hi (by omega) (by omega)), xSlice_slice ht hi (bounds_lohi (by omega) (by omega) (by omega))]
  simp
theorem few_hp {o : Op6} (h : Hp w l) (hm : InpA W ∈ l) (ho : Op6Ok W o) (hK : ∀ w', Hp w' l → K (.bool (decide (fewP o))) w') : xCall P nr.law6_few [.agg (op6cell o).toArray] w K := by
  refine law6_few_call ?_
  unfold law6_few_main
  refine Hp.box h (cs := op6cell o) rfl ?_
  intro b w1 h
  have no : ∀ w', Hp w' l → ¬ fewP o → K (.bool false) w' := fun w' h hn => by have := hK w' h; rwa [show decide (fewP o) = false by simpa using hn] at this
  have hlb : ∀ (w : World) (K : VCont), xLen P .pure #[ty.s_uint8] o.bsv w K = K (i64 o.bs.length) w := fun w K => by rw [rd_len ho.rd und.s_uint8, List.length_map]
  have hll : ∀ (w : World) (K : VCont), xLen P .pure #[ty.s_s_uint8] o.lsv w K = K (i64 o.ls.length) w := fun w K => ho.rl.len und.s_s_uint8 w K
  simp only [xs, xb, Nat.zero_add, h.c0, op6cell, List.getElem?_cons_zero, List.getElem?_cons_succ, hlb]
  by_cases h1 : (100 : Int) < (o.bs.length : Int)
  · simp only [h1, xs, xd]
    exact no w1 h.tail fun hf => by have := hf.1; omega
  simp only [h1, xs, xb, xd, Nat.zero_add, h.c0, op6cell, List.getElem?_cons_zero, List.getElem?_cons_succ, hll]
  by_cases h2 : (6 : Int) < (o.ls.length : Int)
  · simp only [h2, xs, xd]
    exact no w1 h.tail fun hf => by have := hf.2.1; omega
  simp only [h2, xs, xd]
  refine Lp.gen (fun m s w' => w' = w1 ∧ ∃ i : Nat, m + i = o.ls.length ∧ s = [i64 i] ∧ ∀ x ∈ o.ls.take i, x.length ≤ 100) o.ls.length ⟨rfl, 0, by omega, rfl, by simp⟩ ?_
  rintro m s w' ⟨rfl, i, hi, rfl, hle⟩ X hX
  unfold law6_few_l1
  simp only [List.getD_cons_zero, xs, xb, Nat.zero_add, h.c0, op6cell, List.getElem?_cons_zero, List.getElem?_cons_succ, hll]
  by_cases hlt : i < o.ls.length
  · have hlt' : (i : Int) < (o.ls.length : Int) := by omega
    have hx := List.getElem?_eq_getElem hlt
    have hxm := List.getElem_mem hlt
    generalize o.ls[i] = x at hx hxm
    obtain ⟨p0, u, i0, q0, hru⟩ := (ho.rl.inp h (by simp [hm])).at und.s_s_uint8 inf.s_uint8 rfl hx
    have hlen : ∀ (w : World) (K : VCont), xLen P .pure #[ty.s_uint8] u w K = K (i64 x.length) w := fun w K => by rw [rd_len hru und.s_uint8, List.length_map]
    simp only [hlt', xs, xb, xd, Nat.zero_add, h.c0, op6cell, List.getElem?_cons_zero, List.getElem?_cons_succ, i0, q0, hlen]
    by_cases h3 : (100 : Int) < (x.length : Int)
    · simp only [h3, xs, xd]
      exact no w' h.tail fun hf => by have := hf.2.2 x hxm; omega
    · simp only [h3, xs, xd]
      rw [i64_succ (by omega)]
      refine hX (m - 1) _ _ ⟨rfl, i + 1, by omega, rfl, ?_⟩ (by omega)
      intro z hz
      rw [List.take_add_one, hx] at hz
      rcases List.mem_append.1 hz with hz | hz
      · exact hle z hz
      · simp at hz; subst hz; omega
  · have hlt' : ¬ (i : Int) < (o.ls.length : Int) := by omega
    simp only [hlt', xs, xd]
    unfold law6_few_j0
    rw [List.take_of_length_le (by omega)] at hle
    have := hK w' h.tail
    rwa [decide_eq_true (p := fewP o) ⟨by omega, by omega, hle⟩] at this
/-- behind the steps -/
theorem SealKeeps_j0 (keep : Int) (hk : -9223372036854775808 ≤ keep ∧ keep ≤ 9223372036854775807) (hK : ∀ w', Hp w' [InpA W] → K (.bool true) w') {va vb : Value} {age : Nat} (hage : age ≤ 40) (hR : R.length ≤ 40) (hRs : ∀ x ∈ R, x.length ≤ 100) (hS : S.length ≤ 6) (hSs : ∀ x ∈ S, x.length ≤ 100)
    (h : Hp w [LogA p d age R.length, DiskA d 1000000 D, SlA ty.string 1 va S.length (strs S), SlA ty.string 1 vb R.length (strs R), InpA W]) (ls : LS D age S R y) : law6_SealKeeps_j0 K (i64 keep) (ptr d) va vb (i64 y) w := by
  unfold law6_SealKeeps_j0
  refine Crash_ls h.pick1 ls keep hk ?_
  intro w1 lc h
  refine Open_ls h lc (by omega) ?_
  intro q vs vr w2 D2 m hm1 hm2 ls2 _ h
  -- q, vs, vr, disk, p, va, vb, inp
  have bs := h.pick1.ro
  simp only [xs, xb, xd, xEq_ptr und.p_seal_Log, Option.isNone_some]
  refine Texts_spec (A := S) (B := S) bs h.pick5.own.rd (by omega) ?_
  intro w3 hc3
  have h := h.keep' hc3
  have br := h.pick2.ro
  have rb := h.pick6.own.rd
  have hml : (R.take m).length = m := by rw [List.length_take]; omega
  have hmy : ¬ (m : Int) < (y : Int) := by omega
  have hmR : ¬ (R.length : Int) < (m : Int) := by omega
  obtain ⟨vh, ih, hh⟩ := head_rd' und.s_string inf.string rfl rb (k := m) (by rw [strs_len']; omega)
  simp only [xs, xb, xd, decide_true, br.len und.s_s_uint8, hml, hmy, rd_len rb und.s_string, strs_len', hmR, ih]
  have hst : strs (R.take m) = (strs R).take m := by simp [strs]
  refine Texts_spec (A := R.take m) (B := R.take m) br (by rw [hst]; exact hh w3 rb) (by omega) ?_
  intro w4 hc4
  have h := h.keep' hc4
  simp only [xs, xb, xd, decide_true]
  refine lit_hp [109, 111, 114, 101] h rfl (by kernel_rfl) (by omega) ?_
  intro v5 w5 h _
  have hu := ls2.used
  have hSf : (frames S).length ≤ 6 * 106 := Nat.le_trans (frames_le hSs) (Nat.mul_le_mul_right _ hS)
  have hRf : (frames (R.take m)).length ≤ 40 * 106 := Nat.le_trans (frames_le fun x hx => hRs x (List.mem_of_mem_take hx)) (Nat.mul_le_mul_right _ (by omega))
  have hfit : fits [109, 111, 114, 101] := by decide
  -- lit, q, vs, vr, disk, p, ..
  rw [show LogA q d (age : Int) m = LogA q d age (R.take m).length by rw [hml]] at h
  refine Put_ls (b := [109, 111, 114, 101]) h.pick4.pick2 ls2 (by omega) h.ro (by simp) (fun hn => absurd hfit hn) (fun _ hroom => by simp at hroom; omega) ?_
  intro _ w6 D3 ls3 h
  simp only [xs, xb, xd]
  refine Sync_ls h ls3 ?_
  intro w7 D4 ls4 h
  simp only [xs, xb, xd]
  refine Crash_ls h.pick1 ls4 0 (by omega) ?_
  intro w8 lc4 h
  refine Open_ls h lc4 (by simp; omega) ?_
  intro q2 vt vu w9 D5 m2 hm3 hm4 ls5 _ h
  have hm5 : m2 = (R.take m ++ [[109, 111, 114, 101]]).length := by omega
  subst hm5
  rw [List.take_length] at h
  simp only [xs]
  refine told6_hp h ?_
  intro w10 h
  -- q2, vt, vu, disk, q, lit, vs, vr, p, va, vb, inp
  have bt : RdBs w10 vt S := h.roAt 1 rfl
  have bu : RdBs w10 vu (R.take m ++ [[109, 111, 114, 101]]) := h.roAt 2 rfl
  have br : RdBs w10 vr (R.take m) := h.roAt 7 rfl
  have ra : Rd w10 va (strs S) := by
    obtain ⟨F, hF⟩ := h.mem (A := SlA ty.string 1 va S.length (strs S)) (by simp)
    exact hF.1.rd
  simp only [xs, xb, xd]
  refine Texts_spec (A := S) (B := S) bt ra (by omega) ?_
  intro w11 hc11
  have bu := bu.keep' hc11
  obtain ⟨p0, u0, i0, q0, r0⟩ := bu.at und.s_s_uint8 inf.s_uint8 rfl (k := m) (x := [109, 111, 114, 101]) (by rw [List.getElem?_append_right (by omega), hml]; simp)
  have hlu : (((R.take m ++ [[109, 111, 114, 101]]).length : Nat) : Int) = ((m + 1 : Nat) : Int) := by rw [List.length_append, hml]; rfl
  have hs1 : IntKind.i64.wrap ((m : Int) + 1) = ((m + 1 : Nat) : Int) := i64_succ (by omega)
  simp only [xs, xb, xd, decide_true, bu.len und.s_s_uint8, br.len und.s_s_uint8, hml, hlu, hs1, i0, q0, bytes_string und.s_uint8 und.uint8 und.string r0, xEq_str]
  exact hK w11 (Hp_only (h.keep' hc11) (by simp))
end
end Go.Proofs.Ytamejkogghpbhaa
