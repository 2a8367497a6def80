/- A log on a disk: Put, Save. -/
import Derived.Test.YtamejkogghpbhaaSeal2
set_option linter.unusedVariables false
set_option linter.unusedSimpArgs false
namespace Go.Proofs.Ytamejkogghpbhaa
open Go.Sx
def lput (room : Nat) (D : Ab) (age : Int) (n : Nat) (b : List UInt8) : Ab × Nat × Int :=
  if fits b then ((lapp room D age b).1, (if (lapp room D age b).2 = 0 then n + 1 else n), (lapp room D age b).2) else (D, n, 1)
theorem genf_len (age : Int) : 7 ≤ (genf age).length ∧ (genf age).length ≤ 16 := by
  have := vint_len (zig age)
  unfold genf; rw [frame_len]; omega
section
variable {w : World} {K : VCont} {l : List Asn} {d room p n : Nat} {D : Ab} {age : Int}
theorem seal_Put_j0_hp {f : List UInt8} {v : Value} (h : Hp w (SlA ty.uint8 1 v f.length (f.map bv) :: LogA p d age n :: DiskA d room D :: l)) (hD : D.length ≤ 1000000) (hf : f.length ≤ 1000000) (hn : n ≤ 1000000000)
    (hK : ∀ w', Hp w' (LogA p d age (if (aapp room D nlog f).2 = 0 then n + 1 else n) :: DiskA d room (aapp room D nlog f).1 :: l) → K (i64 (aapp room D nlog f).2) w') : seal_Log_Put_j0 K (ptr p) v w := by
  unfold seal_Log_Put_j0
  have hb : Hp w (SlA ty.uint8 1 v f.length (f.map bv) :: BlkA p ty.seal_Log [ptr d, i64 age, i64 n] :: DiskA d room D :: l) := h
  simp only [xs, Nat.zero_add, hb.c1, List.getElem?_cons_zero]
  refine Append_hp h.pick2 hD _ h.own.rd hf ?_
  intro w1 h
  generalize aapp room D nlog f = r at h hK
  have hb : Hp w1 (DiskA d room r.1 :: SlA ty.uint8 1 v f.length (f.map bv) :: BlkA p ty.seal_Log [ptr d, i64 age, i64 n] :: l) := h
  by_cases hc : r.2 = 0
  · simp only [hc, xs, xb, xd, Nat.zero_add, hb.c2, List.getElem?_cons_zero, List.getElem?_cons_succ]
    refine Hp.st hb.pick2 inf.int rfl rfl (by simp) ?_
    intro w2 h
    unfold seal_Log_Put_j1
    have e : IntKind.i64.wrap ((n : Int) + 1) = ((n + 1 : Nat) : Int) := by rw [wrap_i64 (by omega) (by omega)]; omega
    rw [e] at h
    simp only [hc, if_true] at hK
    exact hK w2 (h.pick2.tail.pick1.pick1)
  · simp only [hc, xs, xb, xd]
    unfold seal_Log_Put_j1
    simp only [hc, if_false] at hK
    exact hK w1 (h.pick2.pick2.tail)
theorem seal_Put_hp (h : Hp w (LogA p d age n :: DiskA d room D :: l)) (hD : D.length ≤ 1000000) (hn : n ≤ 1000000000) (h0 : 0 ≤ age) (h1 : age ≤ 9223372036854775807) {v : Value} {b : List UInt8} (hr : Rd w v (b.map bv)) (hl : b.length ≤ 10000000)
    (hK : ∀ w', Hp w' (LogA p d age (lput room D age n b).2.1 :: DiskA d room (lput room D age n b).1 :: l) → K (i64 (lput room D age n b).2.2) w') : xCall P nr.seal_Log_Put [ptr p, v] w K := by
  refine seal_Log_Put_call ?_
  unfold seal_Log_Put_main
  rw [xEq_ptr und.p_seal_Log]
  simp only [xs, xd, Option.isNone_some]
  unfold lput at hK
  refine frame_Put_hp h hr hl ?_ ?_
  · intro hnf
    simp only [hnf, if_false] at hK
    simp only [xs, xb, xd, show ¬ (1 : Int) = 0 by omega]
    exact hK w h
  intro hf v1 w1 h hc1
  simp only [hf, if_true] at hK
  have hb : Hp w1 (SlA ty.uint8 1 v1 (frame b).length ((frame b).map bv) :: BlkA p ty.seal_Log [ptr d, i64 age, i64 n] :: DiskA d room D :: l) := h
  simp only [xs, xb, xd, Nat.zero_add, hb.c1, List.getElem?_cons_zero]
  have hfl : (frame b).length ≤ 1006 := by rw [frame_len]; have := hf.2; omega
  have hgl := genf_len age
  -- what is behind the read
  have go : ∀ (t21 : Value) (w2 : World), acont D nlog = [] → (∀ (w : World) (K : VCont), xLen P .pure #[ty.s_uint8] t21 w K = K (i64 0) w) → Hp w2 (SlA ty.uint8 1 v1 (frame b).length ((frame b).map bv) :: BlkA p ty.seal_Log [ptr d, i64 age, i64 n] :: DiskA d room D :: l) →
      (xLen P .pure #[ty.s_uint8] t21 w2 fun t23 w => xEq P .eql ty.int false true t23 (.int .i64 0) w fun t24 w => xIf t24
        (match w.cell? ⟨p, 1, none⟩ with | some x => (xCall P nr.seal_generation [x] w fun t28 w => xBuiltin P .append #[ty.s_uint8, ty.s_uint8] ty.s_uint8 [false, false] [t28, v1] w fun t29 w => seal_Log_Put_j0 K (ptr p) t29 w) | none => False)
        (seal_Log_Put_j0 K (ptr p) v1 w)) := by
    intro t21 w2 hcont hlen h
    simp only [hlen, xs, xb, xd, Nat.zero_add, h.c1, List.getElem?_cons_zero, List.getElem?_cons_succ]
    refine generation_hp h age h0 h1 ?_
    intro v3 w3 h
    refine Hp.app (size := 1) (bytes := 1) und.s_uint8 inf.uint8 rfl rfl rfl rfl h h.pick1.own.rdN (bv_one _) (by omega) (by omega) ?_
    intro v4 w4 h
    have e1 : (genf age).length + (frame b).length = (genf age ++ frame b).length := by simp
    rw [e1, ← List.map_append] at h
    refine seal_Put_j0_hp h.pick1.tail hD (by simp; omega) hn ?_
    intro w5 h
    have e : lapp room D age b = aapp room D nlog (genf age ++ frame b) := by unfold lapp; rw [if_pos hcont]
    rw [e] at hK
    exact hK w5 h
  cases hg : aget D nlog with
  | none =>
    refine Read_hp hb.pick2 _ (fun _ => ?_) (fun x hx => by rw [hg] at hx; cases hx)
    have hcont : acont D nlog = [] := by unfold acont; rw [hg]; rfl
    simp only [xs]
    exact go _ w1 hcont (fun w K => by rw [xLen_slice und.s_uint8]; rfl) hb
  | some x =>
    refine Read_hp hb.pick2 _ (fun e => by rw [hg] at e; cases e) (fun y hy v2 w2 h => ?_)
    rw [hg] at hy; cases hy
    have hcont : acont D nlog = x.1 := by unfold acont; rw [hg]; rfl
    have hb2 : Hp w2 (SlA ty.uint8 1 v1 (frame b).length ((frame b).map bv) :: BlkA p ty.seal_Log [ptr d, i64 age, i64 n] :: DiskA d room D :: l) := (h.tail.put2)
    have hl21 : ∀ (w : World) (K : VCont), xLen P .pure #[ty.s_uint8] v2 w K = K (i64 x.1.length) w := fun w K => by rw [rd_len h.own.rd und.s_uint8, List.length_map]
    simp only [xs]
    by_cases hx : x.1 = []
    · exact go v2 w2 (by rw [hcont, hx]) (fun w K => by rw [hl21, hx]; rfl) hb2
    · have hx0 : ¬ (x.1.length : Int) = 0 := by
        intro e
        exact hx (List.eq_nil_of_length_eq_zero (by omega))
      simp only [hl21, xb, hx0, xs, xd]
      refine seal_Put_j0_hp hb2 hD (by omega) hn ?_
      intro w5 h
      have e : lapp room D age b = aapp room D nlog (frame b) := by unfold lapp; rw [if_neg (by rw [hcont]; exact hx)]
      rw [e] at hK
      exact hK w5 h
/-- a state is written: every row fits -/
theorem seal_Save_j0_hp {f : List UInt8} {v : Value} (h : Hp w (SlA ty.uint8 1 v f.length (f.map bv) :: LogA p d age n :: DiskA d room D :: l)) (hD : D.length ≤ 100000) (hf : f.length ≤ 1000000) (h0 : 0 ≤ age) (h1 : age ≤ 1000000000) {S : List (List UInt8)} (hS : f = genf (age + 1) ++ frames S)
    (hK : ∀ w' age' n', (age', n') = (if (lsave room D age S).2 = 0 then (age + 1, 0) else (age, n)) → Hp w' (LogA p d age' n' :: DiskA d room (lsave room D age S).1 :: l) → K (i64 (lsave room D age S).2) w') : seal_Log_Save_j0 K (ptr p) v w := by
  unfold seal_Log_Save_j0
  have hb : Hp w (SlA ty.uint8 1 v f.length (f.map bv) :: BlkA p ty.seal_Log [ptr d, i64 age, i64 n] :: DiskA d room D :: l) := h
  simp only [xs, Nat.zero_add, hb.c1, List.getElem?_cons_zero]
  refine Remove_hp hb.pick2 _ ?_
  intro w1 h
  simp only [xs, Nat.zero_add, h.c2, List.getElem?_cons_zero]
  have hl1 := adel_len D nnext
  refine Append_hp h (Nat.le_trans hl1 (by omega)) _ h.pick1.own.rd hf ?_
  intro w2 h
  unfold lsave at hK
  rw [← hS] at hK
  have hl2 := aapp_len room (adel D nnext).1 nnext f
  generalize aapp room (adel D nnext).1 nnext f = r at h hK hl2
  simp only [xs, xb, Nat.zero_add, h.c2, List.getElem?_cons_zero]
  by_cases hc : r.2 = 0
  · simp only [hc, xs, xd, Nat.zero_add, h.c2, List.getElem?_cons_zero]
    simp only [hc, if_true] at hK
    refine Sync_hp h _ ?_
    intro w3 h
    simp only [xs, Nat.zero_add, h.c2, List.getElem?_cons_zero]
    refine Rename_hp h _ _ ?_
    intro w4 h
    simp only [xs, Nat.zero_add, h.c2, List.getElem?_cons_zero]
    refine Cut_hp h _ _ ?_
    intro w5 h
    simp only [xs, xb, Nat.zero_add, h.c2, List.getElem?_cons_zero, List.getElem?_cons_succ]
    refine Hp.st h.pick2 inf.int64 rfl rfl (by simp) ?_
    intro w6 h
    refine Hp.st h inf.int rfl rfl (by simp) ?_
    intro w7 h
    rw [wrap_i64 (by omega) (by omega)] at h
    exact hK w7 (age + 1) 0 rfl (h.pick2.tail.pick1.pick1)
  · simp only [hc, xs, xd, Nat.zero_add, h.c2, List.getElem?_cons_zero]
    simp only [hc, if_false] at hK
    refine Remove_hp h _ ?_
    intro w3 h
    exact hK w3 age n rfl (h.put2.tail)
theorem seal_Save_hp (h : Hp w (LogA p d age n :: DiskA d room D :: l)) (hD : D.length ≤ 100000) (h0 : 0 ≤ age) (h1 : age ≤ 1000000000) {v : Value} {S : List (List UInt8)} (hv : ∀ w, Hp w l → RdBs w v S) (hS : S.length ≤ 900) (hl : ∀ x ∈ S, x.length ≤ 10000000)
    (hN : (∃ x ∈ S, ¬ fits x) → ∀ w', Hp w' (LogA p d age n :: DiskA d room D :: l) → K (i64 1) w')
    (hK : (∀ x ∈ S, fits x) → ∀ w' age' n', (age', n') = (if (lsave room D age S).2 = 0 then (age + 1, 0) else (age, n)) → Hp w' (LogA p d age' n' :: DiskA d room (lsave room D age S).1 :: l) → K (i64 (lsave room D age S).2) w') : xCall P nr.seal_Log_Save [ptr p, v] w K := by
  refine seal_Log_Save_call ?_
  unfold seal_Log_Save_main
  have hb : Hp w (BlkA p ty.seal_Log [ptr d, i64 age, i64 n] :: DiskA d room D :: l) := h
  rw [xEq_ptr und.p_seal_Log]
  simp only [xs, xb, xd, Option.isNone_some, Nat.zero_add, hb.c0, List.getElem?_cons_zero, List.getElem?_cons_succ]
  rw [wrap_i64 (by omega) (by omega)]
  refine generation_hp h (age + 1) (by omega) (by omega) ?_
  intro v1 w1 h
  have hlen : ∀ (w : World) (K : VCont), xLen P .pure #[ty.s_s_uint8] v w K = K (i64 S.length) w := fun w K => (hv w1 h.tail.tail.tail).len und.s_s_uint8 w K
  rw [hlen]
  have hgl := genf_len (age + 1)
  refine Lp.gen (fun m s w' => ∃ (i : Nat) (va : Value), m + i = S.length ∧ s = [va, i64 i] ∧ (∀ x ∈ S.take i, fits x) ∧ (genf (age + 1) ++ frames (S.take i)).length ≤ 16 + 1006 * i ∧
      Hp w' (SlA ty.uint8 1 va (genf (age + 1) ++ frames (S.take i)).length ((genf (age + 1) ++ frames (S.take i)).map bv) :: LogA p d age n :: DiskA d room D :: l)) S.length
    ⟨0, v1, by omega, rfl, by simp, by simp [frames_nil]; omega, by simpa [frames_nil] using h⟩ ?_
  rintro m s w2 ⟨i, va, hm, rfl, hfit, hlen2, h⟩ X hX
  unfold seal_Log_Save_l1
  simp only [List.getD_cons_zero, List.getD_cons_succ, xs, xb]
  by_cases hlt : i < S.length
  · have hlt' : (i : Int) < (S.length : Int) := by omega
    have hx := List.getElem?_eq_getElem hlt
    have hxm := List.getElem_mem hlt
    generalize S[i] = x at hx hxm
    obtain ⟨p0, u, i0, q0, hru⟩ := (hv w2 h.tail.tail.tail).at und.s_s_uint8 inf.s_uint8 rfl hx
    simp only [hlt', xs, xd, i0, q0]
    refine frame_Put_hp h hru (hl x hxm) ?_ ?_
    · intro hnf
      simp only [xs, xb, xd, show ¬ (1 : Int) = 0 by omega]
      exact hN ⟨x, hxm, hnf⟩ w2 h.tail
    intro hf v3 w3 h hc
    simp only [xs, xb, xd]
    have hfl := frame_len x
    have hf2 := hf.2
    refine Hp.app (size := 1) (bytes := 1) und.s_uint8 inf.uint8 rfl rfl rfl rfl h.pick1 h.own.rdN (bv_one _) (by omega) (by omega) ?_
    intro v4 w4 h
    have hi1 : IntKind.i64.wrap ((i : Int) + 1) = ((i + 1 : Nat) : Int) := by rw [wrap_i64 (by omega) (by omega)]; omega
    rw [hi1]
    have e1 : frames (S.take (i + 1)) = frames (S.take i) ++ frame x := by
      rw [List.take_add_one, hx, frames_append]
      simp [frames]
    refine hX (m - 1) _ _ ⟨i + 1, v4, by omega, rfl, ?_, ?_, ?_⟩ (by omega)
    · intro y hy
      rw [List.take_add_one, hx] at hy
      rcases List.mem_append.1 hy with hy | hy
      · exact hfit y hy
      · simp at hy; subst hy; exact hf
    · rw [e1, ← List.append_assoc, List.length_append]; omega
    · rw [e1, ← List.append_assoc, List.length_append, List.map_append]
      exact h.pick1.tail
  · have hlt' : ¬ (i : Int) < (S.length : Int) := by omega
    simp only [hlt', xs, xd]
    have hi : i = S.length := by omega
    subst hi
    rw [List.take_length] at h hfit hlen2
    exact seal_Save_j0_hp h hD (by omega) h0 h1 rfl (hK hfit)
end
end Go.Proofs.Ytamejkogghpbhaa
