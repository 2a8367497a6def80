/- SealKeeps: the law, the loop. -/
import Derived.Test.YtamejkogghpbhaaKeeps
set_option linter.unusedVariables false
set_option linter.unusedSimpArgs false
namespace Go.Proofs.Ytamejkogghpbhaa
open Go.Sx
section
variable {W w : World} {K : VCont} {l : List Asn} {d p : Nat} {D : Ab} {S R : List (List UInt8)} {y : Nat} {v0 : Value}
theorem SealKeeps_law {ops : List Op6} (keep : Int) (hk : -9223372036854775808 ≤ keep ∧ keep ≤ 9223372036854775807) (hops : RdN W 4 v0 ops.length (ops.flatMap op6cell)) (hok : ∀ o ∈ ops, Op6Ok W o)
    (hK : ∀ w', Hp w' [InpA W] → K (.bool true) w') : law6_SealKeeps_main K v0 (i64 keep) W := by
  unfold law6_SealKeeps_main
  refine New_hp (Hp.inp W) 1000000 (by omega) ?_
  intro d w1 h
  simp only [xs, xb, xd, xEq_ptr und.p_disk_Disk, Option.isNone_some]
  refine Reopen_ls h LS.nil (by simp) ?_
  intro p vs vr w2 D1 ls1 h
  simp only [xs, xb, xd, xEq_ptr und.p_seal_Log, Option.isNone_some]
  have h : Hp w2 [LogA p d 0 0, DiskA d 1000000 D1, InpA W] := h.pick1.tail.pick1.tail
  have nilS : ∀ {w : World} {l : List Asn}, Hp w l → Hp w (SlA ty.string 1 (.slice none 0 0) 0 [] :: l) := fun h => h.new (A := SlA ty.string 1 (.slice none 0 0) 0 []) (F := fun _ => False) ⟨Own.nil _ _ _, fun b => by simp [Value.ownBlock]⟩ (fun _ h => h.elim) (Chg.refl _ _)
  have h0 : Hp w2 [LogA p d 0 0, DiskA d 1000000 D1, SlA ty.string 1 (.slice none 0 0) 0 [], SlA ty.string 1 (.slice none 0 0) 0 [], InpA W] := (nilS (nilS h).put2).put2
  refine Lp.gen (fun m s w' => ∃ (i age y : Nat) (va vb : Value) (D : Ab) (S R : List (List UInt8)), m + i = 40 ∧ s = [va, vb, i64 y, i64 i] ∧ age ≤ i ∧ R.length ≤ i ∧ (∀ x ∈ R, x.length ≤ 100) ∧ S.length ≤ 6 ∧ (∀ x ∈ S, x.length ≤ 100) ∧ LS D age S R y ∧
      Hp w' [LogA p d age R.length, DiskA d 1000000 D, SlA ty.string 1 va S.length (strs S), SlA ty.string 1 vb R.length (strs R), InpA W]) 40
    ⟨0, 0, 0, .slice none 0 0, .slice none 0 0, D1, [], [], rfl, rfl, by omega, by simp, by simp, by simp, by simp, ls1, h0⟩ ?_
  rintro m s w3 ⟨i, age, y, va, vb, D, S, R, hm, rfl, hage, hR, hRs, hS, hSs, ls, h⟩ X hX
  have hlen : ∀ (w : World) (K : VCont), xLen P .pure #[ty.s_law6_Op] v0 w K = K (i64 ops.length) w := fun w K => by
    obtain ⟨_, a, cap, rfl, _⟩ := hops
    rw [xLen_slice und.s_law6_Op]
  have stop : law6_SealKeeps_j0 K (i64 keep) (ptr d) va vb (i64 y) w3 := SealKeeps_j0 keep hk hK (by omega) (by omega) hRs hS hSs h ls
  unfold law6_SealKeeps_l1
  simp only [List.getD_cons_zero, List.getD_cons_succ, hlen, xs, xb]
  by_cases hlt : i < ops.length
  rotate_left
  · have : ¬ (i : Int) < (ops.length : Int) := by omega
    simp only [this, xs, xd]
    exact stop
  have hlt' : (i : Int) < (ops.length : Int) := by omega
  by_cases h40 : i < 40
  rotate_left
  · have : ¬ (i : Int) < 40 := by omega
    simp only [hlt', this, xs, xb, xd]
    exact stop
  have h40' : (i : Int) < 40 := by omega
  have ho := List.getElem?_eq_getElem hlt
  have hoo := hok _ (List.getElem_mem hlt)
  generalize ops[i] = o at ho hoo
  obtain ⟨p0, ix0, hp0⟩ := rdN_at (size := 4) und.s_law6_Op inf.law6_Op rfl hops hlt
  simp only [hlt', h40', xs, xb, xd, ix0]
  refine ⟨p0, op6cell o, rfl, rfl, fun j hj => ?_, ?_⟩
  · rw [hp0 w3 (hops.inp h (by simp)) j hj, op6_at ho j hj]
  refine Hp.alloc (cs := [i64 0, i64 0, .slice none 0 0, .slice none 0 0]) h inf.law6_Op rfl rfl ?_
  intro b w4 h
  refine Hp.stN (n := 4) (new := op6cell o) h inf.law6_Op rfl rfl rfl (op6_one hoo) (by simp) ?_
  intro w5 h
  replace h : Hp w5 [BlkA b ty.law6_Op (op6cell o), LogA p d age R.length, DiskA d 1000000 D, SlA ty.string 1 va S.length (strs S), SlA ty.string 1 vb R.length (strs R), InpA W] := h
  rw [xLoadN_blk (n := 4) h rfl]
  refine few_hp h (by simp) hoo ?_
  intro w6 h
  by_cases hf : fewP o
  rotate_left
  · simp only [hf, xs, xb, xd, decide_false]
    exact told6_hp h fun w' h => hK w' (Hp_only h (by simp))
  obtain ⟨f1, f2, f3⟩ := hf
  simp only [show fewP o from ⟨f1, f2, f3⟩, xs, xb, xd, decide_true, Nat.zero_add, h.c0, op6cell, List.getElem?_cons_zero, List.getElem?_cons_succ]
  have rd : ∀ {w : World} {l : List Asn}, Hp w l → InpA W ∈ l → Rd w o.bsv (o.bs.map bv) := fun h hm => hoo.rd.inp h hm
  have rl : ∀ {w : World} {l : List Asn}, Hp w l → InpA W ∈ l → RdBs w o.lsv o.ls := fun h hm => hoo.rl.inp h hm
  have hlb : ∀ (w : World) (K : VCont), xLen P .pure #[ty.s_uint8] o.bsv w K = K (i64 o.bs.length) w := fun w K => by rw [rd_len hoo.rd und.s_uint8, List.length_map]
  -- behind a step
  have next : ∀ (age' y' : Nat) (va' vb' : Value) (D' : Ab) (S' R' : List (List UInt8)) (w' : World), age' ≤ i + 1 → R'.length ≤ i + 1 → (∀ x ∈ R', x.length ≤ 100) → S'.length ≤ 6 → (∀ x ∈ S', x.length ≤ 100) → LS D' age' S' R' y' →
      Hp w' [LogA p d age' R'.length, DiskA d 1000000 D', SlA ty.string 1 va' S'.length (strs S'), SlA ty.string 1 vb' R'.length (strs R'), InpA W] → law6_SealKeeps_j2 K X va' vb' (i64 y') (i64 i) w' := by
    intro age' y' va' vb' D' S' R' w' h1 h2 h3 h4 h5 h6 h7
    unfold law6_SealKeeps_j2
    simp only [xb]
    rw [i64_succ (by omega)]
    exact hX (m - 1) _ _ ⟨i + 1, age', y', va', vb', D', S', R', by omega, rfl, h1, h2, h3, h4, h5, h6, h7⟩ (by omega)
  have hu := ls.used
  have hSf : (frames S).length ≤ 6 * 106 := Nat.le_trans (frames_le hSs) (Nat.mul_le_mul_right _ hS)
  have hRf : (frames R).length ≤ 40 * 106 := Nat.le_trans (frames_le hRs) (Nat.mul_le_mul_right _ (by omega))
  by_cases k0 : o.kind = 0
  · simp only [k0, xs, xb, xd, Nat.zero_add, h.c0, op6cell, List.getElem?_cons_zero, List.getElem?_cons_succ]
    refine Put_ls (l := [BlkA b ty.law6_Op (op6cell o), SlA ty.string 1 va S.length (strs S), SlA ty.string 1 vb R.length (strs R), InpA W]) h.pick2.pick2 ls (by omega) (rd h (by simp)) (by omega) ?_ ?_ ?_
    · intro hnf w7 h
      simp only [xs, xb, xd, Nat.zero_add, h.c2, op6cell, List.getElem?_cons_zero, List.getElem?_cons_succ, show ¬ (1 : Int) = 0 by omega, hlb]
      have hz : ¬ (0 : Int) < (o.bs.length : Int) := by
        intro hp
        exact hnf ⟨by omega, by omega⟩
      simp only [hz, xs, xd]
      exact next age y va vb D S R w7 (by omega) (by omega) hRs hS hSs ls (h.pick2.tail)
    · intro _ hroom
      omega
    · intro hfit w7 D7 ls7 h
      simp only [xs, xb, xd, Nat.zero_add, h.c2, op6cell, List.getElem?_cons_zero, List.getElem?_cons_succ, bytes_string und.s_uint8 und.uint8 und.string (rd h (by simp))]
      refine Hp.sl1 (size := 1) und.s_string inf.string rfl (by omega) (by omega) rfl rfl h (cs := [.string (bstr o.bs)]) rfl rfl ?_
      intro v8 w8 h
      -- v8, log, disk, b, va, vb
      refine Hp.app (size := 1) (bytes := 16) und.s_string inf.string rfl rfl rfl rfl h.pick5 h.own.rdN (by simp [Value.oneCell']) (by omega) (by omega) ?_
      intro v9 w9 h
      -- v9, v8, log, disk, b, va, inp
      have e : strs (R ++ [o.bs]) = strs R ++ [.string (bstr o.bs)] := by simp [strs]
      refine next age y va v9 D7 S (R ++ [o.bs]) w9 (by omega) (by simp; omega) ?_ hS hSs ls7 ?_
      · intro x hx
        rcases List.mem_append.1 hx with hx | hx
        · exact hRs x hx
        · simp at hx; subst hx; exact f1
      · rw [e, List.length_append]
        have h2 := h.pick1.tail.pick3.tail
        -- v9, log, disk, va
        have h3 := h2.pick3.pick3.pick3
        rw [List.length_append] at h3
        exact h3
  by_cases k1 : o.kind = 1
  · simp only [k0, k1, xs, xb, xd, show ¬ (1 : Int) = 0 by omega]
    refine Sync_ls (l := [BlkA b ty.law6_Op (op6cell o), SlA ty.string 1 va S.length (strs S), SlA ty.string 1 vb R.length (strs R), InpA W]) h.pick2.pick2 ls ?_
    intro w7 D7 ls7 h
    simp only [xs, xb, xd, rd_len h.pick4.own.rd und.s_string, strs_len']
    exact next age R.length va vb D7 S R w7 (by omega) (by omega) hRs hS hSs ls7 (h.pick2.tail)
  by_cases k2 : o.kind = 2
  · simp only [k0, k1, k2, xs, xb, xd, Nat.zero_add, h.c0, op6cell, List.getElem?_cons_zero, List.getElem?_cons_succ, show ¬ (2 : Int) = 0 by omega, show ¬ (2 : Int) = 1 by omega]
    have hof : (frames o.ls).length ≤ 6 * 106 := Nat.le_trans (frames_le f3) (Nat.mul_le_mul_right _ f2)
    have hge := genf_len ((age : Int) + 1)
    refine Save_ls (S' := o.ls) (l := [BlkA b ty.law6_Op (op6cell o), SlA ty.string 1 va S.length (strs S), SlA ty.string 1 vb R.length (strs R), InpA W]) h.pick2.pick2 ls (by omega) (fun w h => rl h (by simp)) (by omega) (fun x hx => by have := f3 x hx; omega) ?_ ?_ ?_
    · intro _ w7 h
      simp only [xs, xb, xd, show ¬ (1 : Int) = 0 by omega]
      exact next age y va vb D S R w7 (by omega) (by omega) hRs hS hSs ls (h.pick2.tail)
    · intro _ hroom
      rw [List.length_append] at hroom
      omega
    · intro _ w7 D7 ls7 _ h
      simp only [xs, xb, xd, Nat.zero_add, h.c2, op6cell, List.getElem?_cons_zero, List.getElem?_cons_succ]
      refine texts_hp (S := o.ls) h (fun w h => rl h (by simp)) (by omega) ?_
      intro v8 w8 h
      -- v8, log, disk, b, va, vb, inp
      refine next (age + 1) 0 v8 (.slice none 0 0) D7 o.ls [] w8 (by omega) (by simp) (by simp) f2 f3 ls7 ?_
      have h2 := (h.pick5.tail.pick4.tail.pick3.tail)
      -- v8, log, disk, inp
      have h3 := nilS h2
      exact h3.pick3.pick3.pick3.put2
  simp only [k0, k1, k2, xs, xb, xd]
  exact next age y va vb D S R w6 (by omega) (by omega) hRs hS hSs ls h.tail
end
end Go.Proofs.Ytamejkogghpbhaa
