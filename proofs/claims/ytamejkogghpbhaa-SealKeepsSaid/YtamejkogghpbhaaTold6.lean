/- The laws of layer 6: told, few. -/
import Derived.Test.YtamejkogghpbhaaLaw6
set_option linter.unusedVariables false
set_option linter.unusedSimpArgs false
namespace Go.Proofs.Ytamejkogghpbhaa
open Go.Sx
section
variable {w : World} {K : VCont} {l : List Asn} {d room p n : Nat} {D : Ab} {age : Int} {S R : List (List UInt8)} {y : Nat}
theorem conv_bytes' {w : World} {K : VCont} (g : Addr) (n c : Nat) (hK : ∀ w', (∀ a, w'.cell? a = w.cell? a) → Chg (· = g.block) w w' → K (.slice (some g) n c) w') : xConvK P .more ty.s_uint8 ty.s_uint8 (.slice (some g) n c) w K := conv_bytes g n c hK
/-- bytes that are written out -/
theorem lit_hp {n : Nat} {ps : List (Nat × Value)} (bs : List UInt8) (h : Hp w l) (hn : bs.length = n) (hps : ps = ((bs.map bv).zipIdx 0).map fun p => (p.2, p.1)) (hbig : n ≤ 16777216)
    (hK : ∀ v w', Hp w' (RoA (fun w => Rd w v (bs.map bv)) :: l) → v.oneCell' = true → K v w') : xBuildSlice P ty.s_uint8 n ps w fun t w => xConvK P .more ty.s_uint8 ty.s_uint8 t w K := by
  refine buildSlice_step und.s_uint8 inf.uint8 rfl rfl rfl (by simpa using hn) hps (bv_one bs) hbig ?_
  intro v w1 ho hb hc hs
  have hr := ho.rd
  have hr' := hr
  obtain ⟨a, cap, rfl, hl, hcell⟩ := hr
  cases a with
  | none => cases hb
  | some g =>
    refine conv_bytes' g _ _ ?_
    intro w2 h1 h2
    have hgb : g.block = w.heap.size := by simpa [Value.ownBlock] using hb
    have hr2 : Rd w2 (.slice (some g) (bs.map bv).length cap) (bs.map bv) := ⟨some g, cap, rfl, hl, fun i u hu => (h1 _).trans (hcell i u hu)⟩
    refine hK _ w2 (h.new (A := RoA _) (F := fun b => b = g.block) ⟨fun b e => ?_, fun w' hw => hr2.same fun b e => ?_⟩ (fun b e => by omega) (hc.then h2 fun b hb hbg => by omega)) rfl
    · have := h2.size; omega
    · have : g.block = b := by simpa [Value.ownBlock] using e
      exact hw b this.symm
/-- [][]byte{[]byte{..}} -/
theorem lit1_hp {v : Value} {bs : List UInt8} (h : Hp w (RoA (fun w => Rd w v (bs.map bv)) :: l)) (hv : v.oneCell' = true) (hK : ∀ v' w', Hp w' (RoA (fun w => RdBs w v' [bs]) :: l) → K v' w') : xBuildSlice P ty.s_s_uint8 1 [(0, v)] w K := by
  refine Hp.sl1 (size := 1) und.s_s_uint8 inf.s_uint8 rfl (by omega) (by omega) rfl rfl h (cs := [v]) (by cases v <;> simp_all [Value.cells, Value.oneCell']) rfl ?_
  intro v' w' h
  refine hK v' w' ((SlA.ro h).roAnd.roMono fun w hw => ⟨[v], hw.1, rfl, fun i u x hu hx => ?_⟩)
  rcases i with _ | i
  · simp at hu hx; subst hu; subst hx; exact hw.2
  · simp at hu
theorem Open_nil (hK : K (.tuple #[.pointer none, .slice none 0 0, .slice none 0 0, i64 1]) w) : xCall P nr.seal_Open [.pointer none] w K := by
  refine seal_Open_call ?_
  unfold seal_Open_main
  rw [xEq_ptr und.p_disk_Disk]
  simp only [xs, xd, Option.isNone_none]
  exact hK
theorem told6_hp (h : Hp w l) (hK : ∀ w', Hp w' l → K (.bool true) w') : xCall P nr.law6_told [] w K := by
  refine law6_told_call ?_
  unfold law6_told_main
  refine New_hp h 1000 (by omega) ?_
  intro d w1 h
  simp only [xs, xb, xd, xEq_ptr und.p_disk_Disk, Option.isNone_some]
  refine seal_Open_hp h (keeps_nil one_nil) (keeps_nil one_nil) (by simp) ?_
  intro p vs vr w2 R' e' he h
  rw [if_pos (.inl rfl)] at he
  cases he
  replace h : Hp w2 (LogA p d 0 0 :: RoA (fun w => RdBs w vs []) :: RoA (fun w => RdBs w vr []) :: DiskA d 1000 [] :: l) := h
  simp only [xs, xb, xd, xEq_ptr und.p_seal_Log, Option.isNone_some]
  refine lit_hp [97] h rfl (by kernel_rfl) (by omega) ?_
  intro v3 w3 h _
  refine seal_Put_hp (n := 0) (l := RoA (fun w => Rd w v3 ([97].map bv)) :: RoA (fun w => RdBs w vs []) :: RoA (fun w => RdBs w vr []) :: l) (h.pick4.pick2) (by simp) (by omega) (by omega) (by omega) h.ro (by simp) ?_
  intro w4 h
  have e1 : lput 1000 [] 0 0 [97] = ([(nlog, logc 0 [[97]], 0)], 1, 0) := by kernel_rfl
  rw [e1] at h ⊢
  refine seal_Sync_hp h ?_
  intro w5 h
  have e2 : (async [(nlog, logc 0 [[97]], 0)] nlog).1 = [(nlog, logc 0 [[97]], (logc 0 [[97]]).length)] := by kernel_rfl
  rw [e2] at h
  refine lit_hp [98] h rfl (by kernel_rfl) (by omega) ?_
  intro v6 w6 h _
  refine seal_Put_hp (n := 1) (l := RoA (fun w => Rd w v6 ([98].map bv)) :: RoA (fun w => Rd w v3 ([97].map bv)) :: RoA (fun w => RdBs w vs []) :: RoA (fun w => RdBs w vr []) :: l) (h.pick2.pick2) (by simp) (by omega) (by omega) (by omega) h.ro (by simp) ?_
  intro w7 h
  have e3 : lput 1000 [(nlog, logc 0 [[97]], (logc 0 [[97]]).length)] 0 1 [98] = ([(nlog, logc 0 [[97], [98]], (logc 0 [[97]]).length)], 2, 0) := by kernel_rfl
  rw [e3] at h
  refine Crash_hp h.pick1 (by simp) 0 (by omega) ?_
  intro w8 h
  have e4 : acrash 0 [(nlog, logc 0 [[97], [98]], (logc 0 [[97]]).length)] = [(nlog, logc 0 [[97]], (logc 0 [[97]]).length)] := by kernel_rfl
  rw [e4] at h
  have k1 : Keeps (acont [(nlog, logc 0 [[97]], (logc 0 [[97]]).length)] nlog) 0 [[97]] (logc 0 [[97]]).length := by
    have : acont [(nlog, logc 0 [[97]], (logc 0 [[97]]).length)] nlog = logc 0 [[97]] ++ [] := by kernel_rfl
    rw [this]
    exact keeps_logc (by omega) (by omega) (by decide) one_nil
  refine seal_Open_hp (a1 := -1) (S := []) (es := 0) h (keeps_nil one_nil) k1 (by simp) ?_
  intro p2 vs2 vr2 w9 R' e' he h
  rw [if_pos (.inr (by omega))] at he
  cases he
  have e5 : lopen [(nlog, logc 0 [[97]], (logc 0 [[97]]).length)] (logc 0 [[97]]).length = [(nlog, logc 0 [[97]], (logc 0 [[97]]).length)] := by kernel_rfl
  rw [e5, show max (-1 : Int) 0 = 0 from rfl] at h
  simp only [xs, xb, xd, xEq_ptr und.p_seal_Log, Option.isNone_some]
  refine lit_hp [83] h rfl (by kernel_rfl) (by omega) ?_
  intro v10 w10 h hv10
  refine lit1_hp h hv10 ?_
  intro v11 w11 h
  refine seal_Save_hp (n := 1) (S := [[83]]) h.pick4.pick2 (by simp) (by omega) (by omega) (fun w h => h.ro) (by simp) (by simp) (fun hn => absurd hn (by decide)) ?_
  intro _ w12 age' n' he h
  have e6 : lsave 1000 [(nlog, logc 0 [[97]], (logc 0 [[97]]).length)] 0 [[83]] = ([(nlog, [], 0), (nsnap, logc 1 [[83]], (logc 1 [[83]]).length)], 0) := by kernel_rfl
  rw [e6] at h he ⊢
  rw [if_pos rfl] at he
  cases he
  have k3 : Keeps (acont [(nlog, [], 0), (nsnap, logc 1 [[83]], (logc 1 [[83]]).length)] nsnap) 1 [[83]] (logc 1 [[83]]).length := by
    have : acont [(nlog, [], 0), (nsnap, logc 1 [[83]], (logc 1 [[83]]).length)] nsnap = logc 1 [[83]] ++ [] := by kernel_rfl
    rw [this]
    exact keeps_logc (by omega) (by omega) (by decide) one_nil
  have k4 : Keeps (acont [(nlog, [], 0), (nsnap, logc 1 [[83]], (logc 1 [[83]]).length)] nlog) (-1) [] 0 := by
    have : acont [(nlog, [], 0), (nsnap, logc 1 [[83]], (logc 1 [[83]]).length)] nlog = [] := by kernel_rfl
    rw [this]
    exact keeps_nil one_nil
  refine seal_Open_hp h.pick1 k3 k4 (by simp) ?_
  intro p3 vs3 vr3 w13 R' e' he h
  rw [if_pos (.inl rfl)] at he
  cases he
  have h := h.pick4.tail.pick4.tail
  simp only [xs]
  refine Open_nil ?_
  have b2 := h.pick4.ro
  have b2r := h.pick5.ro
  have b3 := h.pick1.ro
  have b3r := h.pick2.ro
  obtain ⟨p0, u0, i0, q0, r0⟩ := b2r.at und.s_s_uint8 inf.s_uint8 rfl (k := 0) (x := [97]) rfl
  obtain ⟨p1, u1, i1, q1, r1⟩ := b3.at und.s_s_uint8 inf.s_uint8 rfl (k := 0) (x := [83]) rfl
  have i0' : ∀ (w2 : World) (C : VCont), xIndexAddr P ty.s_s_uint8 vr2 (.int .i64 0) w2 C = C (.pointer (some p0)) w2 := i0
  have i1' : ∀ (w2 : World) (C : VCont), xIndexAddr P ty.s_s_uint8 vs3 (.int .i64 0) w2 C = C (.pointer (some p1)) w2 := i1
  have c0 : ((([] : List (List UInt8)).length : Nat) : Int) = 0 := rfl
  have c1 : ((([[97]] : List (List UInt8)).length : Nat) : Int) = 1 := rfl
  have c3 : ((([[83]] : List (List UInt8)).length : Nat) : Int) = 1 := rfl
  simp only [xs, xb, xd, b2.len und.s_s_uint8, b2r.len und.s_s_uint8, b3.len und.s_s_uint8, b3r.len und.s_s_uint8, i0', q0, i1', q1, bytes_string und.s_uint8 und.uint8 und.string r0, bytes_string und.s_uint8 und.uint8 und.string r1, xEq_str, xNe_ptr und.p_seal_Log, Option.isNone_some, c0, c1, c3, decide_true]
  have hl8 : (lopen [(nlog, [], 0), (nsnap, logc 1 [[83]], (logc 1 [[83]]).length)] 0).length = 2 := by kernel_rfl
  have hnil : Rd w13 (.slice none 0 0) (([] : List UInt8).map bv) := ⟨none, 0, rfl, Nat.le_refl _, rfl⟩
  refine seal_Put_hp (n := 2) (age := 0) h.pick3.pick6 (by rw [hl8]; omega) (by omega) (by omega) (by omega) hnil (by simp) ?_
  intro w14 h
  have e7 : ∀ D, lput 1000 D 0 2 [] = (D, 2, 1) := fun D => by unfold lput; rw [if_neg (by decide)]
  rw [e7] at h ⊢
  simp only [xs, xb, xd]
  exact hK w14 h.tail.tail.tail.tail.tail.tail.tail.tail.tail.tail.tail
end
end Go.Proofs.Ytamejkogghpbhaa
