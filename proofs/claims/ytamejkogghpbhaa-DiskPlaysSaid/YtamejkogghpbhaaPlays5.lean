/- DiskPlays: the law. -/
import Derived.Test.YtamejkogghpbhaaRelD2
import Derived.Test.YtamejkogghpbhaaOpen
set_option linter.unusedVariables false
set_option linter.unusedSimpArgs false
namespace Go.Proofs.Ytamejkogghpbhaa
open Go.Sx
structure OpM where
  kind : Int
  n : Int
  name : ByteArray
  to : ByteArray
  bsv : Value
  bs : List UInt8
def opcell (o : OpM) : List Value := [i64 o.kind, i64 o.n, .string o.name, .string o.to, o.bsv]
structure OpOk (W : World) (o : OpM) : Prop where
  n : -9223372036854775808 ≤ o.n ∧ o.n ≤ 9223372036854775807
  name : o.name.size ≤ 9223372036854775807
  to : o.to.size ≤ 9223372036854775807
  rd : Rd W o.bsv (o.bs.map bv)
  len : o.bs.length ≤ 9223372036854775807
  one : o.bsv.oneCell' = true
section
variable {W w : World} {K : VCont} {d x room : Nat} {D : Ab} {R : List RF}
/-- behind a step -/
theorem DiskPlays_j2 {y i : Nat} {X : LX} {o : OpM} {c : Int} (h : Hp w [DiskA d room D, RefB x room R, BlkA y ty.law5_Op (opcell o), InpA W]) (hr : Rel D R) (hl : R.length ≤ i + 1) (hi : i < 60)
    (hX : ∀ w' D' R', Hp w' [DiskA d room D', RefB x room R', InpA W] → Rel D' R' → R'.length ≤ i + 1 → X [ptr d, i64 ((i + 1 : Nat) : Int)] w') : law5_DiskPlays_j2 K X (ptr d) (ptr x) (i64 i) (ptr y) (i64 c) (i64 c) w := by
  unfold law5_DiskPlays_j2
  simp only [xs, xb, xd]
  refine same_spec h hr (by omega) ?_
  intro w1 h
  simp only [xs, xb, xd, Nat.zero_add, h.c2, opcell, List.getElem?_cons_zero, List.getElem?_cons_succ]
  have fin : ∀ w2, Hp w2 [DiskA d room D, RefB x room R, BlkA y ty.law5_Op (opcell o), InpA W] → X [ptr d, .int .i64 (IntKind.i64.wrap ((i : Int) + 1))] w2 := by
    intro w2 h
    rw [wrap_i64 (by omega) (by omega)]
    exact hX w2 D R (h.pick2.tail) hr hl
  cases hg : aget D o.name with
  | none =>
    refine Read_hp h o.name (fun _ => ?_) (fun z hz => by rw [hg] at hz; cases hz)
    simp only [xs, xb, xd, Nat.zero_add, h.c2, opcell, List.getElem?_cons_zero, List.getElem?_cons_succ]
    obtain ⟨F, hF, fr⟩ := h.pick1.frame1
    refine rread_spec (show RefAt w1 x room R F from hF) (by omega) o.name (fun _ w2 hc => ?_) (fun r hr1 hr2 => by rw [hr.getAt hr1 hr2] at hg; cases hg)
    simp only [xs, xb, xd]
    exact fin w2 (h.keep' hc)
  | some z =>
    refine Read_hp h o.name (fun e => by rw [hg] at e; cases e) (fun z' hz v w2 h => ?_)
    simp only [xs, xb, xd, Nat.zero_add, h.c3, opcell, List.getElem?_cons_zero, List.getElem?_cons_succ]
    obtain ⟨F, hF, fr⟩ := h.pick2.frame1
    refine rread_spec (show RefAt w2 x room R F from hF) (by omega) o.name (fun hn => by have := hr.at o.name; rw [hn, hg] at this; cases this) (fun r hr1 hr2 w3 hc => ?_)
    simp only [xs, xb, xd]
    exact fin w3 (h.keep' hc).tail
theorem opcells_flat (ops : List OpM) : ops.flatMap opcell = (ops.map opcell).flatten := by rw [List.flatMap_def]
theorem op_at {ops : List OpM} {i : Nat} {o : OpM} (h : ops[i]? = some o) (r : Nat) (hr : r < 5) : (ops.flatMap opcell)[i * 5 + r]? = (opcell o)[r]? := by
  rw [opcells_flat]
  exact flatten_get (size := 5) (fun es hes => by obtain ⟨o, _, rfl⟩ := List.mem_map.1 hes; rfl) (by rw [List.getElem?_map, h]; rfl) hr
theorem DiskPlays_law {v1 : Value} {ops : List OpM} (rm : Int) (hrm : -9223372036854775808 ≤ rm ∧ rm ≤ 9223372036854775807) (hops : RdN W 5 v1 ops.length (ops.flatMap opcell)) (hok : ∀ o ∈ ops, OpOk W o)
    (hK : ∀ w', Hp w' [InpA W] → K (.bool true) w') : law5_DiskPlays_main K (i64 rm) v1 W := by
  have h := Hp.inp W
  unfold law5_DiskPlays_main
  by_cases hbad : rm < 0 ∨ 1000000 < rm
  · refine New_bad rm hbad ?_
    simp only [xs, xb, xd]
    by_cases h0 : rm < 0
    · simp only [h0, xs, xb, xd]
      refine told5_hp h ?_
      intro w1 h
      simp only [xs, xb, xd, xEq_ptr und.p_disk_Disk, Option.isNone_none]
      exact hK w1 h
    · have h1 : 1000000 < rm := by omega
      simp only [h0, h1, xs, xb, xd]
      refine told5_hp h ?_
      intro w1 h
      simp only [xs, xb, xd, xEq_ptr und.p_disk_Disk, Option.isNone_none]
      exact hK w1 h
  obtain ⟨room, rfl⟩ : ∃ k : Nat, rm = k := ⟨rm.toNat, by omega⟩
  have hroom : room ≤ 1000000 := by omega
  refine New_hp h room hroom ?_
  intro d w1 h
  have h0 : ¬ (room : Int) < 0 := by omega
  have h1 : ¬ (1000000 : Int) < room := by omega
  have hb : xBuild P ty.ref5_D [(0, i64 room)] w1 = fun K => K (.agg #[i64 room, .slice none 0 0]) w1 := by
    funext K
    unfold xBuild
    exact xp_iff fun w' => by kernel_rfl
  simp only [h0, h1, xs, xb, xd, xEq_ptr und.p_disk_Disk, Option.isNone_some, hb]
  refine Hp.box (cs := [i64 room, .slice none 0 0]) h rfl ?_
  intro x w2 h
  have hnew : Hp w2 [DiskA d room [], RefB x room [], InpA W] := by
    have : Hp w2 (SlA ty.ref5_File 3 (.slice none 0 0) 0 [] :: BlkA x ty.ref5_D [i64 room, .slice none 0 0] :: DiskA d room [] :: [InpA W]) :=
      h.new (A := SlA ty.ref5_File 3 (.slice none 0 0) 0 []) (F := fun _ => False) ⟨Own.nil _ _ _, fun b => by simp [Value.ownBlock]⟩ (fun _ h => h.elim) (Chg.refl _ _)
    exact (RefB.open'.2 ⟨_, this.pick1⟩).pick1
  refine Lp.gen (fun n s w' => ∃ (i : Nat) (d' : Nat) (D : Ab) (R : List RF), n + i = 60 ∧ s = [ptr d', i64 i] ∧ Hp w' [DiskA d' room D, RefB x room R, InpA W] ∧ Rel D R ∧ R.length ≤ i) 60
    ⟨0, d, [], [], by omega, rfl, hnew, ⟨List.Pairwise.nil, List.Pairwise.nil, fun _ => rfl⟩, by simp⟩ ?_
  rintro n s w ⟨i, d, D, R, hni, rfl, h, hr, hl⟩ X hX
  have hlen : ∀ (w : World) (K : VCont), xLen P .pure #[ty.s_law5_Op] v1 w K = K (i64 ops.length) w := fun w K => by
    obtain ⟨_, a, cap, rfl, _⟩ := hops
    rw [xLen_slice und.s_law5_Op]
  have hstop : law5_DiskPlays_j0 K w := by
    unfold law5_DiskPlays_j0
    exact told5_hp h fun w' h => hK w' h.tail.tail
  unfold law5_DiskPlays_l1
  simp only [List.getD_cons_zero, List.getD_cons_succ, xs, xb, xd, hlen]
  by_cases hio : i < ops.length
  rotate_left
  · have : ¬ (i : Int) < (ops.length : Int) := by omega
    simp only [this, xs, xb, xd]
    exact hstop
  have hio' : (i : Int) < (ops.length : Int) := by omega
  by_cases h60 : i < 60
  rotate_left
  · have : ¬ (i : Int) < 60 := by omega
    simp only [hio', this, xs, xb, xd]
    exact hstop
  have h60' : (i : Int) < 60 := by omega
  have ho := List.getElem?_eq_getElem hio
  have hoo := hok _ (List.getElem_mem hio)
  generalize ops[i] = o at ho hoo
  obtain ⟨p, ixp, hp⟩ := rdN_at (size := 5) und.s_law5_Op inf.law5_Op rfl hops hio
  have hpw := hp w (hops.inp h (by simp))
  simp only [hio', h60', xs, xb, xd, ixp]
  refine ⟨p, opcell o, rfl, rfl, fun j hj => ?_, ?_⟩
  · rw [hpw j hj, op_at ho j hj]
  refine Hp.alloc (cs := [i64 0, i64 0, .string ⟨#[]⟩, .string ⟨#[]⟩, .slice none 0 0]) h inf.law5_Op rfl rfl ?_
  intro y w1 h
  refine Hp.stN (n := 5) (new := opcell o) h inf.law5_Op rfl rfl rfl (by intro u hu; simp only [opcell, List.mem_cons, List.not_mem_nil, or_false] at hu; rcases hu with rfl | rfl | rfl | rfl | rfl <;> first | rfl | exact hoo.one) (by simp) ?_
  intro w2 h
  replace h : Hp w2 [DiskA d room D, RefB x room R, BlkA y ty.law5_Op (opcell o), InpA W] := Hp.put2 h
  have rd : ∀ {w : World} {l : List Asn}, Hp w l → InpA W ∈ l → Rd w o.bsv (o.bs.map bv) := fun h hm => hoo.rd.inp h hm
  have hlb : ∀ (w : World) (K : VCont), xLen P .pure #[ty.s_uint8] o.bsv w K = K (i64 o.bs.length) w := fun w K => by
    obtain ⟨a, cap, e, _, _⟩ := hoo.rd
    rw [e, xLen_slice und.s_uint8, List.length_map]
  simp only [xs, xb, xd, Nat.zero_add, h.c2, opcell, List.getElem?_cons_zero, List.getElem?_cons_succ, xLen_string und.string]
  have hgone : ∀ w, Hp w [DiskA d room D, RefB x room R, BlkA y ty.law5_Op (opcell o), InpA W] → xCall P nr.law5_told [] w K := fun w h => told5_hp h fun w' h => hK w' h.tail.tail.tail
  by_cases hn30 : 30 < (o.name.size : Int)
  · simp only [hn30, xs, xb, xd]
    exact hgone w2 h
  simp only [hn30, xs, xb, xd, Nat.zero_add, h.c2, opcell, List.getElem?_cons_zero, List.getElem?_cons_succ, xLen_string und.string]
  by_cases ht30 : 30 < (o.to.size : Int)
  · simp only [ht30, xs, xb, xd]
    exact hgone w2 h
  simp only [ht30, xs, xb, xd, Nat.zero_add, h.c2, opcell, List.getElem?_cons_zero, List.getElem?_cons_succ, hlb]
  by_cases hb60 : 60 < (o.bs.length : Int)
  · simp only [hb60, xs, xb, xd]
    exact hgone w2 h
  simp only [hb60, xs, xb, xd, Nat.zero_add, h.c2, opcell, List.getElem?_cons_zero, List.getElem?_cons_succ]
  have hX' : ∀ d' w' D' R', Hp w' [DiskA d' room D', RefB x room R', InpA W] → Rel D' R' → R'.length ≤ i + 1 → X [ptr d', i64 ((i + 1 : Nat) : Int)] w' := fun d' w' D' R' h hr hl => hX (n - 1) _ _ ⟨i + 1, d', D', R', by omega, rfl, h, hr, hl⟩ (by omega)
  have hDl := hr.length
  have hRm : ∀ r ∈ R, r.2.2 ≤ r.2.1.size ∧ r.2.1.size ≤ 1000000 := by
    obtain ⟨F, hF⟩ : ∃ F, Disk w2 d room D F := h.head
    intro r hrm
    have hm := hr.mem hrm
    have h1 := hF.synced _ (aget_some_mem hm)
    obtain ⟨j, hj, rfl⟩ := List.getElem_of_mem hrm
    have h2 := rused_ge (List.getElem?_eq_getElem hj)
    rw [hr.used] at h2
    have h3 := hF.fits
    exact ⟨h1, by omega⟩
  have huse : aused D ≤ 1000000 := by
    obtain ⟨F, hF⟩ : ∃ F, Disk w2 d room D F := h.head
    have h3 := hF.fits
    omega
  have estr : (o.bs.map bv).length = o.bs.length := by simp
  by_cases k0 : o.kind = 0
  · have h := h.drew
    simp only [k0, xs, xb, xd, Nat.zero_add, h.c2, opcell, List.getElem?_cons_zero, List.getElem?_cons_succ, true_and, bytes_string und.s_uint8 und.uint8 und.string (rd h (by simp))]
    refine Append_hp h (by omega) _ (rd h (by simp)) (by omega) ?_
    intro w3 h
    simp only [xs, xb, xd, Nat.zero_add, h.c2, opcell, List.getElem?_cons_zero, List.getElem?_cons_succ, true_and, k0, bytes_string und.s_uint8 und.uint8 und.string (rd h (by simp))]
    have hu := hr.used
    have hbsz : ((⟨o.bs.toArray⟩ : ByteArray)).size = o.bs.length := by simp [ByteArray.size]
    refine rappend_spec h.pick1 (by omega) (by omega) hroom _ _ (by omega) ?_ ?_ ?_
    · intro hm
      unfold aapp at h ⊢
      simp only [hm] at h ⊢
      exact DiskPlays_j2 h hr (by omega) (by omega) (hX' d)
    · intro hm hf w4 h
      unfold aapp at h ⊢
      rw [hu, hbsz] at hf
      simp only [hm, hf, if_true] at h ⊢
      exact DiskPlays_j2 h.pick1 hr (by omega) (by omega) (hX' d)
    · intro hm hf w4 h
      unfold aapp at h ⊢
      rw [hu, hbsz] at hf
      have hf' : ¬ room < aused D + o.bs.length := by omega
      simp only [hm, hf', if_true, if_false] at h ⊢
      exact DiskPlays_j2 h.pick1 (hr.app _ _) (Nat.le_trans (radd_len _ _ _) (by omega)) (by omega) (hX' d)
  by_cases k1 : o.kind = 1
  · have h := h.drew
    simp only [k0, k1, xs, xb, xd, Nat.zero_add, h.c2, opcell, List.getElem?_cons_zero, List.getElem?_cons_succ, true_and, show ¬ (1 : Int) = 0 by omega]
    refine Sync_hp h _ ?_
    intro w3 h
    simp only [xs, xb, xd, Nat.zero_add, h.c2, opcell, List.getElem?_cons_zero, List.getElem?_cons_succ, true_and, k1]
    obtain ⟨F, hF, fr⟩ := h.pick1.frame1
    refine rsync_spec (show RefAt w3 x room R F from hF) (by omega) _ ?_ ?_
    · intro hn w4 hc
      have h := h.keep' hc
      have hg := hr.none hn
      unfold async at h ⊢
      simp only [hg] at h ⊢
      exact DiskPlays_j2 h hr (by omega) (by omega) (hX' d)
    · intro r hr1 hr2 w4 hR hc
      have h := fr w4 F (RefB x room _) hR hc fun b hb => .inl hb
      obtain ⟨e1, e2⟩ := hr.sync hr1 hr2
      rw [e1]
      exact DiskPlays_j2 h.pick1 e2 (by simp; omega) (by omega) (hX' d)
  by_cases k2 : o.kind = 2
  · have h := h.drew
    simp only [k0, k1, k2, xs, xb, xd, Nat.zero_add, h.c2, opcell, List.getElem?_cons_zero, List.getElem?_cons_succ, true_and, show ¬ (2 : Int) = 0 by omega, show ¬ (2 : Int) = 1 by omega]
    refine Cut_hp h _ _ ?_
    intro w3 h
    simp only [xs, xb, xd, Nat.zero_add, h.c2, opcell, List.getElem?_cons_zero, List.getElem?_cons_succ, true_and, k2]
    obtain ⟨F, hF, fr⟩ := h.pick1.frame1
    refine rcut_spec (show RefAt w3 x room R F from hF) (by omega) _ _ ?_ ?_ ?_
    · intro hn w4 hc
      have h := h.keep' hc
      have hg := hr.none hn
      unfold acut at h ⊢
      simp only [hg] at h ⊢
      exact DiskPlays_j2 h hr (by omega) (by omega) (hX' d)
    · intro r hr1 hr2 hbd w4 hc
      have h := h.keep' hc
      have hg := hr.getAt hr1 hr2
      have hbd' : o.n < 0 ∨ (r.2.1.data.toList.length : Int) < o.n := hbd
      unfold acut at h ⊢
      simp only [hg, hbd', if_true] at h ⊢
      exact DiskPlays_j2 h hr (by omega) (by omega) (hX' d)
    · intro r k hr1 hr2 hk hk2 w4 hR hc
      have h := fr w4 F (RefB x room _) hR hc fun b hb => .inl hb
      obtain ⟨e1, e2⟩ := hr.cut hr1 hr2 hk2
      rw [← hk] at e1 e2
      rw [e1]
      exact DiskPlays_j2 h.pick1 e2 (by simp; omega) (by omega) (hX' d)
  by_cases k3 : o.kind = 3
  · have h := h.drew
    simp only [k0, k1, k2, k3, xs, xb, xd, Nat.zero_add, h.c2, opcell, List.getElem?_cons_zero, List.getElem?_cons_succ, true_and, show ¬ (3 : Int) = 0 by omega, show ¬ (3 : Int) = 1 by omega, show ¬ (3 : Int) = 2 by omega]
    refine Rename_hp h _ _ ?_
    intro w3 h
    simp only [xs, xb, xd, Nat.zero_add, h.c2, opcell, List.getElem?_cons_zero, List.getElem?_cons_succ, true_and, k3]
    refine rrename_spec h.pick1 (by omega) _ _ ?_ ?_ ?_ ?_
    · intro hn w4 h
      have hg := hr.none hn
      unfold aren at h ⊢
      simp only [hg] at h ⊢
      exact DiskPlays_j2 h.pick1 hr (by omega) (by omega) (hX' d)
    · intro hat hm w4 h
      obtain ⟨r, hr1, hr2⟩ := isAt_some hat
      have hg := hr.getAt hr1 hr2
      unfold aren at h ⊢
      simp only [hg, hm] at h ⊢
      exact DiskPlays_j2 h.pick1 hr (by omega) (by omega) (hX' d)
    · intro hat hm hac w4 h
      obtain ⟨r, hr1, hr2⟩ := isAt_some hat
      have hg := hr.getAt hr1 hr2
      unfold aren at h ⊢
      simp only [hg, hm, if_true] at h ⊢
      have e := hr.same hg
      rw [← hac] at h
      exact DiskPlays_j2 h.pick1 e (by omega) (by omega) (hX' d)
    · intro r hr1 hr2 hm hac w4 h
      have hg := hr.getAt hr1 hr2
      unfold aren at h ⊢
      simp only [hg, hm, if_true] at h ⊢
      exact DiskPlays_j2 h.pick1 (hr.ren hr1 hr2) (Nat.le_trans (rren_len _ _ _ _) (by omega)) (by omega) (hX' d)
  by_cases k4 : o.kind = 4
  · have h := h.drew
    simp only [k0, k1, k2, k3, k4, xs, xb, xd, Nat.zero_add, h.c2, opcell, List.getElem?_cons_zero, List.getElem?_cons_succ, true_and, show ¬ (4 : Int) = 0 by omega, show ¬ (4 : Int) = 1 by omega, show ¬ (4 : Int) = 2 by omega, show ¬ (4 : Int) = 3 by omega]
    refine Remove_hp h _ ?_
    intro w3 h
    simp only [xs, xb, xd, Nat.zero_add, h.c2, opcell, List.getElem?_cons_zero, List.getElem?_cons_succ, true_and, k4]
    obtain ⟨e1, e2⟩ := hr.del o.name
    refine rrem_hp h.pick1 (by omega) _ ?_
    intro w4 c hc h
    rw [e1, ← hc]
    exact DiskPlays_j2 h.pick1 e2 (Nat.le_trans (rrem_le _ _) (by omega)) (by omega) (hX' d)
  by_cases k5 : o.kind = 5
  · simp only [k0, k1, k2, k3, k4, k5, xs, xb, xd, Nat.zero_add, h.c2, opcell, List.getElem?_cons_zero, List.getElem?_cons_succ, true_and, show ¬ (5 : Int) = 0 by omega, show ¬ (5 : Int) = 1 by omega, show ¬ (5 : Int) = 2 by omega, show ¬ (5 : Int) = 3 by omega, show ¬ (5 : Int) = 4 by omega]
    refine Crash_hp h (by omega) _ hoo.n ?_
    intro w3 h
    simp only [xs, xb, xd, Nat.zero_add, h.c2, opcell, List.getElem?_cons_zero, List.getElem?_cons_succ, true_and, k5]
    refine rcrash_spec h.pick1 (by omega) hRm _ hoo.n ?_
    intro w4 h
    exact DiskPlays_j2 h.pick1 (hr.crash _) (by simp; omega) (by omega) (hX' d)
  simp only [k0, k1, k2, k3, k4, k5, xs, xb, xd]
  refine Copy_hp h ?_
  intro d2 D2 w3 hp2 h
  simp only [xEq_ptr und.p_disk_Disk, Option.isNone_some, xs, xb, xd]
  refine lit_bytes [103, 111, 110, 101] rfl (by kernel_rfl) (by omega) ?_
  intro v4 w4 hr4 hc4
  have h := h.keep' hc4
  refine Append_hp h.pick1 (by omega) _ hr4 (by simp) ?_
  intro w5 h
  have hl5 : (aapp room D ⟨#[103, 111, 110, 101]⟩ [103, 111, 110, 101]).1.length ≤ 1000000 := by
    have : (aapp room D ⟨#[103, 111, 110, 101]⟩ [103, 111, 110, 101]).1.length ≤ D.length + 1 := by
      unfold aapp
      split
      · split
        · simp
        · simp only [aput_length]; split <;> omega
      · simp
    omega
  refine Crash_hp h hl5 0 (by omega) ?_
  intro w6 h
  exact DiskPlays_j2 h.tail (hr.perm hp2) (by omega) (by omega) (hX' d2)
end
end Go.Proofs.Ytamejkogghpbhaa
