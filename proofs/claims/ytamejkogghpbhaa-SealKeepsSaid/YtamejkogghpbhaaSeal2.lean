/- A log on a disk: Open, Put, Sync, Save, Len. -/
import Derived.Test.YtamejkogghpbhaaSeal
set_option linter.unusedVariables false
set_option linter.unusedSimpArgs false
namespace Go.Proofs.Ytamejkogghpbhaa
open Go.Sx
def lopen (D : Ab) (er : Nat) : Ab := (acut (adel D nnext).1 nlog er).1
def lapp (room : Nat) (D : Ab) (age : Int) (b : List UInt8) : Ab × Int := aapp room D nlog (if acont D nlog = [] then genf age ++ frame b else frame b)
def lsave (room : Nat) (D : Ab) (age : Int) (S : List (List UInt8)) : Ab × Int :=
  let D2 := aapp room (adel D nnext).1 nnext (genf (age + 1) ++ frames S)
  if D2.2 = 0 then ((acut (aren (async D2.1 nnext).1 nnext nsnap).1 nlog 0).1, 0) else ((adel D2.1 nnext).1, D2.2)
theorem adel_len (D : Ab) (a : ByteArray) : (adel D a).1.length ≤ D.length := by
  unfold adel; split
  · exact Nat.le_refl _
  · unfold arem; exact List.length_filter_le _ _
theorem async_len (D : Ab) (a : ByteArray) : (async D a).1.length = D.length := by
  unfold async; split <;> simp [aset_length]
theorem acut_len (D : Ab) (a : ByteArray) (n : Int) : (acut D a n).1.length = D.length := by
  unfold acut; split
  · rfl
  · split <;> simp [aset_length]
theorem aapp_len (room : Nat) (D : Ab) (a : ByteArray) (b : List UInt8) : (aapp room D a b).1.length ≤ D.length + 1 := by
  unfold aapp
  split
  · split
    · simp
    · simp only [aput_length]; split <;> omega
  · simp
theorem aren_len (D : Ab) (a c : ByteArray) : (aren D a c).1.length ≤ D.length + 1 := by
  unfold aren
  split
  · simp
  · split
    · simp only [aput_length]
      have : (arem D a).length ≤ D.length := by unfold arem; exact List.length_filter_le _ _
      split <;> omega
    · simp
theorem acont_adel (D : Ab) (a b : ByteArray) (h : a ≠ b) : acont (adel D a).1 b = acont D b := by
  unfold adel acont
  split
  · rfl
  · rw [aget_arem, if_neg h]
theorem keeps_fits {c : List UInt8} {a : Int} {r : List (List UInt8)} {e : Nat} (h : Keeps c a r e) : -1 ≤ a ∧ a ≤ 4611686018427387904 ∧ (e = 0 ↔ a = -1) ∧ (a = -1 → r = []) := by
  cases h with
  | no h => exact ⟨by omega, by omega, by simp, fun _ => rfl⟩
  | is h h0 h1 =>
    refine ⟨by omega, h1, ?_, fun e => by omega⟩
    rw [frames_cons, List.length_append, frame_len]
    constructor <;> intro _ <;> omega
section
variable {w : World} {K : VCont} {l : List Asn} {d room p n : Nat} {D : Ab} {age : Int}
theorem build_Log (a b : Value) (ha : ∃ x, a = .pointer x) (hb : ∃ x, b = .int .i64 x) : xBuild P ty.seal_Log [(0, a), (1, b)] w K = K (.agg #[a, b, i64 0]) w := by
  obtain ⟨x, rfl⟩ := ha
  obtain ⟨y, rfl⟩ := hb
  unfold xBuild
  exact xp_iff fun w' => by kernel_rfl
/-- the end of Open -/
theorem seal_Open_j0_hp {b6 b9 e : Nat} {a1 a2 : Int} {vs vr : Value} {R : List (List UInt8)} (h : Hp w (BlkA p ty.seal_Log [ptr d, i64 age, i64 0] :: BlkA b9 ty.seal_kept_s_byte [i64 a2, vr] :: BlkA b6 ty.seal_kept_s_byte [i64 a1, vs] :: DiskA d room D :: l))
    (hlen : ∀ (w : World) (K : VCont), xLen P .pure #[ty.s_s_uint8] vr w K = K (i64 R.length) w) (hR : R.length ≤ 1000000000)
    (hK : ∀ w', Hp w' (LogA p d age R.length :: DiskA d room (acut D nlog e).1 :: l) → K (.tuple #[ptr p, vs, vr, i64 0]) w') : seal_Open_j0 K (ptr d) (ptr b6) (ptr p) (ptr b9) (i64 e) w := by
  unfold seal_Open_j0
  refine Cut_hp h.pick3 _ _ ?_
  intro w1 h
  simp only [xs, Nat.zero_add, h.c2, List.getElem?_cons_zero, List.getElem?_cons_succ, hlen]
  refine Hp.st h.pick1 inf.int rfl rfl (by simp) ?_
  intro w2 h
  have h := h.drew
  simp only [xs, Nat.zero_add, h.c2, h.c3, List.getElem?_cons_zero, List.getElem?_cons_succ, true_and]
  exact hK _ (h.pick3.tail.pick2.tail)
theorem seal_Open_hp (h : Hp w (DiskA d room D :: l)) {a1 a2 : Int} {S R : List (List UInt8)} {es er : Nat} (hs : Keeps (acont D nsnap) a1 S es) (hr : Keeps (acont D nlog) a2 R er) (hR : R.length ≤ 1000000000)
    (hK : ∀ p vs vr w' R' e', (R', e') = (if a2 = -1 ∨ a2 = max a1 0 then (R, er) else ([], 0)) → Hp w' (LogA p d (max a1 0) R'.length :: RoA (fun w => RdBs w vs S) :: RoA (fun w => RdBs w vr R') :: DiskA d room (lopen D e') :: l) → K (.tuple #[ptr p, vs, vr, i64 0]) w') :
    xCall P nr.seal_Open [ptr d] w K := by
  refine seal_Open_call ?_
  unfold seal_Open_main
  rw [xEq_ptr und.p_disk_Disk]
  simp only [xs, xd, Option.isNone_some]
  obtain ⟨f1, f2, f3, f4⟩ := keeps_fits hs
  obtain ⟨g1, g2, g3, g4⟩ := keeps_fits hr
  refine Remove_hp h _ ?_
  intro w1 h
  refine seal_read_hp h nsnap (by rw [acont_adel _ _ _ (by decide)]; exact hs) ?_
  intro vs w2 h hvs
  simp only [xs]
  refine Hp.alloc (cs := [i64 0, .slice none 0 0]) h inf.seal_kept_s_byte rfl rfl ?_
  intro b6 w3 h
  refine Hp.stN (n := 2) (new := [i64 a1, vs]) h inf.seal_kept_s_byte rfl rfl rfl (by intro u hu; simp only [List.mem_cons, List.not_mem_nil, or_false] at hu; rcases hu with rfl | rfl; rfl; exact hvs) (by simp) ?_
  intro w4 h
  replace h : Hp w4 (BlkA b6 ty.seal_kept_s_byte [i64 a1, vs] :: RoA (fun w => RdBs w vs S) :: DiskA d room (adel D nnext).1 :: l) := h
  simp only [xs, xb, Nat.zero_add, h.c0, List.getElem?_cons_zero, List.getElem?_cons_succ]
  rw [build_Log _ _ ⟨_, rfl⟩ ⟨_, rfl⟩]
  refine Hp.box h (cs := [ptr d, i64 (max a1 0), i64 0]) rfl ?_
  intro p w5 h
  refine seal_read_hp h.pick3 nlog (by rw [acont_adel _ _ _ (by decide)]; exact hr) ?_
  intro vr w6 h hvr
  simp only [xs]
  refine Hp.alloc (cs := [i64 0, .slice none 0 0]) h inf.seal_kept_s_byte rfl rfl ?_
  intro b9 w7 h
  refine Hp.stN (n := 2) (new := [i64 a2, vr]) h inf.seal_kept_s_byte rfl rfl rfl (by intro u hu; simp only [List.mem_cons, List.not_mem_nil, or_false] at hu; rcases hu with rfl | rfl; rfl; exact hvr) (by simp) ?_
  intro w8 h
  replace h : Hp w8 (BlkA b9 ty.seal_kept_s_byte [i64 a2, vr] :: RoA (fun w => RdBs w vr R) :: DiskA d room (adel D nnext).1 :: BlkA p ty.seal_Log [ptr d, i64 (max a1 0), i64 0] :: BlkA b6 ty.seal_kept_s_byte [i64 a1, vs] :: RoA (fun w => RdBs w vs S) :: l) := h
  have h := h.drew
  simp only [xs, xb]
  -- in order: p, b9, b6, disk, ro vr, ro vs
  have ord : ∀ {w : World} {v : Value}, Hp w (BlkA b9 ty.seal_kept_s_byte [i64 a2, v] :: RoA (fun w => RdBs w vr R) :: DiskA d room (adel D nnext).1 :: BlkA p ty.seal_Log [ptr d, i64 (max a1 0), i64 0] :: BlkA b6 ty.seal_kept_s_byte [i64 a1, vs] :: RoA (fun w => RdBs w vs S) :: l) →
      Hp w (BlkA p ty.seal_Log [ptr d, i64 (max a1 0), i64 0] :: BlkA b9 ty.seal_kept_s_byte [i64 a2, v] :: BlkA b6 ty.seal_kept_s_byte [i64 a1, vs] :: DiskA d room (adel D nnext).1 :: RoA (fun w => RdBs w vr R) :: RoA (fun w => RdBs w vs S) :: l) :=
    fun h => h.pick1.pick2.pick4.pick3.pick4
  have fin : ∀ (v : Value) (R' : List (List UInt8)) (e' : Nat) (w : World), (R', e') = (if a2 = -1 ∨ a2 = max a1 0 then (R, er) else ([], 0)) → (v = vr ∧ R' = R ∨ v = .slice none 0 0 ∧ R' = []) →
      Hp w (BlkA b9 ty.seal_kept_s_byte [i64 a2, v] :: RoA (fun w => RdBs w vr R) :: DiskA d room (adel D nnext).1 :: BlkA p ty.seal_Log [ptr d, i64 (max a1 0), i64 0] :: BlkA b6 ty.seal_kept_s_byte [i64 a1, vs] :: RoA (fun w => RdBs w vs S) :: l) →
      seal_Open_j0 K (ptr d) (ptr b6) (ptr p) (ptr b9) (i64 e') w := by
    intro v R' e' w he hv h
    have h1 := ord h
    have hrd : RdBs w v R' := by
      rcases hv with ⟨rfl, rfl⟩ | ⟨rfl, rfl⟩
      · exact h1.pick4.ro
      · exact ⟨[], ⟨none, 0, rfl, Nat.le_refl _, rfl⟩, RdL.nil w⟩
    have hR' : R'.length ≤ 1000000000 := by rcases hv with ⟨_, rfl⟩ | ⟨_, rfl⟩ <;> simp [hR]
    refine seal_Open_j0_hp (R := R') h1 (fun w K => hrd.len und.s_s_uint8 w K) hR' ?_
    intro w2 h
    refine hK p vs v w2 R' e' he ?_
    -- log, disk, ro vr, ro vs, l
    have h2 : Hp w2 (RoA (fun w => RdBs w v R') :: LogA p d (max a1 0) R'.length :: DiskA d room (acut (adel D nnext).1 nlog e').1 :: RoA (fun w => RdBs w vs S) :: l) := by
      rcases hv with ⟨rfl, rfl⟩ | ⟨rfl, rfl⟩
      · exact h.pick2
      · exact Hp.roTrue h.pick2.tail fun w => ⟨[], ⟨none, 0, rfl, Nat.le_refl _, rfl⟩, RdL.nil w⟩
    exact h2.pick3.pick2
  by_cases he : (0 : Int) < (er : Int)
  · have hne : a2 ≠ -1 := fun e => by have := g3.2 e; omega
    simp only [he, xs, xb, xd, Nat.zero_add, h.c0, h.c3, List.getElem?_cons_zero, List.getElem?_cons_succ, true_and]
    by_cases ha : a2 = max a1 0
    · simp only [ha, xs, xb, xd]
      exact fin vr R er _ (by rw [if_pos (.inr ha)]) (.inl ⟨rfl, rfl⟩) (ha ▸ h)
    · simp only [ha, xs, xb, xd]
      refine Hp.st h inf.s_s_uint8 rfl rfl (by simp) ?_
      intro w9 h
      exact fin (.slice none 0 0) [] 0 _ (by rw [if_neg (by simp [hne, ha])]) (.inr ⟨rfl, rfl⟩) h
  · have hne : a2 = -1 := g3.1 (by omega)
    simp only [he, xs, xb, xd, true_and]
    exact fin vr R er _ (by rw [if_pos (.inl hne)]) (.inl ⟨rfl, rfl⟩) h
theorem seal_Sync_hp (h : Hp w (LogA p d age n :: DiskA d room D :: l)) (hK : ∀ w', Hp w' (LogA p d age n :: DiskA d room (async D nlog).1 :: l) → K (i64 0) w') : xCall P nr.seal_Log_Sync [ptr p] w K := by
  refine seal_Log_Sync_call ?_
  unfold seal_Log_Sync_main
  have hb : Hp w (BlkA p ty.seal_Log [ptr d, i64 age, i64 n] :: DiskA d room D :: l) := h
  rw [xEq_ptr und.p_seal_Log]
  simp only [xs, xd, Option.isNone_some, Nat.zero_add, hb.c0, List.getElem?_cons_zero]
  refine Sync_hp h.pick1 _ ?_
  intro w1 h
  exact hK w1 h.pick1
theorem seal_Len_hp (h : Hp w (LogA p d age n :: l)) (hK : K (i64 n) w) : xCall P nr.seal_Log_Len [ptr p] w K := by
  refine seal_Log_Len_call ?_
  unfold seal_Log_Len_main
  have hb : Hp w (BlkA p ty.seal_Log [ptr d, i64 age, i64 n] :: l) := h
  rw [xEq_ptr und.p_seal_Log]
  simp only [xs, xd, Option.isNone_some, Nat.zero_add, hb.c0, List.getElem?_cons_zero, List.getElem?_cons_succ]
  exact hK
end
end Go.Proofs.Ytamejkogghpbhaa
