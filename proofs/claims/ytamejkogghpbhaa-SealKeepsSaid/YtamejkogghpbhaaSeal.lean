/- A log on a disk: its functions. -/
import Derived.Test.YtamejkogghpbhaaFrame2
import Derived.Test.YtamejkogghpbhaaDiskHp
import Derived.Test.YtamejkogghpbhaaTxtSeal
set_option linter.unusedVariables false
set_option linter.unusedSimpArgs false
namespace Go.Proofs.Ytamejkogghpbhaa
open Go.Sx
abbrev nsnap : ByteArray := ⟨#[115, 110, 97, 112]⟩
abbrev nlog : ByteArray := ⟨#[108, 111, 103]⟩
abbrev nnext : ByteArray := ⟨#[110, 101, 120, 116]⟩
def genf (age : Int) : List UInt8 := frame (vint (zig age))
/-- what a file has; nothing, if there is none -/
def acont (D : Ab) (a : ByteArray) : List UInt8 := ((aget D a).map (·.1)).getD []
/-- what a file keeps -/
inductive Keeps (c : List UInt8) : Int → List (List UInt8) → Nat → Prop where
  | no : unf (c.length + 1) c = [] → Keeps c (-1) [] 0
  | is {a : Int} {rows : List (List UInt8)} : unf (c.length + 1) c = vint (zig a) :: rows → 0 ≤ a → a ≤ 4611686018427387904 → Keeps c a rows (frames (vint (zig a) :: rows)).length
def LogA (p d : Nat) (age : Int) (n : Nat) : Asn := BlkA p ty.seal_Log [ptr d, i64 age, i64 n]
section
variable {w : World} {K : VCont} {l : List Asn} {d room : Nat} {D : Ab}
theorem fits_vint (n : Nat) : fits (vint n) := by have := vint_len n; exact ⟨by omega, by omega⟩
theorem generation_hp (h : Hp w l) (age : Int) (h0 : 0 ≤ age) (h1 : age ≤ 9223372036854775807) (hK : ∀ v w', Hp w' (SlA ty.uint8 1 v (genf age).length ((genf age).map bv) :: l) → K v w') : xCall P nr.seal_generation [i64 age] w K := by
  refine seal_generation_call ?_
  unfold seal_generation_main
  refine Writer_new h ?_
  intro p w1 h
  refine Writer_Int_hp h age h0 h1 (by simp) ?_
  intro w2 h
  rw [List.nil_append] at h
  have hvl := vint_len (zig age)
  refine Writer_Bytes_hp h (by omega) ?_
  intro v w3 h
  refine frame_Put_hp h h.own.rd (by omega) (fun hn => absurd (fits_vint _) hn) ?_
  intro _ v2 w4 h hc
  simp only [xs]
  exact hK v2 w4 (h.pick1.tail.pick1.tail)
theorem aged_hp {v : Value} (h : Hp w l) (a : Int) (h0 : 0 ≤ a) (h1 : a ≤ 4611686018427387904) (hr : Rd w v ((vint (zig a)).map bv)) (hK : ∀ w', Hp w' l → K (i64 a) w') : xCall P nr.seal_aged [v] w K := by
  refine seal_aged_call ?_
  unfold seal_aged_main
  have hvl := vint_len (zig a)
  refine pack_New_hp h hr (by omega) ?_
  intro p w1 h
  refine Reader_Int_hp (rest := []) (by rw [List.append_nil]; exact h) (by rw [List.append_nil]; omega) h0 (by omega) h0 h1 ?_
  intro w2 h
  refine Reader_End_hp h ?_
  simp only [if_true, xs, xb, xd]
  exact hK w2 h.tail
theorem build_kept : xBuild P ty.seal_kept_s_byte [(0, .int .i64 (-1))] w K = K (.agg #[i64 (-1), .slice none 0 0]) w := by
  unfold xBuild
  exact xp_iff fun w' => by kernel_rfl
/-- the end of 'read' -/
theorem seal_read_j0_hp {b4 b10 e : Nat} {age : Int} {v z0 z1 : Value} (h : Hp w (BlkA b10 ty.seal_kept_s_byte [i64 age, v] :: BlkA b4 ty.seal_kept_s_byte [z0, z1] :: l)) (hv : v.oneCell' = true)
    (hK : ∀ w', Hp w' l → K (.tuple #[.agg #[i64 age, v], i64 e]) w') : seal_read_j0 K (ptr b4) (i64 e) (ptr b10) w := by
  unfold seal_read_j0
  rw [xLoadN_blk (n := 2) h rfl]
  refine Hp.stN (n := 2) (new := [i64 age, v]) h.pick1 inf.seal_kept_s_byte rfl rfl rfl (by intro u hu; simp only [List.mem_cons, List.not_mem_nil, or_false] at hu; rcases hu with rfl | rfl; rfl; exact hv) (by simp) ?_
  intro w1 h
  rw [xLoadN_blk (n := 2) (cs := [i64 age, v]) h rfl]
  exact hK w1 h.tail.tail
theorem seal_read_hp (h : Hp w (DiskA d room D :: l)) (a : ByteArray) {age : Int} {rows : List (List UInt8)} {e : Nat} (hk : Keeps (acont D a) age rows e)
    (hK : ∀ v w', Hp w' (RoA (fun w => RdBs w v rows) :: DiskA d room D :: l) → v.oneCell' = true → K (.tuple #[.agg #[i64 age, v], i64 e]) w') : xCall P nr.seal_read [ptr d, .string a] w K := by
  refine seal_read_call ?_
  unfold seal_read_main
  refine Hp.alloc (cs := [i64 0, .slice none 0 0]) h inf.seal_kept_s_byte rfl rfl ?_
  intro b4 w1 h
  have hfit : (acont D a).length ≤ 1000000 := by
    obtain ⟨F, hF⟩ : ∃ F, Disk w1 d room D F := h.pick1.head
    have h1 := hF.fits
    unfold acont
    cases hg : aget D a with
    | none => simp
    | some x =>
      have := aget_some_mem hg
      have h2 : x.1.length ≤ aused D := by
        obtain ⟨D1, D2, rfl⟩ := List.append_of_mem this
        simp only [aused, List.map_append, List.map_cons, List.sum_append, List.sum_cons]
        omega
      simp only [Option.map_some, Option.getD_some]
      omega
  -- what is read, and behind
  have go : ∀ (v : Value) (w2 : World) (q : World → Prop) (code : Int), Hp w2 (RoA q :: BlkA b4 ty.seal_kept_s_byte [i64 0, .slice none 0 0] :: DiskA d room D :: l) → (∀ w, q w → Rd w v ((acont D a).map bv)) →
      (xCall P nr.frame_Read [v] w2 fun t5 w => xExtract t5 0 w fun t6 w => xExtract t5 1 w fun t7 w => xBuild P ty.seal_kept_s_byte [(0, .int .i64 (-1))] w fun t8 w => xAlloc P ty.seal_kept_s_byte w fun t9 w =>
        xStore P ty.seal_kept_s_byte t9 t8 w fun _ w => xLen P .pure #[ty.s_s_uint8] t6 w fun t12 w => xBin P .gtr ty.int t12 (.int .i64 0) w fun t13 w => xIf t13
          (Sx.dr w fun w => xIndexAddr P ty.s_s_uint8 t6 (.int .i64 0) w fun t14 _ => xLoad1 t14 w fun t15 w' => w' = w ∧ xSlice P ty.s_s_uint8 t6 (some (.int .i64 1)) none none w fun t16 _ => xCall P nr.seal_aged [t15] w fun t17 w =>
            xOff (some 0) t9 w fun t18 _ => xStore P ty.int64 t18 t17 w fun _ w => xOff (some 1) t9 w fun t19 _ => xStore P ty.s_s_uint8 t19 t16 w fun _ w => seal_read_j0 K (ptr b4) t7 t9 w)
          (seal_read_j0 K (ptr b4) t7 t9 w)) := by
    intro v w2 q code h hq
    refine frame_Read_hp h hq (by omega) ?_
    intro vr w3 h
    simp only [xs, build_kept]
    refine Hp.alloc (cs := [i64 0, .slice none 0 0]) h inf.seal_kept_s_byte rfl rfl ?_
    intro b9 w4 h
    refine Hp.stN (n := 2) (new := [i64 (-1), .slice none 0 0]) h inf.seal_kept_s_byte rfl rfl rfl (by simp [Value.oneCell']) (by simp) ?_
    intro w5 h
    replace h : Hp w5 (BlkA b9 ty.seal_kept_s_byte [i64 (-1), .slice none 0 0] :: BsA vr (unf ((acont D a).length + 1) (acont D a)) :: RoA q :: BlkA b4 ty.seal_kept_s_byte [i64 0, .slice none 0 0] :: DiskA d room D :: l) := h
    obtain ⟨vs, h⟩ := BsA.op.1 h.pick1
    have h := h.ofSl.roAnd
    have hb := h.ro
    have hvl := hb.2.1
    simp only [rd_len hb.1.rd und.s_s_uint8, xb]
    cases hk with
    | no hu =>
      have hng : ¬ (0 : Int) < (vs.length : Int) := by rw [hvl, hu]; simp
      simp only [hng, xs, xb, xd]
      have hend : frames (unf ((acont D a).length + 1) (acont D a)) = [] := by rw [hu]; rfl
      rw [hend]
      refine seal_read_j0_hp (e := 0) (h.pick3.pick2) rfl ?_
      intro w6 h
      exact hK _ w6 (Hp.roTrue h.tail.tail fun w => ⟨[], ⟨none, 0, rfl, Nat.le_refl _, rfl⟩, RdL.nil w⟩) rfl
    | is hu h0 h1 =>
      have hpos : (0 : Int) < (vs.length : Int) := by rw [hvl, hu]; simp
      have hv0 : vs[0]? = some (vs[0]'(by omega)) := List.getElem?_eq_getElem (by omega)
      obtain ⟨p0, i0, q0⟩ := at_rd' und.s_s_uint8 inf.s_uint8 rfl hb.1.rd hv0
      obtain ⟨v', ex, hv'⟩ := tail_rd (P := P) und.s_s_uint8 inf.s_uint8 rfl hb.1.rd (lo := 1) (by omega)
      have i0' : ∀ (w2 : World) (C : VCont), xIndexAddr P ty.s_s_uint8 vr (.int .i64 0) w2 C = C (.pointer (some p0)) w2 := i0
      have ex' : ∀ (w2 : World) (C : VCont), xSlice P ty.s_s_uint8 vr (some (.int .i64 1)) none none w2 C = C v' w2 := ex
      have hd := h.drew
      simp only [hpos, xs, xb, xd, i0', ex', q0 _ hd.ro.1.rd, true_and]
      have hrd0 := hd.ro.2.2 0 _ (vint (zig age)) hv0 (by rw [hu]; rfl)
      refine aged_hp hd age h0 h1 hrd0 ?_
      intro w6 h
      simp only [xs, Nat.zero_add]
      have hv1 : v'.oneCell' = true := by obtain ⟨_, _, rfl, _⟩ := hv' _ h.ro.1.rd; rfl
      refine Hp.st h.pick1 inf.int64 rfl rfl (by simp) ?_
      intro w7 h
      refine Hp.st h inf.s_s_uint8 rfl hv1 (by simp) ?_
      intro w8 h
      have hend : frames (unf ((acont D a).length + 1) (acont D a)) = frames (vint (zig age) :: rows) := by rw [hu]
      rw [hend]
      refine seal_read_j0_hp (b10 := b9) (age := age) (v := v') (h.pick3.pick1) hv1 ?_
      intro w9 h
      refine hK _ w9 ((h.roMono (q := fun w => RdBs w v' rows) fun w hw => ⟨vs.drop 1, hv' w hw.1.rd, ?_⟩).pick1.tail) hv1
      have := hw.2.drop 1
      rw [hu] at this
      exact this
  cases hg : aget D a with
  | none =>
    refine Read_hp h.pick1 a (fun _ => ?_) (fun x hx => by rw [hg] at hx; cases hx)
    simp only [xs]
    refine go _ w1 (fun w => True) 5 (Hp.roTrue h fun _ => trivial) (fun w _ => ?_)
    have : acont D a = [] := by unfold acont; rw [hg]; rfl
    rw [this]
    exact ⟨none, 0, rfl, Nat.le_refl _, rfl⟩
  | some x =>
    refine Read_hp h.pick1 a (fun e => by rw [hg] at e; cases e) (fun y hy v w2 h => ?_)
    simp only [xs]
    rw [hg] at hy; cases hy
    have : acont D a = x.1 := by unfold acont; rw [hg]; rfl
    exact go v w2 _ 0 (SlA.ro h).pick2.pick1 (fun w hw => by rw [this]; exact hw)
end
end Go.Proofs.Ytamejkogghpbhaa
