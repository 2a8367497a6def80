/- Writers; numbers that are read again. -/
import Derived.Test.YtamejkogghpbhaaVar
set_option linter.unusedVariables false
set_option linter.unusedSimpArgs false
namespace Go.Proofs.Ytamejkogghpbhaa
open Go.Sx
def WrA (p : Nat) (bs : List UInt8) : Asn := ExA fun sv => StarA [BlkA p ty.pack_Writer [sv], SlA ty.uint8 1 sv bs.length (bs.map bv)]
theorem WrA.op {w : World} {l : List Asn} {p : Nat} {bs : List UInt8} : Hp w (WrA p bs :: l) ↔ ∃ sv, Hp w (BlkA p ty.pack_Writer [sv] :: SlA ty.uint8 1 sv bs.length (bs.map bv) :: l) :=
  Hp.ex.trans (exists_congr fun _ => Hp.star2)
section
variable {w : World} {K : VCont} {l : List Asn} {p : Nat} {bs : List UInt8}
/-- one byte more -/
theorem push_u8 {v : Value} {n : Nat} (h : Hp w (SlA ty.uint8 1 v n (bs.map bv) :: l)) (hn : n ≤ 100000000) (x : UInt8) (hK : ∀ v' w', Hp w' (SlA ty.uint8 1 v' (n + 1) ((bs ++ [x]).map bv) :: l) → K v' w') :
    xBuildSlice P ty.s_uint8 1 [(0, bv x)] w fun t w => xBuiltin P .append #[ty.s_uint8, ty.s_uint8] ty.s_uint8 [false, false] [v, t] w K := by
  refine Hp.sl1 (size := 1) und.s_uint8 inf.uint8 rfl (by omega) (by omega) rfl rfl h (cs := [bv x]) rfl rfl ?_
  intro v1 w1 h
  refine Hp.app (size := 1) (bytes := 1) und.s_uint8 inf.uint8 rfl rfl rfl rfl h.pick1 h.own.rdN (by simp [bv, Value.oneCell']) (by omega) (by omega) ?_
  intro v2 w2 h
  refine hK v2 w2 ?_
  have := h.pick1.tail
  rw [List.map_append]
  exact this
theorem Writer_Int_hp (h : Hp w (WrA p bs :: l)) (v : Int) (h0 : 0 ≤ v) (h1 : v ≤ 9223372036854775807) (hl : bs.length ≤ 10000000) (hK : ∀ w', Hp w' (WrA p (bs ++ vint (zig v)) :: l) → K (.tuple #[]) w') : xCall P nr.pack_Writer_Int [ptr p, i64 v] w K := by
  refine pack_Writer_Int_call ?_
  unfold pack_Writer_Int_main
  rw [xEq_ptr und.p_pack_Writer]
  simp only [xs, xd, Option.isNone_some]
  rw [zig_pos und.int64 und.uint64 v h0 h1]
  have hz : zig v < 2 ^ 64 := by unfold zig; rw [if_pos h0]; omega
  refine Lp.gen (fun n s w' => ∃ (m : Nat) (cs : List UInt8), s = [un m] ∧ m < 2 ^ (7 * (n + 1)) ∧ m < 2 ^ 64 ∧ cs ++ vintF n m = bs ++ vint (zig v) ∧ cs.length + n = bs.length + 9 ∧ Hp w' (WrA p cs :: l)) 9 ⟨zig v, bs, rfl, by omega, hz, rfl, rfl, h⟩ ?_
  rintro n s w1 ⟨m, cs, rfl, hm, hm64, he, hc, h⟩ X hX
  obtain ⟨sv, h⟩ := WrA.op.1 h
  unfold pack_Writer_Int_l1
  simp only [List.getD_cons_zero, xs, xb, xd]
  by_cases h128 : (128 : Int) ≤ (m : Int)
  · simp only [h128, xs, xb, xd, Nat.zero_add, h.c0, List.getElem?_cons_zero]
    rw [conv_un_u8 und.uint64 und.uint8]
    have e1 : ∀ (w : World) (K : VCont), xBin P .or ty.uint8 (bv (UInt8.ofNat m)) (.int .u8 128) w K = K (bv (UInt8.ofNat (m % 128 + 128))) w := fun w K => by rw [← u8_or]; exact or_u8 _ 128
    rw [e1]
    refine push_u8 h.pick1 (by omega) _ ?_
    intro v2 w2 h
    refine Hp.st h.pick1 inf.s_uint8 rfl h.own.one (by simp) ?_
    intro w3 h
    have e2 : ∀ (w : World) (K : VCont), xBin P .shr ty.uint64 (un m) (.int .u64 7) w K = K (un (m / 128)) w := fun w K => shr_un .u64 m 7 (by omega)
    rw [e2]
    cases n with
    | zero => omega
    | succ n =>
      refine hX n _ _ ⟨m / 128, cs ++ [UInt8.ofNat (m % 128 + 128)], rfl, ?_, by omega, ?_, by simp; omega, WrA.op.2 ⟨v2, ?_⟩⟩ (by omega)
      · rw [Nat.div_lt_iff_lt_mul (by omega)]
        have : 2 ^ (7 * (n + 1 + 1)) = 2 ^ (7 * (n + 1)) * 128 := by rw [show 7 * (n + 1 + 1) = 7 * (n + 1) + 7 by omega, Nat.pow_add]
        omega
      · rw [← he]
        unfold vintF
        rw [if_neg (by omega)]
        cases n <;> simp [vintF]
      · simpa using h
  · simp only [h128, xs, xb, xd]
    unfold pack_Writer_Int_j0
    simp only [xs, xb, xd, Nat.zero_add, h.c0, List.getElem?_cons_zero]
    rw [conv_un_u8 und.uint64 und.uint8]
    refine push_u8 h.pick1 (by omega) _ ?_
    intro v2 w2 h
    refine Hp.st h.pick1 inf.s_uint8 rfl h.own.one (by simp) ?_
    intro w3 h
    refine hK w3 (WrA.op.2 ⟨v2, ?_⟩)
    rw [← he, vintF_small (by omega)]
    simpa using h
theorem Writer_Bytes_hp (h : Hp w (WrA p bs :: l)) (hl : bs.length ≤ 10000000) (hK : ∀ v w', Hp w' (SlA ty.uint8 1 v bs.length (bs.map bv) :: WrA p bs :: l) → K v w') : xCall P nr.pack_Writer_Bytes [ptr p] w K := by
  refine pack_Writer_Bytes_call ?_
  unfold pack_Writer_Bytes_main
  rw [xEq_ptr und.p_pack_Writer]
  simp only [xs, xd, Option.isNone_some]
  refine Hp.sl0 (size := 1) und.s_uint8 inf.uint8 rfl h ?_
  intro v1 w1 h
  obtain ⟨sv, h⟩ := WrA.op.1 h.pick1
  simp only [xs, Nat.zero_add, h.c0, List.getElem?_cons_zero]
  refine Hp.app (size := 1) (bytes := 1) und.s_uint8 inf.uint8 rfl rfl rfl rfl h.pick2 h.pick1.own.rdN (bv_one _) (by omega) (by omega) ?_
  intro v2 w2 h
  refine hK v2 w2 (Hp.pick1 (WrA.op.2 ⟨sv, ?_⟩))
  simpa using h.put2
/-- a new writer -/
theorem Writer_new (h : Hp w l) (hK : ∀ p w', Hp w' (WrA p [] :: l) → K (ptr p) w') : xAlloc P ty.pack_Writer w K := by
  refine Hp.alloc (cs := [.slice none 0 0]) h inf.pack_Writer rfl rfl ?_
  intro p w1 h
  refine hK p w1 (WrA.op.2 ⟨.slice none 0 0, ?_⟩)
  exact (h.new (A := SlA ty.uint8 1 (.slice none 0 0) 0 []) (F := fun _ => False) ⟨Own.nil _ _ _, fun b => by simp [Value.ownBlock]⟩ (fun _ h => h.elim) (Chg.refl _ _)).pick1
end
end Go.Proofs.Ytamejkogghpbhaa
