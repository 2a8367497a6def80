/- The sum of bytes. -/
import Derived.Test.YtamejkogghpbhaaBits
import Derived.Test.YtamejkogghpbhaaTxtPack
import Derived.Test.YtamejkogghpbhaaDisk
set_option linter.unusedVariables false
set_option linter.unusedSimpArgs false
namespace Go.Proofs.Ytamejkogghpbhaa
open Go.Sx
def crcBit (c : BitVec 32) : BitVec 32 := if c &&& 1#32 = 1#32 then (c >>> 1) ^^^ 3988292384#32 else c >>> 1
def crcN : Nat → BitVec 32 → BitVec 32
  | 0, c => c
  | n + 1, c => crcBit (crcN n c)
def crcByte (c : BitVec 32) (x : UInt8) : BitVec 32 := crcN 8 (c ^^^ x.toBitVec.setWidth 32)
def crc (b : List UInt8) : BitVec 32 := ~~~ (b.foldl crcByte 4294967295#32)
section
variable {w : World} {K : VCont}
theorem rd_len {v : Value} {xs : List Value} (h : Rd w v xs) {t e : TypeId} (ht : P.underlying t = some (.slice e)) (w' : World) (K : VCont) : xLen P .pure #[t] v w' K = K (i64 xs.length) w' := by
  obtain ⟨a, cap, rfl, _, _⟩ := h
  rw [xLen_slice ht]
theorem pack_Sum_spec {v : Value} {b : List UInt8} (h : Rd w v (b.map bv)) (hl : b.length ≤ 1000000000) (hK : K (u32 (crc b)) w) : xCall P nr.pack_Sum [v] w K := by
  refine pack_Sum_call ?_
  unfold pack_Sum_main
  rw [rd_len h und.s_uint8]
  refine Lp.gen (fun n s w' => w' = w ∧ ∃ i : Nat, n + i = b.length ∧ s = [u32 ((b.take i).foldl crcByte 4294967295#32), i64 i]) b.length ⟨rfl, 0, by omega, rfl⟩ ?_
  rintro n s w' ⟨rfl, i, hni, rfl⟩ X hX
  unfold pack_Sum_l1
  simp only [List.getD_cons_zero, List.getD_cons_succ, xs, xb, xd, List.length_map]
  by_cases hlt : i < b.length
  · have hlt' : (i : Int) < (b.length : Int) := by omega
    simp only [hlt', xs, xb, xd]
    rw [index_rd und.s_uint8 inf.uint8 rfl h (x := bv b[i]) (by simp [hlt]) (fun _ h => h)]
    rw [conv_u8_u32 und.uint8 und.uint32, xor_u32]
    refine Lp.gen (fun m s w'' => w'' = w' ∧ ∃ k : Nat, m + k = 8 ∧ s = [u32 (crcN k ((b.take i).foldl crcByte 4294967295#32 ^^^ b[i].toBitVec.setWidth 32)), i64 k]) 8 ⟨rfl, 0, by omega, rfl⟩ ?_
    rintro m s w'' ⟨rfl, k, hmk, rfl⟩ Y hY
    unfold pack_Sum_l3
    simp only [List.getD_cons_zero, List.getD_cons_succ, xs, xb, xd]
    by_cases hk : k < 8
    · have hk' : (k : Int) < 8 := by omega
      simp only [hk', xs, xb, xd]
      generalize hcd : crcN k ((b.take i).foldl crcByte 4294967295#32 ^^^ b[i].toBitVec.setWidth 32) = c
      have a1 : ∀ (w : World) (K : VCont), xBin P .and ty.uint32 (u32 c) (.int .u32 1) w K = K (u32 (c &&& 1#32)) w := fun w K => and_u32 c 1#32
      have s1 : ∀ (w : World) (K : VCont), xBin P .shr ty.uint32 (u32 c) (.int .u64 1) w K = K (u32 (c >>> 1)) w := fun w K => shr_u32 .u64 c 1 (by omega)
      have e1 : ∀ (w : World) (K : VCont), xEq P .eql ty.uint32 false true (u32 (c &&& 1#32)) (.int .u32 1) w K = K (.bool (decide (c &&& 1#32 = 1#32))) w := fun w K => eq_u32 false true (c &&& 1#32) 1#32
      have x1 : ∀ (w : World) (K : VCont), xBin P .xor ty.uint32 (u32 (c >>> 1)) (.int .u32 3988292384) w K = K (u32 ((c >>> 1) ^^^ 3988292384#32)) w := fun w K => xor_u32 (c >>> 1) 3988292384#32
      rw [a1, s1, e1]
      have hk1 : IntKind.i64.wrap ((k : Int) + 1) = ((k + 1 : Nat) : Int) := by rw [wrap_i64 (by omega) (by omega)]; omega
      by_cases hc : c &&& 1#32 = 1#32
      · simp only [hc, xs, xd]
        rw [x1]
        unfold pack_Sum_j4
        simp only [xb, hk1]
        refine hY (m - 1) _ _ ⟨rfl, k + 1, by omega, ?_⟩ (by omega)
        show _ = [u32 (crcBit (crcN k _)), _]
        rw [hcd]
        unfold crcBit
        rw [if_pos hc]
      · simp only [hc, xs, xd]
        unfold pack_Sum_j4
        simp only [xb, hk1]
        refine hY (m - 1) _ _ ⟨rfl, k + 1, by omega, ?_⟩ (by omega)
        show _ = [u32 (crcBit (crcN k _)), _]
        rw [hcd]
        unfold crcBit
        rw [if_neg hc]
    · have hk' : ¬ (k : Int) < 8 := by omega
      simp only [hk', xs, xb, xd]
      unfold pack_Sum_j2
      simp only [xs, xb, xd]
      rw [wrap_i64 (by omega) (by omega)]
      refine hX (n - 1) _ _ ⟨rfl, i + 1, by omega, ?_⟩ (by omega)
      have e : (b.take (i + 1)).foldl crcByte 4294967295#32 = crcByte ((b.take i).foldl crcByte 4294967295#32) b[i] := by
        rw [List.take_add_one, List.getElem?_eq_getElem hlt]
        simp only [Option.toList_some, List.foldl_append, List.foldl_cons, List.foldl_nil]
      have : k = 8 := by omega
      subst this
      rw [e]
      rfl
  · have hlt' : ¬ (i : Int) < (b.length : Int) := by omega
    simp only [hlt', xs, xb, xd]
    unfold pack_Sum_j0
    rw [not_u32, List.take_of_length_le (by omega)]
    exact hK
end
end Go.Proofs.Ytamejkogghpbhaa
