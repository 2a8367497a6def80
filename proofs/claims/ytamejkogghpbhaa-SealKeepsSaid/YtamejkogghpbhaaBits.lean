/- Words of bits. -/
import Derived.Test.YtamejkogghpbhaaSepOps
set_option linter.unusedVariables false
set_option linter.unusedSimpArgs false
namespace Go.Sx
open Go
abbrev u32 (c : BitVec 32) : Value := .int .u32 (c.toNat : Int)
abbrev u64 (c : BitVec 64) : Value := .int .u64 (c.toNat : Int)
theorem wrap_u32_nat (c : BitVec 32) : IntKind.u32.wrap (c.toNat : Int) = c.toNat := wrap_u32 (by omega) (by have := c.isLt; omega)
theorem wrap_u64_nat (c : BitVec 64) : IntKind.u64.wrap (c.toNat : Int) = c.toNat := wrap_u64 (by omega) (by have := c.isLt; omega)
theorem ofInt_u32 (c : BitVec 32) : BitVec.ofInt IntKind.u32.bits (c.toNat : Int) = c := by show BitVec.ofInt 32 (c.toNat : Int) = c; rw [BitVec.ofInt_natCast, BitVec.ofNat_toNat, BitVec.setWidth_eq]
theorem ofInt_u64 (c : BitVec 64) : BitVec.ofInt IntKind.u64.bits (c.toNat : Int) = c := by show BitVec.ofInt 64 (c.toNat : Int) = c; rw [BitVec.ofInt_natCast, BitVec.ofNat_toNat, BitVec.setWidth_eq]
section
variable {P : Program} {w : World} {K : VCont} {t : TypeId}
theorem and_u32 (c d : BitVec 32) : xBin P .and t (u32 c) (u32 d) w K = K (u32 (c &&& d)) w := by rw [xBin_and, ofInt_u32, ofInt_u32]; exact congrArg (fun z => K (.int .u32 z) w) (wrap_u32_nat (c &&& d))
theorem or_u32 (c d : BitVec 32) : xBin P .or t (u32 c) (u32 d) w K = K (u32 (c ||| d)) w := by rw [xBin_or, ofInt_u32, ofInt_u32]; exact congrArg (fun z => K (.int .u32 z) w) (wrap_u32_nat (c ||| d))
theorem xor_u32 (c d : BitVec 32) : xBin P .xor t (u32 c) (u32 d) w K = K (u32 (c ^^^ d)) w := by rw [xBin_xor, ofInt_u32, ofInt_u32]; exact congrArg (fun z => K (.int .u32 z) w) (wrap_u32_nat (c ^^^ d))
theorem shr_u32 (k : IntKind) (c : BitVec 32) (n : Nat) (hn : n ≤ 32) : xBin P .shr t (u32 c) (.int k n) w K = K (u32 (c >>> n)) w := by
  rw [xBin_shr _ _ _ _ _ (by omega)]
  have h1 : min ((n : Int)).toNat IntKind.u32.bits = n := by show min ((n : Int)).toNat 32 = n; omega
  rw [h1]
  have h2 : (c.toNat : Int).fdiv (2 ^ n) = ((c >>> n).toNat : Int) := by
    rw [BitVec.toNat_ushiftRight, Nat.shiftRight_eq_div_pow, Int.fdiv_eq_ediv_of_nonneg _ (by have : (0:Int) < 2 ^ n := Int.pow_pos (by omega); omega)]
    simp
  rw [h2]
theorem shl_u32 (k : IntKind) (c : BitVec 32) (n : Nat) (hn : n ≤ 32) : xBin P .shl t (u32 c) (.int k n) w K = K (u32 (c <<< n)) w := by
  rw [xBin_shl _ _ _ _ _ (by omega)]
  have h1 : min ((n : Int)).toNat IntKind.u32.bits = n := by show min ((n : Int)).toNat 32 = n; omega
  rw [h1]
  have h2 : IntKind.u32.wrap ((c.toNat : Int) * 2 ^ n) = ((c <<< n).toNat : Int) := by
    rw [BitVec.toNat_shiftLeft, Nat.shiftLeft_eq]
    simp [IntKind.wrap, IntKind.bits, IntKind.signed]
  rw [h2]
theorem not_u32 (c : BitVec 32) : xUn P .xor (u32 c) w K = K (u32 (~~~c)) w := by
  refine xp_iff fun w' => ?_
  have h : Op.unary .xor (u32 c) = pure (u32 (~~~c)) := by
    unfold Op.unary
    simp only [Op.intBits, IntKind.signed, IntKind.max, Bool.false_eq_true, if_false]
    have h1 : (BitVec.ofInt IntKind.u32.bits ((2:Int) ^ IntKind.u32.bits - 1) ^^^ BitVec.ofInt IntKind.u32.bits (c.toNat : Int)) = ~~~c := by
      rw [ofInt_u32]
      exact BitVec.allOnes_xor
    rw [h1]
    exact congrArg (fun z => (pure (.int .u32 z) : Sem Value)) (wrap_u32_nat (~~~c))
  rw [h]; rfl
theorem eq_u32 (cx cy : Bool) (c d : BitVec 32) : xEq P .eql t cx cy (u32 c) (u32 d) w K = K (.bool (decide (c = d))) w := by
  rw [xEq_int]
  congr 2
  exact decide_eq_decide.2 ⟨fun h => BitVec.eq_of_toNat_eq (by omega), fun h => by rw [h]⟩
theorem ne_u32 (cx cy : Bool) (c d : BitVec 32) : xEq P .neq t cx cy (u32 c) (u32 d) w K = K (.bool (!decide (c = d))) w := by
  rw [xNe_int]
  congr 3
  exact decide_eq_decide.2 ⟨fun h => BitVec.eq_of_toNat_eq (by omega), fun h => by rw [h]⟩
/-- a byte as a word -/
theorem conv_u8_u32 {s d : TypeId} (hs : P.underlying s = some (.int .u8)) (hd : P.underlying d = some (.int .u32)) (x : UInt8) : xConvK P .pure s d (bv x) w K = K (u32 (x.toBitVec.setWidth 32)) w := by
  unfold bv
  rw [xConv_int s d .u32 .u8 _ hs hd]
  congr 2
  have : x.toNat < 256 := x.toNat_lt
  rw [wrap_u32 (by omega) (by omega)]
  rw [BitVec.toNat_setWidth, UInt8.toNat_toBitVec, Nat.mod_eq_of_lt (by omega)]
/-- a word's low byte -/
theorem conv_u32_u8 {s d : TypeId} (hs : P.underlying s = some (.int .u32)) (hd : P.underlying d = some (.int .u8)) (c : BitVec 32) : xConvK P .pure s d (u32 c) w K = K (bv ⟨c.setWidth 8⟩) w := by
  rw [xConv_int s d .u8 .u32 _ hs hd]
  unfold bv
  congr 2
theorem conv_i64_u8 {s d : TypeId} (hs : P.underlying s = some (.int .i64)) (hd : P.underlying d = some (.int .u8)) (n : Nat) : xConvK P .pure s d (.int .i64 (n : Int)) w K = K (bv (UInt8.ofNat n)) w := by
  rw [xConv_int s d .u8 .i64 _ hs hd]
  unfold bv
  congr 2
theorem conv_u8_i64 {s d : TypeId} (hs : P.underlying s = some (.int .u8)) (hd : P.underlying d = some (.int .i64)) (x : UInt8) : xConvK P .pure s d (bv x) w K = K (.int .i64 (x.toNat : Int)) w := by
  unfold bv
  rw [xConv_int s d .i64 .u8 _ hs hd]
  congr 2
  have : x.toNat < 256 := x.toNat_lt
  rw [wrap_i64 (by omega) (by omega)]
end
end Go.Sx
