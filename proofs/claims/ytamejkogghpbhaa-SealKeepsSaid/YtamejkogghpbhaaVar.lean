/- Numbers as groups of seven bits: the pure side. -/
import Derived.Test.YtamejkogghpbhaaCrc
import Derived.Test.YtamejkogghpbhaaSepMore
set_option linter.unusedVariables false
set_option linter.unusedSimpArgs false
namespace Go.Proofs.Ytamejkogghpbhaa
open Go.Sx
def vintF : Nat → Nat → List UInt8
  | 0, n => [UInt8.ofNat n]
  | k + 1, n => if n < 128 then [UInt8.ofNat n] else UInt8.ofNat (n % 128 + 128) :: vintF k (n / 128)
def vint (n : Nat) : List UInt8 := vintF 9 n
def zig (v : Int) : Nat := if 0 ≤ v then (2 * v).toNat else (-2 * v - 1).toNat
theorem vintF_len : ∀ (k n : Nat), 1 ≤ (vintF k n).length ∧ (vintF k n).length ≤ k + 1
  | 0, n => by simp [vintF]
  | k + 1, n => by
    unfold vintF
    split
    · simp
    · have := vintF_len k (n / 128)
      simp only [List.length_cons]; omega
theorem vint_len (n : Nat) : 1 ≤ (vint n).length ∧ (vint n).length ≤ 10 := vintF_len 9 n
theorem vintF_small {k n : Nat} (h : n < 128) : vintF k n = [UInt8.ofNat n] := by
  cases k <;> simp [vintF, h]
theorem u8_or (n : Nat) : UInt8.ofNat n ||| 128 = UInt8.ofNat (n % 128 + 128) := by
  have h : ∀ x : Fin 256, UInt8.ofNat x.val ||| 128 = UInt8.ofNat (x.val % 128 + 128) := by decide +kernel
  have h1 := h ⟨n % 256, Nat.mod_lt _ (by omega)⟩
  have e1 : UInt8.ofNat (n % 256) = UInt8.ofNat n := by
    apply UInt8.toNat_inj.1; simp
  simp only at h1
  rw [e1] at h1
  rw [h1]
  congr 2
  omega
theorem u8_and (n : Nat) (h : n < 256) : (UInt8.ofNat n &&& 127) = UInt8.ofNat (n % 128) := by
  have h : ∀ x : Fin 256, UInt8.ofNat x.val &&& 127 = UInt8.ofNat (x.val % 128) := by decide +kernel
  exact h ⟨n, by omega⟩
/-! operations on numbers below 2^64 -/
section
variable {P : Program} {w : World} {K : VCont} {t : TypeId}
abbrev un (n : Nat) : Value := .int .u64 (n : Int)
theorem or_un (a b : Nat) (ha : a < 2 ^ 64) (hb : b < 2 ^ 64) : xBin P .or t (un a) (un b) w K = K (un (a ||| b)) w := by
  rw [xBin_or]
  have h : ((BitVec.ofInt IntKind.u64.bits (a : Int) ||| BitVec.ofInt IntKind.u64.bits (b : Int)).toNat : Nat) = a ||| b := by
    show (BitVec.ofInt 64 (a : Int) ||| BitVec.ofInt 64 (b : Int)).toNat = a ||| b
    rw [BitVec.ofInt_natCast, BitVec.ofInt_natCast, BitVec.toNat_or, BitVec.toNat_ofNat, BitVec.toNat_ofNat, Nat.mod_eq_of_lt ha, Nat.mod_eq_of_lt hb]
  rw [h, wrap_u64 (by omega) (by have := Nat.or_lt_two_pow ha hb; omega)]
theorem and1_un (a : Nat) (ha : a < 2 ^ 64) : xBin P .and t (un a) (.int .u64 1) w K = K (un (a % 2)) w := by
  rw [xBin_and]
  have h : ((BitVec.ofInt IntKind.u64.bits (a : Int) &&& BitVec.ofInt IntKind.u64.bits (1 : Int)).toNat : Nat) = a % 2 := by
    show (BitVec.ofInt 64 (a : Int) &&& BitVec.ofInt 64 ((1 : Nat) : Int)).toNat = a % 2
    rw [BitVec.ofInt_natCast, BitVec.ofInt_natCast, BitVec.toNat_and, BitVec.toNat_ofNat, BitVec.toNat_ofNat, Nat.mod_eq_of_lt ha]
    exact Nat.and_two_pow_sub_one_eq_mod a 1
  rw [h, wrap_u64 (by omega) (by omega)]
theorem shr_un (k : IntKind) (a : Nat) (n : Nat) (hn : n ≤ 64) : xBin P .shr t (un a) (.int k n) w K = K (un (a / 2 ^ n)) w := by
  rw [xBin_shr _ _ _ _ _ (by omega)]
  have h1 : min ((n : Int)).toNat IntKind.u64.bits = n := by show min ((n : Int)).toNat 64 = n; omega
  rw [h1]
  have h2 : (a : Int).fdiv (2 ^ n) = ((a / 2 ^ n : Nat) : Int) := by
    rw [Int.fdiv_eq_ediv_of_nonneg _ (by have : (0:Int) < 2 ^ n := Int.pow_pos (by omega); omega)]
    simp
  rw [h2]
theorem shl_un (k : IntKind) (a : Nat) (n : Nat) (hn : n ≤ 64) (h : a * 2 ^ n < 2 ^ 64) : xBin P .shl t (un a) (.int k n) w K = K (un (a <<< n)) w := by
  rw [xBin_shl _ _ _ _ _ (by omega)]
  have h1 : min ((n : Int)).toNat IntKind.u64.bits = n := by show min ((n : Int)).toNat 64 = n; omega
  rw [h1, Nat.shiftLeft_eq]
  have h2 : (a : Int) * 2 ^ n = ((a * 2 ^ n : Nat) : Int) := by simp
  rw [h2, wrap_u64 (by omega) (by omega)]
theorem conv_un_u8 {s d : TypeId} (hs : P.underlying s = some (.int .u64)) (hd : P.underlying d = some (.int .u8)) (n : Nat) : xConvK P .pure s d (un n) w K = K (bv (UInt8.ofNat n)) w := by
  rw [xConv_int s d .u8 .u64 _ hs hd]
  unfold bv
  congr 2
theorem conv_u8_un {s d : TypeId} (hs : P.underlying s = some (.int .u8)) (hd : P.underlying d = some (.int .u64)) (x : UInt8) : xConvK P .pure s d (bv x) w K = K (un x.toNat) w := by
  unfold bv
  rw [xConv_int s d .u64 .u8 _ hs hd]
  have : x.toNat < 256 := x.toNat_lt
  rw [wrap_u64 (by omega) (by omega)]
theorem or_u8 (x y : UInt8) : xBin P .or t (bv x) (bv y) w K = K (bv (x ||| y)) w := by
  unfold bv
  rw [xBin_or]
  have h : ((BitVec.ofInt IntKind.u8.bits (x.toNat : Int) ||| BitVec.ofInt IntKind.u8.bits (y.toNat : Int)).toNat : Nat) = (x ||| y).toNat := by
    show (BitVec.ofInt 8 (x.toNat : Int) ||| BitVec.ofInt 8 (y.toNat : Int)).toNat = (x ||| y).toNat
    have hx : x.toNat < 256 := x.toNat_lt
    have hy : y.toNat < 256 := y.toNat_lt
    rw [BitVec.ofInt_natCast, BitVec.ofInt_natCast, BitVec.toNat_or, BitVec.toNat_ofNat, BitVec.toNat_ofNat, Nat.mod_eq_of_lt (by omega), Nat.mod_eq_of_lt (by omega), UInt8.toNat_or]
  have : (x ||| y).toNat < 256 := (x ||| y).toNat_lt
  rw [h, wrap_u8 (by omega) (by omega)]
theorem and_u8 (x y : UInt8) : xBin P .and t (bv x) (bv y) w K = K (bv (x &&& y)) w := by
  unfold bv
  rw [xBin_and]
  have h : ((BitVec.ofInt IntKind.u8.bits (x.toNat : Int) &&& BitVec.ofInt IntKind.u8.bits (y.toNat : Int)).toNat : Nat) = (x &&& y).toNat := by
    show (BitVec.ofInt 8 (x.toNat : Int) &&& BitVec.ofInt 8 (y.toNat : Int)).toNat = (x &&& y).toNat
    have hx : x.toNat < 256 := x.toNat_lt
    have hy : y.toNat < 256 := y.toNat_lt
    rw [BitVec.ofInt_natCast, BitVec.ofInt_natCast, BitVec.toNat_and, BitVec.toNat_ofNat, BitVec.toNat_ofNat, Nat.mod_eq_of_lt (by omega), Nat.mod_eq_of_lt (by omega), UInt8.toNat_and]
  have : (x &&& y).toNat < 256 := (x &&& y).toNat_lt
  rw [h, wrap_u8 (by omega) (by omega)]
/-- uint64(v)<<1 ^ uint64(v>>63), of v that is no less than nothing -/
theorem zig_pos {ti64 tu64 : TypeId} (hs : P.underlying ti64 = some (.int .i64)) (hd : P.underlying tu64 = some (.int .u64)) (v : Int) (h0 : 0 ≤ v) (h1 : v ≤ 9223372036854775807) :
    (xConvK P .pure ti64 tu64 (.int .i64 v) w fun t2 w => xBin P .shl tu64 t2 (.int .u64 1) w fun t3 w => xBin P .shr ti64 (.int .i64 v) (.int .u64 63) w fun t4 w => xConvK P .pure ti64 tu64 t4 w fun t5 w => xBin P .xor tu64 t3 t5 w K) = K (un (zig v)) w := by
  obtain ⟨n, rfl⟩ : ∃ n : Nat, v = n := ⟨v.toNat, by omega⟩
  rw [xConv_int _ _ .u64 .i64 _ hs hd, wrap_u64 (by omega) (by omega)]
  have e1 : ∀ K : VCont, xBin P .shl tu64 (.int .u64 (n : Int)) (.int .u64 1) w K = K (un (n <<< 1)) w := fun K => shl_un .u64 n 1 (by omega) (by omega)
  rw [e1]
  have e2 : ∀ K : VCont, xBin P .shr ti64 (.int .i64 (n : Int)) (.int .u64 63) w K = K (.int .i64 0) w := fun K => by
    rw [xBin_shr _ _ _ _ _ (by omega)]
    have h1 : min ((63 : Int)).toNat IntKind.i64.bits = 63 := rfl
    rw [h1]
    have h2 : (n : Int).fdiv (2 ^ 63) = 0 := by
      rw [Int.fdiv_eq_ediv_of_nonneg _ (by omega)]
      omega
    rw [h2]
  rw [e2, xConv_int _ _ .u64 .i64 _ hs hd, wrap_u64 (by omega) (by omega), xBin_xor]
  have h3 : ((BitVec.ofInt IntKind.u64.bits ((n <<< 1 : Nat) : Int) ^^^ BitVec.ofInt IntKind.u64.bits (0 : Int)).toNat : Nat) = zig n := by
    show (BitVec.ofInt 64 ((n <<< 1 : Nat) : Int) ^^^ BitVec.ofInt 64 ((0 : Nat) : Int)).toNat = zig n
    rw [BitVec.ofInt_natCast, BitVec.ofInt_natCast, BitVec.toNat_xor, BitVec.toNat_ofNat, BitVec.toNat_ofNat]
    unfold zig
    rw [if_pos (by omega), Nat.shiftLeft_eq]
    simp
    omega
  rw [h3]
  have h4 : zig n < 2 ^ 64 := by unfold zig; rw [if_pos (by omega)]; omega
  rw [wrap_u64 (by omega) (by omega)]
end
end Go.Proofs.Ytamejkogghpbhaa
