/- Readers: of what writers wrote. -/
import Derived.Test.YtamejkogghpbhaaWriter
set_option linter.unusedVariables false
set_option linter.unusedSimpArgs false
namespace Go.Proofs.Ytamejkogghpbhaa
open Go.Sx
def RdrA (p : Nat) (bs : List UInt8) : Asn := ExA fun v => StarA [BlkA p ty.pack_Reader [v, .bool false], RoA fun w => Rd w v (bs.map bv)]
theorem RdrA.op {w : World} {l : List Asn} {p : Nat} {bs : List UInt8} : Hp w (RdrA p bs :: l) ↔ ∃ v, Hp w (BlkA p ty.pack_Reader [v, .bool false] :: RoA (fun w => Rd w v (bs.map bv)) :: l) :=
  Hp.ex.trans (exists_congr fun _ => Hp.star2)
theorem or_low (a b k : Nat) (h : a < 2 ^ k) : a ||| (b <<< k) = a + b * 2 ^ k := by
  rw [Nat.or_comm, ← Nat.shiftLeft_add_eq_or_of_lt h, Nat.shiftLeft_eq, Nat.add_comm]
theorem mod_next (n i : Nat) : n % 2 ^ (7 * i) + n / 2 ^ (7 * i) % 128 * 2 ^ (7 * i) = n % 2 ^ (7 * (i + 1)) := by
  rw [show 7 * (i + 1) = 7 * i + 7 by omega, Nat.pow_add, Nat.mod_mul, Nat.mul_comm (2 ^ (7 * i))]
theorem div_next (n i : Nat) : n / 2 ^ (7 * i) / 128 = n / 2 ^ (7 * (i + 1)) := by
  rw [Nat.div_div_eq_div_mul, show 7 * (i + 1) = 7 * i + 7 by omega, Nat.pow_add]
section
variable {w : World} {K : VCont} {l : List Asn} {p : Nat} {bs : List UInt8}
theorem groups_spec {v : Value} {n : Nat} {rest : List UInt8} (hr : Rd w v (bs.map bv)) (hb : bs = vint n ++ rest) (hl : bs.length ≤ 10000000) (hn : n < 2 ^ 64) (hK : K (.tuple #[un n, i64 (vint n).length]) w) : xCall P nr.pack_groups [v] w K := by
  refine pack_groups_call ?_
  unfold pack_groups_main
  rw [rd_len hr und.s_uint8]
  simp only [xs, xb, xd, List.length_map]
  have hmin : min (bs.length : Int) 10 = ((min bs.length 10 : Nat) : Int) := by omega
  rw [hmin]
  refine Lp.gen (fun k s w' => w' = w ∧ ∃ i rs, k + i = 9 ∧ s = [un (n % 2 ^ (7 * i)), i64 i] ∧ bs.drop i = vintF k (n / 2 ^ (7 * i)) ++ rest ∧ (vint n).length = i + (vintF k (n / 2 ^ (7 * i))).length ∧ (i = 0 ∨ 1 ≤ n / 2 ^ (7 * i)) ∧ rs = rest) 9
    ⟨rfl, 0, rest, rfl, by simp [Nat.mod_one], by simpa [vint] using hb, by simp [vint], .inl rfl, rfl⟩ ?_
  rintro k s w' ⟨rfl, i, rs, hki, rfl, hd, hv, h0, rfl⟩ X hX
  unfold pack_groups_l1
  simp only [List.getD_cons_zero, List.getD_cons_succ, xs, xb, xd]
  generalize hm : n / 2 ^ (7 * i) = m at hd hv h0
  have hlen := vintF_len k m
  have hdl := congrArg List.length hd
  rw [List.length_drop, List.length_append] at hdl
  have hlt : i < bs.length := by omega
  have h1 : (i : Int) < ((min bs.length 10 : Nat) : Int) := by omega
  -- the byte
  have hc : ∀ x r, vintF k m = x :: r → bs[i] = x := by
    intro x r hx
    have : bs.drop i = bs[i] :: bs.drop (i + 1) := List.drop_eq_getElem_cons hlt
    rw [hx, List.cons_append] at hd
    rw [this] at hd
    exact (List.cons.inj hd).1
  have hm64 : m < 2 ^ (64 - 7 * i) := by
    rw [← hm, Nat.div_lt_iff_lt_mul (Nat.two_pow_pos _), ← Nat.pow_add]
    rw [show 64 - 7 * i + 7 * i = 64 by omega]; exact hn
  have hacc : n % 2 ^ (7 * i) < 2 ^ (7 * i) := Nat.mod_lt _ (Nat.two_pow_pos _)
  have hpow : 2 ^ (7 * i) ≤ 2 ^ 63 := Nat.pow_le_pow_right (by omega) (by omega)
  have hmul : IntKind.i64.wrap (7 * (i : Int)) = ((7 * i : Nat) : Int) := by rw [wrap_i64 (by omega) (by omega)]; omega
  simp only [h1, xs, xb, xd]
  rw [index_rd und.s_uint8 inf.uint8 rfl hr (x := bv bs[i]) (by simp [hlt]) (fun _ h => h)]
  -- what the or makes
  have step : ∀ c : Nat, c = m % 128 → n % 2 ^ (7 * i) ||| c <<< (7 * i) = n % 2 ^ (7 * (i + 1)) ∧ c * 2 ^ (7 * i) < 2 ^ 64 := by
    intro c hcm
    have : c * 2 ^ (7 * i) ≤ n := by
      rw [hcm, ← hm]
      exact Nat.le_trans (Nat.mul_le_mul_right _ (Nat.mod_le _ _)) (Nat.div_mul_le_self _ _)
    refine ⟨?_, by omega⟩
    rw [or_low _ _ _ hacc, hcm, ← hm]
    exact mod_next n i
  have shl : ∀ (c : Nat), c * 2 ^ (7 * i) < 2 ^ 64 → ∀ (w : World) (K : VCont), xBin P .shl ty.uint64 (un c) (.int .u64 ((7 * i : Nat) : Int)) w K = K (un (c <<< (7 * i))) w := fun c hc w K => shl_un .u64 c (7 * i) (by omega) hc
  have cv : ∀ (w : World) (K : VCont), xConvK P .pure ty.int ty.uint (.int .i64 ((7 * i : Nat) : Int)) w K = K (.int .u64 ((7 * i : Nat) : Int)) w := fun w K => by
    rw [xConv_int _ _ .u64 .i64 _ und.int und.uint, wrap_u64 (by omega) (by omega)]
  have a127 : ∀ (x : UInt8) (w : World) (K : VCont), xBin P .and ty.uint8 (bv x) (.int .u8 127) w K = K (bv (x &&& 127)) w := fun x w K => and_u8 x 127
  have gt1 : ∀ (x : UInt8) (w : World) (K : VCont), xBin P .gtr ty.uint8 (bv x) (.int .u8 1) w K = K (.bool (decide (1 < (x.toNat : Int)))) w := fun x w K => xBin_gtr _ _ _ _
  have lt128 : ∀ (x : UInt8) (w : World) (K : VCont), xBin P .lss ty.uint8 (bv x) (.int .u8 128) w K = K (.bool (decide ((x.toNat : Int) < 128))) w := fun x w K => xBin_lss _ _ _ _
  have eq0 : ∀ (x : UInt8) (w : World) (K : VCont), xEq P .eql ty.uint8 false true (bv x) (.int .u8 0) w K = K (.bool (decide ((x.toNat : Int) = 0))) w := fun x w K => xEq_int _ _ _ _ _ _
  have low : ∀ (x : UInt8), x.toNat % 128 = m % 128 → ∀ (w : World) (K : VCont), xConvK P .pure ty.uint8 ty.uint64 (bv (x &&& 127)) w K = K (un (m % 128)) w := fun x hx w K => by
    rw [conv_u8_un und.uint8 und.uint64]
    have h127 : (x &&& 127).toNat = x.toNat % 128 := by
      rw [UInt8.toNat_and]
      exact Nat.and_two_pow_sub_one_eq_mod x.toNat 7
    rw [h127, hx]
  by_cases hsm : m < 128
  · have hx := hc _ _ (vintF_small (k := k) hsm)
    have hxt : bs[i].toNat = m := by rw [hx]; simp; omega
    obtain ⟨st1, st2⟩ := step (m % 128) rfl
    have hsplit : n % 2 ^ (7 * (i + 1)) = n := by
      apply Nat.mod_eq_of_lt
      rw [show 7 * (i + 1) = 7 + 7 * i by omega, Nat.pow_add, ← Nat.div_lt_iff_lt_mul (Nat.two_pow_pos _), hm]
      exact hsm
    have hres : (vint n).length = i + 1 := by rw [hv, vintF_small hsm]; rfl
    have hi1 : IntKind.i64.wrap ((i : Int) + 1) = (((vint n).length : Nat) : Int) := by rw [wrap_i64 (by omega) (by omega)]; omega
    have hor : ∀ (w : World) (K : VCont), xBin P .or ty.uint64 (un (n % 2 ^ (7 * i))) (un ((m % 128) <<< (7 * i))) w K = K (un n) w := fun w K => by
      rw [or_un _ _ (by omega) (by rw [Nat.shiftLeft_eq]; exact st2), st1, hsplit]
    have hlt8 : (bs[i].toNat : Int) < 128 := by omega
    have body : ∀ c, c = false → xPick (.bool c) (.bool true) (.bool false) w' (fun t29 w => xIf t29 (K (.tuple #[.int .u64 0, .int .i64 0]) w) (xBin P .and ty.uint8 (bv bs[i]) (.int .u8 127) w fun t30 w => xConvK P .pure ty.uint8 ty.uint64 t30 w fun t31 w => xConvK P .pure ty.int ty.uint (.int .i64 (IntKind.i64.wrap (7 * (i : Int)))) w fun t33 w =>
        xBin P .shl ty.uint64 t31 t33 w fun t34 w => xBin P .or ty.uint64 (un (n % 2 ^ (7 * i))) t34 w fun t35 w => xBin P .lss ty.uint8 (bv bs[i]) (.int .u8 128) w fun t36 w =>
        xIf t36 (xEq P .eql ty.uint8 false true (bv bs[i]) (.int .u8 0) w fun t37 w => xWhen t37 true (fun K => K (i64 i) w) w fun t38 w => xWhen t37 true (fun K => xBin P .gtr ty.int t38 (.int .i64 0) w K) w fun t39 w => xPick t37 t39 (.bool false) w fun t40 w =>
          xIf t40 (K (.tuple #[.int .u64 0, .int .i64 0]) w) (K (.tuple #[t35, .int .i64 (IntKind.i64.wrap ((i : Int) + 1))]) w)) (X [t35, .int .i64 (IntKind.i64.wrap ((i : Int) + 1))] w))) := by
      rintro c rfl
      simp only [xs, xd]
      rw [a127, low _ (by omega), hmul, cv, shl _ st2, hor, lt128]
      simp only [hlt8, xs, xd]
      rw [eq0]
      by_cases hz : (bs[i].toNat : Int) = 0
      · have hi0 : i = 0 := by rcases h0 with h | h <;> omega
        have hng : ¬ (0 : Int) < (i : Int) := by omega
        simp only [hz, xs, xb, xd, hng, hi1]
        exact hK
      · simp only [hz, xs, xb, xd, hi1]
        exact hK
    cases hd9 : decide ((i : Int) = 9) with
    | true =>
      have hc1 : ¬ (1 : Int) < (bs[i].toNat : Int) := by
        have : (i : Int) = 9 := by simpa using hd9
        have : i = 9 := by omega
        subst this
        have : m < 2 := by simpa using hm64
        omega
      simp only [xs, xb, xd]
      rw [gt1]
      simp only [hc1, xs, xd]
      have := body false rfl
      simp only [xs, xd] at this
      exact this
    | false =>
      simp only [xs, xb, xd]
      have := body false rfl
      simp only [xs, xd] at this
      exact this
  · cases k with
    | zero =>
      have : i = 9 := by omega
      subst this
      have : m < 2 := by simpa using hm64
      omega
    | succ k =>
      have hvf : vintF (k + 1) m = UInt8.ofNat (m % 128 + 128) :: vintF k (m / 128) := by
        conv => lhs; unfold vintF
        rw [if_neg hsm]
      have hx := hc _ _ hvf
      have hxt : bs[i].toNat = m % 128 + 128 := by rw [hx]; simp; omega
      have h9 : ¬ (i : Int) = 9 := by omega
      simp only [h9, xs, xb, xd]
      obtain ⟨st1, st2⟩ := step (m % 128) rfl
      rw [a127, low _ (by omega)]
      simp only [xb, hmul]
      rw [cv, shl _ st2, or_un _ _ (by omega) (by rw [Nat.shiftLeft_eq]; exact st2), st1, lt128]
      have hlt8 : ¬ (bs[i].toNat : Int) < 128 := by omega
      simp only [hlt8, xs, xb, xd]
      have hi1 : IntKind.i64.wrap ((i : Int) + 1) = ((i + 1 : Nat) : Int) := by rw [wrap_i64 (by omega) (by omega)]; omega
      rw [hi1]
      have hdn := div_next n i
      rw [hm] at hdn
      refine hX k _ _ ⟨rfl, i + 1, rs, by omega, rfl, ?_, ?_, ?_, rfl⟩ (by omega)
      · rw [← hdn]
        have : bs.drop i = bs[i] :: bs.drop (i + 1) := List.drop_eq_getElem_cons hlt
        rw [this, hvf, List.cons_append] at hd
        exact (List.cons.inj hd).2
      · rw [hv, hvf, ← hdn]; simp; omega
      · right; rw [← hdn]; omega
end
end Go.Proofs.Ytamejkogghpbhaa
