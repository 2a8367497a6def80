/- Frames: putting, one, reading. -/
import Derived.Test.YtamejkogghpbhaaFrame0
set_option linter.unusedVariables false
set_option linter.unusedSimpArgs false
namespace Go.Proofs.Ytamejkogghpbhaa
open Go.Sx
theorem at_rd' {w : World} {t e : TypeId} {i : TypeInfo} (ht : P.underlying t = some (.slice e)) (hi : P.info? e = some i) (hs : i.size = 1) {v x : Value} {k : Nat} {xs : List Value} (h : Rd w v xs) (hk : xs[k]? = some x) :
    ∃ p : Addr, (∀ (w2 : World) (C : VCont), xIndexAddr P t v (.int .i64 k) w2 C = C (.pointer (some p)) w2) ∧ ∀ w', Rd w' v xs → w'.cell? p = some x := by
  obtain ⟨p, h1, h2⟩ := at_rd (P := P) ht hi hs h (List.getElem?_eq_some_iff.1 hk).1
  exact ⟨p, h1, fun w' hr => by rw [h2 w' hr, (List.getElem?_eq_some_iff.1 hk).2]⟩
section
variable {w : World} {K : VCont} {l : List Asn}
theorem shr8_i64 {t : TypeId} (n : Nat) (hn : n < 2 ^ 62) : xBin P .shr t (i64 n) (.int .u64 8) w K = K (i64 ((n / 256 : Nat) : Int)) w := by
  rw [xBin_shr _ _ _ _ _ (by omega)]
  have h1 : min ((8 : Int)).toNat IntKind.i64.bits = 8 := rfl
  rw [h1]
  have h2 : (n : Int).fdiv (2 ^ 8) = ((n / 256 : Nat) : Int) := by
    rw [Int.fdiv_eq_ediv_of_nonneg _ (by omega)]
    simp
  rw [h2]
theorem shl8_i64 {t : TypeId} (n : Nat) (hn : n < 2 ^ 40) : xBin P .shl t (i64 n) (.int .u64 8) w K = K (i64 ((n <<< 8 : Nat) : Int)) w := by
  rw [xBin_shl _ _ _ _ _ (by omega)]
  have h1 : min ((8 : Int)).toNat IntKind.i64.bits = 8 := rfl
  rw [h1, Nat.shiftLeft_eq]
  have h2 : (n : Int) * 2 ^ 8 = ((n * 2 ^ 8 : Nat) : Int) := by simp
  rw [h2, wrap_i64 (by omega) (by omega)]
theorem or_i64 {t : TypeId} (a b : Nat) (ha : a < 2 ^ 62) (hb : b < 2 ^ 62) : xBin P .or t (i64 a) (i64 b) w K = K (i64 ((a ||| b : Nat) : Int)) w := by
  rw [xBin_or]
  have h : ((BitVec.ofInt IntKind.i64.bits (a : Int) ||| BitVec.ofInt IntKind.i64.bits (b : Int)).toNat : Nat) = a ||| b := by
    show (BitVec.ofInt 64 (a : Int) ||| BitVec.ofInt 64 (b : Int)).toNat = a ||| b
    rw [BitVec.ofInt_natCast, BitVec.ofInt_natCast, BitVec.toNat_or, BitVec.toNat_ofNat, BitVec.toNat_ofNat, Nat.mod_eq_of_lt (by omega), Nat.mod_eq_of_lt (by omega)]
  have := Nat.or_lt_two_pow ha hb
  rw [h, wrap_i64 (by omega) (by omega)]
theorem by8_eq (c : BitVec 32) (n : Nat) : (⟨(c >>> n).setWidth 8⟩ : UInt8) = by8 c n := rfl
theorem frame_Put_hp {v : Value} {b : List UInt8} (h : Hp w l) (hr : Rd w v (b.map bv)) (hl : b.length ≤ 10000000) (hN : ¬ fits b → K (.tuple #[.slice none 0 0, i64 1]) w)
    (hK : fits b → ∀ v' w', Hp w' (SlA ty.uint8 1 v' (frame b).length ((frame b).map bv) :: l) → Chg none' w w' → K (.tuple #[v', i64 0]) w') : xCall P nr.frame_Put [v] w K := by
  refine frame_Put_call ?_
  unfold frame_Put_main
  simp only [rd_len hr und.s_uint8, List.length_map, xb]
  by_cases h1 : (b.length : Int) < 1
  · simp only [h1, xs, xb, xd]
    exact hN (fun hf => by have := hf.1; omega)
  simp only [h1, xs, xb, xd, rd_len hr und.s_uint8, List.length_map]
  by_cases h2 : (1000 : Int) < (b.length : Int)
  · simp only [h2, xs, xb, xd]
    exact hN (fun hf => by have := hf.2; omega)
  simp only [h2, xs, xb, xd]
  refine pack_Sum_spec hr (by omega) ?_
  have c8 : ∀ (c : BitVec 32) (K : VCont), xConvK P .pure ty.uint32 ty.uint8 (u32 c) w K = K (bv ⟨c.setWidth 8⟩) w := fun c K => conv_u32_u8 und.uint32 und.uint8 c
  have s8 : ∀ K : VCont, xBin P .shr ty.uint32 (u32 (crc b)) (.int .u64 8) w K = K (u32 (crc b >>> 8)) w := fun K => shr_u32 .u64 _ 8 (by omega)
  have s16 : ∀ K : VCont, xBin P .shr ty.uint32 (u32 (crc b)) (.int .u64 16) w K = K (u32 (crc b >>> 16)) w := fun K => shr_u32 .u64 _ 16 (by omega)
  have s24 : ∀ K : VCont, xBin P .shr ty.uint32 (u32 (crc b)) (.int .u64 24) w K = K (u32 (crc b >>> 24)) w := fun K => shr_u32 .u64 _ 24 (by omega)
  rw [c8, s8, c8, s16, c8, s24, c8, conv_i64_u8 und.int und.uint8, shr8_i64 _ (by omega), conv_i64_u8 und.int und.uint8]
  refine buildSlice_step (vs := (head6 b).map bv) und.s_uint8 inf.uint8 rfl rfl rfl rfl ?_ (bv_one _) (by omega) ?_
  · unfold head6
    have : by8 (crc b) 0 = ⟨(crc b).setWidth 8⟩ := by unfold by8; rw [BitVec.ushiftRight_zero]
    rw [this]
    rfl
  intro v1 w1 ho1 hb1 hc1 hs1
  have h1 : Hp w1 (SlA ty.uint8 1 v1 6 ((head6 b).map bv) :: l) := h.new (A := SlA ty.uint8 1 v1 6 _) (F := fun x => v1.ownBlock = some x) ⟨ho1, fun _ => Iff.rfl⟩ (fun b e => by rw [hb1] at e; cases e; omega) hc1
  obtain ⟨F0, hF0, fr0⟩ := h1.frame1
  refine append_step (size := 1) (bytes := 1) und.s_uint8 inf.uint8 rfl rfl rfl rfl ho1 (hr.keep' hc1).rdN (bv_one _) (by simp [maxLen]; omega) (by simp; omega) ?_
  intro v2 w2 ho2 hc2 hv2
  have hfl : (frame b).length = 6 + b.length := frame_len b
  have ho2' : Own w2 ty.uint8 1 v2 (frame b).length ((frame b).map bv) := by
    rw [List.length_map] at ho2
    rw [hfl]
    unfold frame
    rw [List.map_append]
    exact ho2
  refine hK ⟨by omega, by omega⟩ v2 w2 (fr0 w2 _ (SlA ty.uint8 1 v2 _ _) ⟨ho2', fun _ => Iff.rfl⟩ (hc2.mono fun x _ hx => (hF0.2 x).2 hx) fun g hg => ?_) (hc1.then hc2 fun i hi e => by rw [hb1] at e; cases e; omega)
  rcases hv2 with e | e
  · rw [e] at hg; exact .inl ((hF0.2 g).2 hg)
  · rw [e] at hg; cases hg; exact .inr (Nat.le_refl _)
theorem six {D : List UInt8} (h : 6 ≤ D.length) : ∃ c0 c1 c2 c3 n0 n1 r, D = c0 :: c1 :: c2 :: c3 :: n0 :: n1 :: r := by
  match D, h with
  | c0 :: c1 :: c2 :: c3 :: n0 :: n1 :: r, _ => exact ⟨c0, c1, c2, c3, n0, n1, r, rfl⟩
theorem frame_One_hp {v : Value} {B : List UInt8} {i : Nat} (h : Hp w l) (hr : Rd w v (B.map bv)) (hl : B.length ≤ 10000000) (hi : i ≤ B.length) (hN : one (B.drop i) = none → ∀ w', Hp w' l → Chg none' w w' → K (.tuple #[.slice none 0 0, i64 (-1)]) w')
    (hK : ∀ x, one (B.drop i) = some x → ∀ v' w', Hp w' (SlA ty.uint8 1 v' x.length (x.map bv) :: l) → Chg none' w w' → K (.tuple #[v', i64 ((i + 6 + x.length : Nat) : Int)]) w') : xCall P nr.frame_One [v, i64 i] w K := by
  refine frame_One_call ?_
  unfold frame_One_main
  have h0 : ¬ (i : Int) < 0 := by omega
  have h1 : ¬ (B.length : Int) < (i : Int) := by omega
  have hsub : IntKind.i64.wrap ((B.length : Int) - (i : Int)) = ((B.length - i : Nat) : Int) := by rw [wrap_i64 (by omega) (by omega)]; omega
  simp only [rd_len hr und.s_uint8, List.length_map, xs, xb, xd, h0, h1, hsub]
  have hdl : (B.drop i).length = B.length - i := List.length_drop
  by_cases h6 : ((B.length - i : Nat) : Int) < 6
  · simp only [h6, xs, xb, xd]
    exact hN (one_short (by omega)) w h (Chg.refl _ _)
  simp only [h6, xs, xb, xd]
  obtain ⟨c0, c1, c2, c3, n0, n1, r, hD⟩ := six (D := B.drop i) (by omega)
  have hrl : r.length = B.length - i - 6 := by rw [hD] at hdl; simp at hdl; omega
  have hr' : Rd w.drew v (B.map bv) := hr.keep' (Chg.drew _ _)
  have hget : ∀ (j : Nat) (x : UInt8), (B.drop i)[j]? = some x → (B.map bv)[i + j]? = some (bv x) := fun j x hx => by
    rw [List.getElem?_drop] at hx; rw [List.getElem?_map, hx]; rfl
  obtain ⟨p4, i4, q4⟩ := at_rd' und.s_uint8 inf.uint8 rfl hr (hget 4 n0 (by rw [hD]; rfl))
  obtain ⟨p5, i5, q5⟩ := at_rd' und.s_uint8 inf.uint8 rfl hr (hget 5 n1 (by rw [hD]; rfl))
  have a4 : IntKind.i64.wrap ((i : Int) + 4) = ((i + 4 : Nat) : Int) := by rw [wrap_i64 (by omega) (by omega)]; omega
  have a5 : IntKind.i64.wrap ((i : Int) + 5) = ((i + 5 : Nat) : Int) := by rw [wrap_i64 (by omega) (by omega)]; omega
  have a6 : IntKind.i64.wrap ((i : Int) + 6) = ((i + 6 : Nat) : Int) := by rw [wrap_i64 (by omega) (by omega)]; omega
  have k0 : n0.toNat < 256 := n0.toNat_lt
  have k1 : n1.toNat < 256 := n1.toNat_lt
  simp only [a4, a5, i4, i5, xs, q4 _ hr', q5 _ hr', true_and, conv_u8_i64 und.uint8 und.int]
  rw [shl8_i64 _ (by omega), or_i64 _ _ (by omega) (by rw [Nat.shiftLeft_eq]; omega), or_low _ _ _ (show n0.toNat < 2 ^ 8 by omega)]
  have hn : n0.toNat + n1.toNat * 2 ^ 8 = n0.toNat + 256 * n1.toNat := by omega
  rw [hn]
  have hone : one (B.drop i) = if n0.toNat + 256 * n1.toNat < 1 ∨ 1000 < n0.toNat + 256 * n1.toNat ∨ r.length < n0.toNat + 256 * n1.toNat then none
    else if crc (r.take (n0.toNat + 256 * n1.toNat)) = word4 c0 c1 c2 c3 then some (r.take (n0.toNat + 256 * n1.toNat)) else none := by rw [hD]; rfl
  generalize n0.toNat + 256 * n1.toNat = n at hone
  have hN' : ∀ w', Hp w' l → Chg none' w w' → one (B.drop i) = none → K (.tuple #[.slice none 0 0, i64 (-1)]) w' := fun w' h hc e => hN e w' h hc
  by_cases g1 : (n : Int) < 1
  · simp only [g1, xs, xb, xd]
    exact hN' _ h.drew (Chg.drew _ _) (by rw [hone, if_pos (.inl (by omega))])
  by_cases g2 : (1000 : Int) < (n : Int)
  · simp only [g1, g2, xs, xb, xd]
    exact hN' _ h.drew (Chg.drew _ _) (by rw [hone, if_pos (.inr (.inl (by omega)))])
  have hs6 : IntKind.i64.wrap (((B.length - i : Nat) : Int) - 6) = ((B.length - i - 6 : Nat) : Int) := by rw [wrap_i64 (by omega) (by omega)]; omega
  simp only [g1, g2, xs, xb, xd, rd_len hr und.s_uint8, List.length_map, hsub, hs6]
  by_cases g3 : ((B.length - i - 6 : Nat) : Int) < (n : Int)
  · simp only [g3, xs, xb, xd]
    exact hN' _ h.drew (Chg.drew _ _) (by rw [hone, if_pos (.inr (.inr (by omega)))])
  have s6n : IntKind.i64.wrap (((i + 6 : Nat) : Int) + (n : Int)) = ((i + 6 + n : Nat) : Int) := by rw [wrap_i64 (by omega) (by omega)]; omega
  obtain ⟨vx, ix, qx⟩ := slice_rd (P := P) und.s_uint8 inf.uint8 rfl hr (lo := i + 6) (hi' := i + 6 + n) (by omega) (by simp; omega)
  have hx : ((B.map bv).take (i + 6 + n)).drop (i + 6) = (r.take n).map bv := by
    rw [← List.map_take, ← List.map_drop, List.drop_take]
    congr 1
    have : B.drop (i + 6) = r := by rw [← List.drop_drop, hD]; rfl
    rw [this]
    congr 1
    omega
  rw [hx] at qx
  have hr2 : Rd w.drew.drew v (B.map bv) := hr'.keep' (Chg.drew _ _)
  obtain ⟨p0, i0, q0⟩ := at_rd' und.s_uint8 inf.uint8 rfl hr (hget 0 c0 (by rw [hD]; rfl))
  obtain ⟨p1, i1, q1⟩ := at_rd' und.s_uint8 inf.uint8 rfl hr (hget 1 c1 (by rw [hD]; rfl))
  obtain ⟨p2, i2, q2⟩ := at_rd' und.s_uint8 inf.uint8 rfl hr (hget 2 c2 (by rw [hD]; rfl))
  obtain ⟨p3, i3, q3⟩ := at_rd' und.s_uint8 inf.uint8 rfl hr (hget 3 c3 (by rw [hD]; rfl))
  rw [Nat.add_zero] at i0
  have a1 : IntKind.i64.wrap ((i : Int) + 1) = ((i + 1 : Nat) : Int) := by rw [wrap_i64 (by omega) (by omega)]; omega
  have a2 : IntKind.i64.wrap ((i : Int) + 2) = ((i + 2 : Nat) : Int) := by rw [wrap_i64 (by omega) (by omega)]; omega
  have a3 : IntKind.i64.wrap ((i : Int) + 3) = ((i + 3 : Nat) : Int) := by rw [wrap_i64 (by omega) (by omega)]; omega
  simp only [g3, xs, xb, xd, a6, s6n, ix, i0, a1, i1, a2, i2, a3, i3, q0 _ hr2, q1 _ hr2, q2 _ hr2, q3 _ hr2, true_and, conv_u8_u32 und.uint8 und.uint32]
  have l8 : ∀ (c : BitVec 32) (w : World) (K : VCont), xBin P .shl ty.uint32 (u32 c) (.int .u64 8) w K = K (u32 (c <<< 8)) w := fun c w K => shl_u32 .u64 c 8 (by omega)
  have l16 : ∀ (c : BitVec 32) (w : World) (K : VCont), xBin P .shl ty.uint32 (u32 c) (.int .u64 16) w K = K (u32 (c <<< 16)) w := fun c w K => shl_u32 .u64 c 16 (by omega)
  have l24 : ∀ (c : BitVec 32) (w : World) (K : VCont), xBin P .shl ty.uint32 (u32 c) (.int .u64 24) w K = K (u32 (c <<< 24)) w := fun c w K => shl_u32 .u64 c 24 (by omega)
  rw [l8, or_u32, l16, or_u32, l24, or_u32]
  have hrx := qx _ hr2
  refine pack_Sum_spec hrx (by rw [List.length_take]; omega) ?_
  rw [ne_u32]
  have hone2 : one (B.drop i) = if crc (r.take n) = word4 c0 c1 c2 c3 then some (r.take n) else none := by rw [hone, if_neg (by omega)]
  have hw4 : ((c0.toBitVec.setWidth 32 ||| c1.toBitVec.setWidth 32 <<< 8) ||| c2.toBitVec.setWidth 32 <<< 16) ||| c3.toBitVec.setWidth 32 <<< 24 = word4 c0 c1 c2 c3 := rfl
  rw [hw4]
  by_cases hcr : crc (r.take n) = word4 c0 c1 c2 c3
  · simp only [hcr, xs, xb, xd]
    rw [if_pos hcr] at hone2
    refine buildSlice0 (size := 1) und.s_uint8 inf.uint8 rfl ?_
    intro v1 w1 ho1 hb1 hc1 hs1
    have h1 : Hp w1 (SlA ty.uint8 1 v1 0 [] :: l) := h.drew.drew.new (A := SlA ty.uint8 1 v1 0 []) (F := fun x => v1.ownBlock = some x) ⟨ho1, fun _ => Iff.rfl⟩ (fun b e => by rw [hb1] at e; cases e; omega) hc1
    obtain ⟨F0, hF0, fr0⟩ := h1.frame1
    refine append_step (size := 1) (bytes := 1) und.s_uint8 inf.uint8 rfl rfl rfl rfl ho1 (hrx.keep' hc1).rdN (bv_one _) (by simp [maxLen]; omega) (by simp; omega) ?_
    intro v2 w2 ho2 hc2 hv2
    have hlen : (r.take n).length = n := by rw [List.length_take]; omega
    have := hK _ hone2 v2 w2 (fr0 w2 _ (SlA ty.uint8 1 v2 _ _) ⟨by simpa using ho2, fun _ => Iff.rfl⟩ (hc2.mono fun x _ hx => (hF0.2 x).2 hx) fun g hg => ?_) (((Chg.drew _ _).trans (Chg.drew _ _)).trans (hc1.then hc2 fun i hi e => by rw [hb1] at e; cases e; omega))
    · rwa [hlen] at this
    · rcases hv2 with e | e
      · rw [e] at hg; exact .inl ((hF0.2 g).2 hg)
      · rw [e] at hg; cases hg; exact .inr (Nat.le_refl _)
  · simp only [hcr, xs, xb, xd]
    rw [if_neg hcr] at hone2
    exact hN' _ h.drew.drew ((Chg.drew _ _).trans (Chg.drew _ _)) hone2
end
end Go.Proofs.Ytamejkogghpbhaa
