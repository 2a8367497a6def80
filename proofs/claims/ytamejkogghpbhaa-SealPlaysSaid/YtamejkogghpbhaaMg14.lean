import Derived.Test.YtamejkogghpbhaaMg13
import Derived.Test.YtamejkogghpbhaaMg11
import Derived.Test.YtamejkogghpbhaaMg7
section
/- Frames: putting, one, reading. -/
set_option linter.unusedVariables false
set_option linter.unusedSimpArgs false
namespace Go.Proofs.Ytamejkogghpbhaa
open Go.Sx
theorem at_rd' {w : World} {t e : TypeId} {i : TypeInfo} (ht : P.underlying t = some (.slice e)) (hi : P.info? e = some i) (hs : i.size = 1) {v x : Value} {k : Nat} {xs : List Value} (h : Rd w v xs) (hk : xs[k]? = some x) :
    ∃ p : Addr, (∀ (w2 : World) (C : VCont), xIndexAddr P t v (.int .i64 k) w2 C = C (.pointer (some p)) w2) ∧ ∀ w', Rd w' v xs → w'.cell? p = some x := by
  obtain ⟨p, h1, h2⟩ := at_rd (P := P) ht hi hs h (List.getElem?_eq_some_iff.1 hk).1
  exact ⟨p, h1, fun w' hr => by rw [h2 w' hr, (List.getElem?_eq_some_iff.1 hk).2]⟩
section
variable {w : World} {K : VCont} {l : List Asn}
theorem shr8_i64 {t : TypeId} (n : Nat) (hn : n < 2 ^ 62) : xBin P .shr t (i64 n) (.int .u64 8) w K = K (i64 ((n / 256 : Nat) : Int)) w := by
  rw [xBin_shr _ _ _ _ _ (by omega)]
  have h1 : min ((8 : Int)).toNat IntKind.i64.bits = 8 := rfl
  rw [h1]
  have h2 : (n : Int).fdiv (2 ^ 8) = ((n / 256 : Nat) : Int) := by
    rw [Int.fdiv_eq_ediv_of_nonneg _ (by omega)]
    simp
  rw [h2]
theorem shl8_i64 {t : TypeId} (n : Nat) (hn : n < 2 ^ 40) : xBin P .shl t (i64 n) (.int .u64 8) w K = K (i64 ((n <<< 8 : Nat) : Int)) w := by
  rw [xBin_shl _ _ _ _ _ (by omega)]
  have h1 : min ((8 : Int)).toNat IntKind.i64.bits = 8 := rfl
  rw [h1, Nat.shiftLeft_eq]
  have h2 : (n : Int) * 2 ^ 8 = ((n * 2 ^ 8 : Nat) : Int) := by simp
  rw [h2, wrap_i64 (by omega) (by omega)]
theorem or_i64 {t : TypeId} (a b : Nat) (ha : a < 2 ^ 62) (hb : b < 2 ^ 62) : xBin P .or t (i64 a) (i64 b) w K = K (i64 ((a ||| b : Nat) : Int)) w := by
  rw [xBin_or]
  have h : ((BitVec.ofInt IntKind.i64.bits (a : Int) ||| BitVec.ofInt IntKind.i64.bits (b : Int)).toNat : Nat) = a ||| b := by
    show (BitVec.ofInt 64 (a : Int) ||| BitVec.ofInt 64 (b : Int)).toNat = a ||| b
    rw [BitVec.ofInt_natCast, BitVec.ofInt_natCast, BitVec.toNat_or, BitVec.toNat_ofNat, BitVec.toNat_ofNat, Nat.mod_eq_of_lt (by omega), Nat.mod_eq_of_lt (by omega)]
  have := Nat.or_lt_two_pow ha hb
  rw [h, wrap_i64 (by omega) (by omega)]
theorem by8_eq (c : BitVec 32) (n : Nat) : (⟨(c >>> n).setWidth 8⟩ : UInt8) = by8 c n := rfl
theorem frame_Put_hp {v : Value} {b : List UInt8} (h : Hp w l) (hr : Rd w v (b.map bv)) (hl : b.length ≤ 10000000) (hN : ¬ fits b → K (.tuple #[.slice none 0 0, i64 1]) w)
    (hK : fits b → ∀ v' w', Hp w' (SlA ty.uint8 1 v' (frame b).length ((frame b).map bv) :: l) → Chg none' w w' → K (.tuple #[v', i64 0]) w') : xCall P nr.frame_Put [v] w K := by
  refine frame_Put_call ?_
  unfold frame_Put_main
  simp only [rd_len hr und.s_uint8, List.length_map, xb]
  by_cases h1 : (b.length : Int) < 1
  · simp only [h1, xs, xb, xd]
    exact hN (fun hf => by have := hf.1; omega)
  simp only [h1, xs, xb, xd, rd_len hr und.s_uint8, List.length_map]
  by_cases h2 : (1000 : Int) < (b.length : Int)
  · simp only [h2, xs, xb, xd]
    exact hN (fun hf => by have := hf.2; omega)
  simp only [h2, xs, xb, xd]
  refine pack_Sum_spec hr (by omega) ?_
  have c8 : ∀ (c : BitVec 32) (K : VCont), xConvK P .pure ty.uint32 ty.uint8 (u32 c) w K = K (bv ⟨c.setWidth 8⟩) w := fun c K => conv_u32_u8 und.uint32 und.uint8 c
  have s8 : ∀ K : VCont, xBin P .shr ty.uint32 (u32 (crc b)) (.int .u64 8) w K = K (u32 (crc b >>> 8)) w := fun K => shr_u32 .u64 _ 8 (by omega)
  have s16 : ∀ K : VCont, xBin P .shr ty.uint32 (u32 (crc b)) (.int .u64 16) w K = K (u32 (crc b >>> 16)) w := fun K => shr_u32 .u64 _ 16 (by omega)
  have s24 : ∀ K : VCont, xBin P .shr ty.uint32 (u32 (crc b)) (.int .u64 24) w K = K (u32 (crc b >>> 24)) w := fun K => shr_u32 .u64 _ 24 (by omega)
  rw [c8, s8, c8, s16, c8, s24, c8, conv_i64_u8 und.int und.uint8, shr8_i64 _ (by omega), conv_i64_u8 und.int und.uint8]
  refine buildSlice_step (vs := (head6 b).map bv) und.s_uint8 inf.uint8 rfl rfl rfl rfl ?_ (bv_one _) (by omega) ?_
  · unfold head6
    have : by8 (crc b) 0 = ⟨(crc b).setWidth 8⟩ := by unfold by8; rw [BitVec.ushiftRight_zero]
    rw [this]
    rfl
  intro v1 w1 ho1 hb1 hc1 hs1
  have h1 : Hp w1 (SlA ty.uint8 1 v1 6 ((head6 b).map bv) :: l) := h.new (A := SlA ty.uint8 1 v1 6 _) (F := fun x => v1.ownBlock = some x) ⟨ho1, fun _ => Iff.rfl⟩ (fun b e => by rw [hb1] at e; cases e; omega) hc1
  obtain ⟨F0, hF0, fr0⟩ := h1.frame1
  refine append_step (size := 1) (bytes := 1) und.s_uint8 inf.uint8 rfl rfl rfl rfl ho1 (hr.keep' hc1).rdN (bv_one _) (by simp [maxLen]; omega) (by simp; omega) ?_
  intro v2 w2 ho2 hc2 hv2
  have hfl : (frame b).length = 6 + b.length := frame_len b
  have ho2' : Own w2 ty.uint8 1 v2 (frame b).length ((frame b).map bv) := by
    rw [List.length_map] at ho2
    rw [hfl]
    unfold frame
    rw [List.map_append]
    exact ho2
  refine hK ⟨by omega, by omega⟩ v2 w2 (fr0 w2 _ (SlA ty.uint8 1 v2 _ _) ⟨ho2', fun _ => Iff.rfl⟩ (hc2.mono fun x _ hx => (hF0.2 x).2 hx) fun g hg => ?_) (hc1.then hc2 fun i hi e => by rw [hb1] at e; cases e; omega)
  rcases hv2 with e | e
  · rw [e] at hg; exact .inl ((hF0.2 g).2 hg)
  · rw [e] at hg; cases hg; exact .inr (Nat.le_refl _)
theorem six {D : List UInt8} (h : 6 ≤ D.length) : ∃ c0 c1 c2 c3 n0 n1 r, D = c0 :: c1 :: c2 :: c3 :: n0 :: n1 :: r := by
  match D, h with
  | c0 :: c1 :: c2 :: c3 :: n0 :: n1 :: r, _ => exact ⟨c0, c1, c2, c3, n0, n1, r, rfl⟩
theorem frame_One_hp {v : Value} {B : List UInt8} {i : Nat} (h : Hp w l) (hr : Rd w v (B.map bv)) (hl : B.length ≤ 10000000) (hi : i ≤ B.length) (hN : one (B.drop i) = none → ∀ w', Hp w' l → Chg none' w w' → K (.tuple #[.slice none 0 0, i64 (-1)]) w')
    (hK : ∀ x, one (B.drop i) = some x → ∀ v' w', Hp w' (SlA ty.uint8 1 v' x.length (x.map bv) :: l) → Chg none' w w' → K (.tuple #[v', i64 ((i + 6 + x.length : Nat) : Int)]) w') : xCall P nr.frame_One [v, i64 i] w K := by
  refine frame_One_call ?_
  unfold frame_One_main
  have h0 : ¬ (i : Int) < 0 := by omega
  have h1 : ¬ (B.length : Int) < (i : Int) := by omega
  have hsub : IntKind.i64.wrap ((B.length : Int) - (i : Int)) = ((B.length - i : Nat) : Int) := by rw [wrap_i64 (by omega) (by omega)]; omega
  simp only [rd_len hr und.s_uint8, List.length_map, xs, xb, xd, h0, h1, hsub]
  have hdl : (B.drop i).length = B.length - i := List.length_drop
  by_cases h6 : ((B.length - i : Nat) : Int) < 6
  · simp only [h6, xs, xb, xd]
    exact hN (one_short (by omega)) w h (Chg.refl _ _)
  simp only [h6, xs, xb, xd]
  obtain ⟨c0, c1, c2, c3, n0, n1, r, hD⟩ := six (D := B.drop i) (by omega)
  have hrl : r.length = B.length - i - 6 := by rw [hD] at hdl; simp at hdl; omega
  have hr' : Rd w.drew v (B.map bv) := hr.keep' (Chg.drew _ _)
  have hget : ∀ (j : Nat) (x : UInt8), (B.drop i)[j]? = some x → (B.map bv)[i + j]? = some (bv x) := fun j x hx => by
    rw [List.getElem?_drop] at hx; rw [List.getElem?_map, hx]; rfl
  obtain ⟨p4, i4, q4⟩ := at_rd' und.s_uint8 inf.uint8 rfl hr (hget 4 n0 (by rw [hD]; rfl))
  obtain ⟨p5, i5, q5⟩ := at_rd' und.s_uint8 inf.uint8 rfl hr (hget 5 n1 (by rw [hD]; rfl))
  have a4 : IntKind.i64.wrap ((i : Int) + 4) = ((i + 4 : Nat) : Int) := by rw [wrap_i64 (by omega) (by omega)]; omega
  have a5 : IntKind.i64.wrap ((i : Int) + 5) = ((i + 5 : Nat) : Int) := by rw [wrap_i64 (by omega) (by omega)]; omega
  have a6 : IntKind.i64.wrap ((i : Int) + 6) = ((i + 6 : Nat) : Int) := by rw [wrap_i64 (by omega) (by omega)]; omega
  have k0 : n0.toNat < 256 := n0.toNat_lt
  have k1 : n1.toNat < 256 := n1.toNat_lt
  simp only [a4, a5, i4, i5, xs, q4 _ hr', q5 _ hr', true_and, conv_u8_i64 und.uint8 und.int]
  rw [shl8_i64 _ (by omega), or_i64 _ _ (by omega) (by rw [Nat.shiftLeft_eq]; omega), or_low _ _ _ (show n0.toNat < 2 ^ 8 by omega)]
  have hn : n0.toNat + n1.toNat * 2 ^ 8 = n0.toNat + 256 * n1.toNat := by omega
  rw [hn]
  have hone : one (B.drop i) = if n0.toNat + 256 * n1.toNat < 1 ∨ 1000 < n0.toNat + 256 * n1.toNat ∨ r.length < n0.toNat + 256 * n1.toNat then none
    else if crc (r.take (n0.toNat + 256 * n1.toNat)) = word4 c0 c1 c2 c3 then some (r.take (n0.toNat + 256 * n1.toNat)) else none := by rw [hD]; rfl
  generalize n0.toNat + 256 * n1.toNat = n at hone
  have hN' : ∀ w', Hp w' l → Chg none' w w' → one (B.drop i) = none → K (.tuple #[.slice none 0 0, i64 (-1)]) w' := fun w' h hc e => hN e w' h hc
  by_cases g1 : (n : Int) < 1
  · simp only [g1, xs, xb, xd]
    exact hN' _ h.drew (Chg.drew _ _) (by rw [hone, if_pos (.inl (by omega))])
  by_cases g2 : (1000 : Int) < (n : Int)
  · simp only [g1, g2, xs, xb, xd]
    exact hN' _ h.drew (Chg.drew _ _) (by rw [hone, if_pos (.inr (.inl (by omega)))])
  have hs6 : IntKind.i64.wrap (((B.length - i : Nat) : Int) - 6) = ((B.length - i - 6 : Nat) : Int) := by rw [wrap_i64 (by omega) (by omega)]; omega
  simp only [g1, g2, xs, xb, xd, rd_len hr und.s_uint8, List.length_map, hsub, hs6]
  by_cases g3 : ((B.length - i - 6 : Nat) : Int) < (n : Int)
  · simp only [g3, xs, xb, xd]
    exact hN' _ h.drew (Chg.drew _ _) (by rw [hone, if_pos (.inr (.inr (by omega)))])
  have s6n : IntKind.i64.wrap (((i + 6 : Nat) : Int) + (n : Int)) = ((i + 6 + n : Nat) : Int) := by rw [wrap_i64 (by omega) (by omega)]; omega
  obtain ⟨vx, ix, qx⟩ := slice_rd (P := P) und.s_uint8 inf.uint8 rfl hr (lo := i + 6) (hi' := i + 6 + n) (by omega) (by simp; omega)
  have hx : ((B.map bv).take (i + 6 + n)).drop (i + 6) = (r.take n).map bv := by
    rw [← List.map_take, ← List.map_drop, List.drop_take]
    congr 1
    have : B.drop (i + 6) = r := by rw [← List.drop_drop, hD]; rfl
    rw [this]
    congr 1
    omega
  rw [hx] at qx
  have hr2 : Rd w.drew.drew v (B.map bv) := hr'.keep' (Chg.drew _ _)
  obtain ⟨p0, i0, q0⟩ := at_rd' und.s_uint8 inf.uint8 rfl hr (hget 0 c0 (by rw [hD]; rfl))
  obtain ⟨p1, i1, q1⟩ := at_rd' und.s_uint8 inf.uint8 rfl hr (hget 1 c1 (by rw [hD]; rfl))
  obtain ⟨p2, i2, q2⟩ := at_rd' und.s_uint8 inf.uint8 rfl hr (hget 2 c2 (by rw [hD]; rfl))
  obtain ⟨p3, i3, q3⟩ := at_rd' und.s_uint8 inf.uint8 rfl hr (hget 3 c3 (by rw [hD]; rfl))
  rw [Nat.add_zero] at i0
  have a1 : IntKind.i64.wrap ((i : Int) + 1) = ((i + 1 : Nat) : Int) := by rw [wrap_i64 (by omega) (by omega)]; omega
  have a2 : IntKind.i64.wrap ((i : Int) + 2) = ((i + 2 : Nat) : Int) := by rw [wrap_i64 (by omega) (by omega)]; omega
  have a3 : IntKind.i64.wrap ((i : Int) + 3) = ((i + 3 : Nat) : Int) := by rw [wrap_i64 (by omega) (by omega)]; omega
  simp only [g3, xs, xb, xd, a6, s6n, ix, i0, a1, i1, a2, i2, a3, i3, q0 _ hr2, q1 _ hr2, q2 _ hr2, q3 _ hr2, true_and, conv_u8_u32 und.uint8 und.uint32]
  have l8 : ∀ (c : BitVec 32) (w : World) (K : VCont), xBin P .shl ty.uint32 (u32 c) (.int .u64 8) w K = K (u32 (c <<< 8)) w := fun c w K => shl_u32 .u64 c 8 (by omega)
  have l16 : ∀ (c : BitVec 32) (w : World) (K : VCont), xBin P .shl ty.uint32 (u32 c) (.int .u64 16) w K = K (u32 (c <<< 16)) w := fun c w K => shl_u32 .u64 c 16 (by omega)
  have l24 : ∀ (c : BitVec 32) (w : World) (K : VCont), xBin P .shl ty.uint32 (u32 c) (.int .u64 24) w K = K (u32 (c <<< 24)) w := fun c w K => shl_u32 .u64 c 24 (by omega)
  rw [l8, or_u32, l16, or_u32, l24, or_u32]
  have hrx := qx _ hr2
  refine pack_Sum_spec hrx (by rw [List.length_take]; omega) ?_
  rw [ne_u32]
  have hone2 : one (B.drop i) = if crc (r.take n) = word4 c0 c1 c2 c3 then some (r.take n) else none := by rw [hone, if_neg (by omega)]
  have hw4 : ((c0.toBitVec.setWidth 32 ||| c1.toBitVec.setWidth 32 <<< 8) ||| c2.toBitVec.setWidth 32 <<< 16) ||| c3.toBitVec.setWidth 32 <<< 24 = word4 c0 c1 c2 c3 := rfl
  rw [hw4]
  by_cases hcr : crc (r.take n) = word4 c0 c1 c2 c3
  · simp only [hcr, xs, xb, xd]
    rw [if_pos hcr] at hone2
    refine buildSlice0 (size := 1) und.s_uint8 inf.uint8 rfl ?_
    intro v1 w1 ho1 hb1 hc1 hs1
    have h1 : Hp w1 (SlA ty.uint8 1 v1 0 [] :: l) := h.drew.drew.new (A := SlA ty.uint8 1 v1 0 []) (F := fun x => v1.ownBlock = some x) ⟨ho1, fun _ => Iff.rfl⟩ (fun b e => by rw [hb1] at e; cases e; omega) hc1
    obtain ⟨F0, hF0, fr0⟩ := h1.frame1
    refine append_step (size := 1) (bytes := 1) und.s_uint8 inf.uint8 rfl rfl rfl rfl ho1 (hrx.keep' hc1).rdN (bv_one _) (by simp [maxLen]; omega) (by simp; omega) ?_
    intro v2 w2 ho2 hc2 hv2
    have hlen : (r.take n).length = n := by rw [List.length_take]; omega
    have := hK _ hone2 v2 w2 (fr0 w2 _ (SlA ty.uint8 1 v2 _ _) ⟨by simpa using ho2, fun _ => Iff.rfl⟩ (hc2.mono fun x _ hx => (hF0.2 x).2 hx) fun g hg => ?_) (((Chg.drew _ _).trans (Chg.drew _ _)).trans (hc1.then hc2 fun i hi e => by rw [hb1] at e; cases e; omega))
    · rwa [hlen] at this
    · rcases hv2 with e | e
      · rw [e] at hg; exact .inl ((hF0.2 g).2 hg)
      · rw [e] at hg; cases hg; exact .inr (Nat.le_refl _)
  · simp only [hcr, xs, xb, xd]
    rw [if_neg hcr] at hone2
    exact hN' _ h.drew.drew ((Chg.drew _ _).trans (Chg.drew _ _)) hone2
end
end Go.Proofs.Ytamejkogghpbhaa
end
section
/- Frames: reading all; a list of byte slices. -/
set_option linter.unusedVariables false
set_option linter.unusedSimpArgs false
namespace Go.Proofs.Ytamejkogghpbhaa
open Go.Sx
/-- these values are byte slices that read so -/
def RdL (w : World) (vs : List Value) (xss : List (List UInt8)) : Prop := vs.length = xss.length ∧ ∀ (i : Nat) (v : Value) (x : List UInt8), vs[i]? = some v → xss[i]? = some x → Rd w v (x.map bv)
theorem RdL.nil (w : World) : RdL w [] [] := ⟨rfl, by simp⟩
theorem RdL.snoc {w : World} {vs : List Value} {xss : List (List UInt8)} {v : Value} {x : List UInt8} (h : RdL w vs xss) (hv : Rd w v (x.map bv)) : RdL w (vs ++ [v]) (xss ++ [x]) := by
  refine ⟨by simp [h.1], fun i u y hu hy => ?_⟩
  by_cases hi : i < vs.length
  · rw [List.getElem?_append_left hi] at hu
    rw [List.getElem?_append_left (by rw [← h.1]; exact hi)] at hy
    exact h.2 i u y hu hy
  · have hlt := (List.getElem?_eq_some_iff.1 hu).1
    simp at hlt
    have : i = vs.length := by omega
    subst this
    rw [List.getElem?_append_right (Nat.le_refl _)] at hu
    rw [h.1, List.getElem?_append_right (Nat.le_refl _)] at hy
    simp at hu hy
    subst hu; subst hy
    exact hv
theorem RdL.drop {w : World} {vs : List Value} {xss : List (List UInt8)} (h : RdL w vs xss) (k : Nat) : RdL w (vs.drop k) (xss.drop k) := by
  refine ⟨by simp [h.1], fun i u y hu hy => ?_⟩
  rw [List.getElem?_drop] at hu hy
  exact h.2 _ _ _ hu hy
theorem RdL.keep' {w w' : World} {vs : List Value} {xss : List (List UInt8)} (h : RdL w vs xss) (hc : Chg none' w w') : RdL w' vs xss := ⟨h.1, fun i v x hv hx => (h.2 i v x hv hx).keep' hc⟩
/-- a slice of byte slices that can be read -/
def RdBs (w : World) (v : Value) (xss : List (List UInt8)) : Prop := ∃ vs, Rd w v vs ∧ RdL w vs xss
theorem RdBs.keep' {w w' : World} {v : Value} {xss : List (List UInt8)} (h : RdBs w v xss) (hc : Chg none' w w') : RdBs w' v xss := by
  obtain ⟨vs, h1, h2⟩ := h; exact ⟨vs, h1.keep' hc, h2.keep' hc⟩
theorem RdBs.inp {W w : World} {l : List Asn} {v : Value} {xss : List (List UInt8)} (hr : RdBs W v xss) (h : Hp w l) (hm : InpA W ∈ l) : RdBs w v xss := by
  have hb := h.inp_mem hm
  exact hr.keep' ⟨hb.os, hb.tape, hb.output, hb.size, fun b hlt _ => hb.block b hlt⟩
theorem RdBs.len {w : World} {v : Value} {xss : List (List UInt8)} (h : RdBs w v xss) {t e : TypeId} (ht : P.underlying t = some (.slice e)) (w' : World) (K : VCont) : xLen P .pure #[t] v w' K = K (i64 xss.length) w' := by
  obtain ⟨vs, h1, h2⟩ := h
  rw [rd_len h1 ht, h2.1]
theorem RdBs.at {w : World} {v : Value} {xss : List (List UInt8)} (h : RdBs w v xss) {t e : TypeId} {i : TypeInfo} (ht : P.underlying t = some (.slice e)) (hi : P.info? e = some i) (hs : i.size = 1) {k : Nat} {x : List UInt8} (hx : xss[k]? = some x) :
    ∃ (p : Addr) (u : Value), (∀ (w2 : World) (C : VCont), xIndexAddr P t v (.int .i64 k) w2 C = C (.pointer (some p)) w2) ∧ w.cell? p = some u ∧ Rd w u (x.map bv) := by
  obtain ⟨vs, h1, h2⟩ := h
  have hk : k < vs.length := by rw [h2.1]; exact (List.getElem?_eq_some_iff.1 hx).1
  obtain ⟨p, e1, e2⟩ := at_rd (P := P) ht hi hs h1 hk
  exact ⟨p, vs[k], e1, e2 w h1, h2.2 k _ _ (List.getElem?_eq_getElem hk) hx⟩
/-- .. that is the program's own -/
def BsA (v : Value) (xss : List (List UInt8)) : Asn := ExA fun vs => StarA [SlA ty.s_uint8 1 v vs.length vs, RoA fun w => RdL w vs xss]
theorem BsA.op {w : World} {l : List Asn} {v : Value} {xss : List (List UInt8)} : Hp w (BsA v xss :: l) ↔ ∃ vs, Hp w (SlA ty.s_uint8 1 v vs.length vs :: RoA (fun w => RdL w vs xss) :: l) := Hp.ex.trans (exists_congr fun _ => Hp.star2)
theorem BsA.ro {w : World} {l : List Asn} {v : Value} {xss : List (List UInt8)} (h : Hp w (BsA v xss :: l)) : Hp w (RoA (fun w => RdBs w v xss) :: l) := by
  obtain ⟨vs, h⟩ := BsA.op.1 h
  exact h.ofSl.roAnd.roMono fun w h => ⟨vs, h.1.rd, h.2⟩
section
variable {w : World} {K : VCont} {l : List Asn}
theorem frame_Read_hp {v : Value} {B : List UInt8} {p : World → Prop} (h : Hp w (RoA p :: l)) (hp : ∀ w, p w → Rd w v (B.map bv)) (hl : B.length ≤ 10000000)
    (hK : ∀ v' w', Hp w' (BsA v' (unf (B.length + 1) B) :: RoA p :: l) → K (.tuple #[v', i64 (frames (unf (B.length + 1) B)).length]) w') : xCall P nr.frame_Read [v] w K := by
  refine frame_Read_call ?_
  unfold frame_Read_main
  have hone : v.oneCell' = true := by obtain ⟨_, _, rfl, _⟩ := hp _ h.ro; rfl
  refine Hp.box h (cs := [v]) (by cases v <;> simp_all [Value.cells, Value.oneCell']) ?_
  intro b1 w1 h
  refine Hp.alloc (cs := [.slice none 0 0]) h inf.s_s_uint8 rfl rfl ?_
  intro b2 w2 h
  refine Hp.alloc (cs := [i64 0]) h inf.int rfl rfl ?_
  intro b3 w3 h
  refine Hp.st h inf.int rfl rfl (by simp) ?_
  intro w4 h
  -- b3: at; b2: out; b1: b
  have h0 : Hp w4 (BsA (.slice none 0 0) [] :: BlkA b3 ty.int [i64 0] :: BlkA b2 ty.s_s_uint8 [.slice none 0 0] :: BlkA b1 ty.s_uint8 [v] :: RoA p :: l) := by
    refine BsA.op.2 ⟨[], ?_⟩
    have h1 := Hp.roTrue h (p := fun w => RdL w [] []) (fun w => RdL.nil w)
    exact h1.new (A := SlA ty.s_uint8 1 (.slice none 0 0) 0 []) (F := fun _ => False) ⟨Own.nil _ _ _, fun b => by simp [Value.ownBlock]⟩ (fun _ h => h.elim) (Chg.refl _ _)
  refine Lp.gen (fun n s w' => ∃ rs vo, s = [] ∧ unf (B.length + 1) B = rs ++ unf n (B.drop (frames rs).length) ∧ (frames rs).length ≤ B.length ∧ rs.length + n = B.length + 1 ∧ (∀ x ∈ rs, fits x) ∧
      Hp w' (BsA vo rs :: BlkA b3 ty.int [i64 (frames rs).length] :: BlkA b2 ty.s_s_uint8 [vo] :: BlkA b1 ty.s_uint8 [v] :: RoA p :: l)) (B.length + 1)
    ⟨[], .slice none 0 0, rfl, by simp [frames_nil], by simp [frames_nil], by simp, by simp, h0⟩ ?_
  rintro n s w5 ⟨rs, vo, rfl, hu, hfl, hn, hfit, h⟩ X hX
  unfold frame_Read_l1
  refine (xCallV_func nr.frame_Read_c1 [ptr b1, ptr b3, ptr b2] []).mpr ?_
  refine frame_Read_c1_call ?_
  unfold frame_Read_c1_main
  simp only [xs, h.c3, h.c1, List.getElem?_cons_zero]
  refine frame_One_hp h (hp _ h.pick4.ro) hl hfl ?_ ?_
  · intro hn1 w6 h6 hc6
    simp only [xs, xb, xd, show (-1 : Int) < 0 by omega]
    unfold frame_Read_j0
    have h6 := h6.drew
    simp only [xs, h6.c1, h6.c2, List.getElem?_cons_zero, true_and]
    have hend : unf (B.length + 1) B = rs := by
      rw [hu]
      cases n with
      | zero => simp [unf]
      | succ n => unfold unf; rw [hn1]; simp
    have := hK vo w6.drew (by rw [hend]; exact h6.pick1.tail.pick1.tail.pick1.tail)
    rwa [hend] at this
  · intro x hx v6 w6 h6 hc6
    obtain ⟨hxf, hxl⟩ := one_fits hx
    rw [List.length_drop] at hxl
    have hng : ¬ (((frames rs).length + 6 + x.length : Nat) : Int) < 0 := by omega
    simp only [xs, xb, xd, hng, h6.c3, List.getElem?_cons_zero]
    refine Hp.sl1 (size := 1) und.s_s_uint8 inf.s_uint8 rfl (by omega) (by omega) rfl rfl h6 (cs := [v6]) ?_ rfl ?_
    · obtain ⟨_, _, _, e⟩ := own_sl h6.own; rw [e]; rfl
    intro v7 w7 h7
    obtain ⟨vs, h7⟩ := BsA.op.1 h7.pick2
    have hvs : vs.length = rs.length := h7.pick1.ro.1
    -- every record has seven bytes or more
    have hcount : ∀ ys : List (List UInt8), (∀ y ∈ ys, fits y) → ys.length ≤ (frames ys).length := by
      intro ys
      induction ys with
      | nil => intro _; simp
      | cons y ys ih =>
        intro hy
        have := ih fun z hz => hy z (by simp [hz])
        rw [frames_cons, List.length_append, frame_len, List.length_cons]
        omega
    have hxc := hcount rs hfit
    refine Hp.app (size := 1) (bytes := 24) und.s_s_uint8 inf.s_uint8 rfl rfl rfl rfl h7 h7.pick2.own.rdN ?_ (by omega) (by omega) ?_
    · intro u hu'
      obtain ⟨_, _, _, e⟩ := own_sl h7.pick3.own
      simp at hu'; subst hu'; rw [e]; rfl
    intro v8 w8 h8
    have hv8 := h8.own.one
    refine Hp.st h8.pick5 inf.s_s_uint8 rfl hv8 (by simp) ?_
    intro w9 h9
    refine Hp.st h9.pick5 inf.int rfl rfl (by simp) ?_
    intro w10 h10
    cases n with
    | zero => omega
    | succ n =>
      have hfx : (frames (rs ++ [x])).length = (frames rs).length + 6 + x.length := by
        rw [frames_append, List.length_append, frames_cons, frames_nil, List.append_nil, frame_len]; omega
      refine hX n _ _ ⟨rs ++ [x], v8, rfl, ?_, ?_, by simp; omega, ?_, ?_⟩ (by omega)
      · rw [hu]
        conv => lhs; unfold unf
        rw [hx]
        simp only
        rw [List.drop_drop, hfx, List.append_assoc]
        rw [show (frames rs).length + (6 + x.length) = (frames rs).length + 6 + x.length by omega]
        rfl
      · omega
      · intro y hy
        rcases List.mem_append.1 hy with hy | hy
        · exact hfit y hy
        · simp at hy; subst hy; exact hxf
      · -- at, out, own, ro, its slice, the new record, b1, ro, l
        have h11 := (SlA.ro h10.pick4.tail.pick4).pick4.roAnd.roMono (q := fun w => RdL w (vs ++ [v6]) (rs ++ [x])) fun w hw => hw.1.snoc hw.2
        refine BsA.op.2 ⟨vs ++ [v6], ?_⟩
        rw [hfx]
        simpa using h11.pick3
end
end Go.Proofs.Ytamejkogghpbhaa
end
section
/- Arguments that are lists of bytes, of numbers. -/
set_option linter.unusedVariables false
set_option linter.unusedSimpArgs false
namespace Go.Proofs.Ytamejkogghpbhaa
open Go.Sx Go.ChangeShapes Go.WideShapes Go.ChangeAt Go.RowKit
theorem Rdt_cap {W : World} {t e : TypeId} (ht : P.underlying t = some (.slice e)) {v : Value} (h : Rdt P W t [v]) : ∀ a n c, v = .slice a n c → n ≤ c := by
  rintro a n c rfl
  obtain ⟨H, enc, fuel, x, h⟩ := h
  rcases DataW.trod_slice ht h with ⟨h1, _⟩ | ⟨a', len, cap', elems, rest, n', _, h1, _, hb, hlc, hm, _⟩
  · cases h1; exact Nat.le_refl _
  · cases h1; exact hlc
theorem flat_one1 {es : List (List Value)} {us : List Value} (h : es = us.map fun u => [u]) : es.flatten = us := by
  subst h
  induction us with
  | nil => rfl
  | cons u us ih => simp [ih]
/-- a slice whose elements have one cell: the cells, each of which can be read -/
theorem open_ones {W : World} {t e : TypeId} (ht : P.underlying t = some (.slice e)) (hs : P.cellsOf e = 1) {v : Value} (h : Rdt P W t [v]) : ∃ us, Rd W v us ∧ us.length ≤ maxLen ∧ ∀ u ∈ us, Rdt P W e [u] := by
  obtain ⟨v', n, hv, hn, ess, hl, hr, hes⟩ := h.slice ht hs
  cases hv
  obtain ⟨us, h1, h2⟩ := exists_list (n := ess.length) (p := fun i u => ess[i]? = some [u] ∧ Rdt P W e [u]) fun i hi => by
    have := hes _ (List.getElem_mem hi)
    match hx : ess[i], this with
    | [u], ⟨_, hu⟩ => exact ⟨u, by rw [List.getElem?_eq_getElem hi, hx], hu⟩
  have he : ess = us.map fun u => [u] := by
    refine List.ext_getElem? fun i => ?_
    rw [List.getElem?_map]
    by_cases hi : i < us.length
    · rw [(h2 i _ (List.getElem?_eq_getElem hi)).1, List.getElem?_eq_getElem hi]; rfl
    · rw [List.getElem?_eq_none (by omega), List.getElem?_eq_none (by omega)]; rfl
  rw [flat_one1 he] at hr
  refine ⟨us, hr.rd (Rdt_cap ht h), by omega, fun u hu => ?_⟩
  obtain ⟨i, hi, rfl⟩ := List.getElem_of_mem hu
  exact (h2 i _ (List.getElem?_eq_getElem hi)).2
theorem open_bss {W : World} {v : Value} (h : Rdt P W ty.s_s_uint8 [v]) : ∃ xss, RdBs W v xss ∧ xss.length ≤ 9223372036854775807 ∧ ∀ x ∈ xss, x.length ≤ 9223372036854775807 := by
  obtain ⟨us, h1, h2, h3⟩ := open_ones und.s_s_uint8 (by kernel_rfl) h
  obtain ⟨xss, k1, k2⟩ := exists_list (n := us.length) (p := fun i (x : List UInt8) => (∃ u, us[i]? = some u ∧ Rd W u (x.map bv)) ∧ x.length ≤ 9223372036854775807) fun i hi => by
    obtain ⟨v', bs, e1, e2, e3⟩ := Rdt.bytes und.s_uint8 und.uint8 (by kernel_rfl) (h3 _ (List.getElem_mem hi))
    cases e1
    exact ⟨bs, ⟨_, List.getElem?_eq_getElem hi, e2⟩, e3⟩
  refine ⟨xss, ⟨us, h1, k1.symm, fun i u x hu hx => ?_⟩, by rw [k1]; exact h2, fun x hx => ?_⟩
  · obtain ⟨⟨u', hu', hr⟩, _⟩ := k2 i x hx
    rw [hu] at hu'; cases hu'; exact hr
  · obtain ⟨i, hi, rfl⟩ := List.getElem_of_mem hx
    exact (k2 i _ (List.getElem?_eq_getElem hi)).2
theorem open_i64s {W : World} {v : Value} (h : Rdt P W ty.s_int [v]) : ∃ ns : List Int, Rd W v (ns.map i64) ∧ ns.length ≤ 9223372036854775807 ∧ ∀ n ∈ ns, -9223372036854775808 ≤ n ∧ n ≤ 9223372036854775807 := by
  obtain ⟨us, h1, h2, h3⟩ := open_ones und.s_int (by kernel_rfl) h
  obtain ⟨ns, k1, k2⟩ := exists_list (n := us.length) (p := fun i (n : Int) => us[i]? = some (i64 n) ∧ -9223372036854775808 ≤ n ∧ n ≤ 9223372036854775807) fun i hi => by
    obtain ⟨n, e1, e2⟩ := Rdt.i64 und.int (h3 _ (List.getElem_mem hi))
    simp at e1
    exact ⟨n, by rw [List.getElem?_eq_getElem hi, e1], e2⟩
  have he : us = ns.map i64 := by
    refine List.ext_getElem? fun i => ?_
    rw [List.getElem?_map]
    by_cases hi : i < ns.length
    · rw [(k2 i _ (List.getElem?_eq_getElem hi)).1, List.getElem?_eq_getElem hi]; rfl
    · rw [List.getElem?_eq_none (by omega), List.getElem?_eq_none (by omega)]; rfl
  refine ⟨ns, by rw [← he]; exact h1, by rw [k1]; exact h2, fun n hn => ?_⟩
  obtain ⟨i, hi, rfl⟩ := List.getElem_of_mem hn
  exact (k2 i _ (List.getElem?_eq_getElem hi)).2
end Go.Proofs.Ytamejkogghpbhaa
end
section
/- The disk: names, appending, renaming, removing, cutting. -/
set_option linter.unusedVariables false
set_option linter.unusedSimpArgs false
namespace Go.Proofs.Ytamejkogghpbhaa
open Go.Sx

/-! a file more, or another one; a file less -/
def put (L : Files) (a : ByteArray) (f : FR) : Files := if (find L a).isSome then upd L a f else L ++ [(a, f)]
def aput (D : Ab) (a : ByteArray) (x : List UInt8 × Nat) : Ab := if (aget D a).isSome then aset D a x else D ++ [(a, x)]
theorem aput_ab (L : Files) (a : ByteArray) (f : FR) : ab (put L a f) = aput (ab L) a (f.bs, f.syn) := by
  unfold put aput
  rw [aget_ab, Option.isSome_map]
  split
  · exact aset_ab L a f
  · simp [ab]
theorem ents_upd (L : Files) (a : ByteArray) (f : FR) : ents (upd L a f) = (ents L).map fun p => if p.1 = a then (a, ptr f.fb) else p := by
  unfold ents upd
  rw [List.map_map, List.map_map]
  apply List.map_congr_left
  intro p _
  simp only [Function.comp]
  split <;> rfl
theorem ents_put (L : Files) (a : ByteArray) (f : FR) : ents (put L a f) = ins (ents L) a (ptr f.fb) := by
  unfold put ins
  rw [get_ents, Option.isSome_map]
  split
  · exact ents_upd L a f
  · simp [ents]
theorem ents_rem (L : Files) (a : ByteArray) : ents (rem L a) = del (ents L) a := by
  unfold ents rem del
  rw [List.filter_map]
  rfl
theorem rem_sub (L : Files) (a : ByteArray) : (rem L a).Sublist L := List.filter_sublist
theorem used_sub {L L' : Files} (h : L'.Sublist L) : used L' ≤ used L := by
  unfold used
  induction h with
  | slnil => simp
  | cons a _ ih => simp; omega
  | cons_cons a _ ih => simp; omega
theorem DiskAt.rem {w w' : World} {d room m : Nat} {L : Files} (h : DiskAt w d room m L) {a : ByteArray} (hm : MapAt .string w' m (ents (rem L a))) (hc : Chg (· = m) w w') : DiskAt w' d room m (rem L a) := by
  have hs := rem_sub L a
  have hmem : ∀ p ∈ Proofs.Ytamejkogghpbhaa.rem L a, p ∈ L := fun p hp => hs.subset hp
  refine ⟨hc.keep h.blk (fun e => h.dm e), hm, h.dm, ?_, ?_, h.pair.sublist hs, h.hroom, Nat.le_trans (used_sub hs) h.fits, fun p hp => h.names p (hmem p hp)⟩
  · intro p hp
    exact (h.files p (hmem p hp)).keep hc fun b hb e => (h.apart p (hmem p hp) b hb).2 e
  · intro p hp
    exact h.apart p (hmem p hp)
theorem mem_put {L : Files} {a : ByteArray} {f : FR} {p : ByteArray × FR} (h : p ∈ put L a f) : p = (a, f) ∨ (p ∈ L ∧ p.1 ≠ a) := by
  unfold put at h
  split at h
  · unfold upd at h
    obtain ⟨q, hq, rfl⟩ := List.mem_map.1 h
    split
    · exact .inl rfl
    · rename_i hn; exact .inr ⟨hq, hn⟩
  · rename_i hn
    have hno : find L a = none := by simpa using hn
    rw [find_none] at hno
    rcases List.mem_append.1 h with h | h
    · exact .inr ⟨h, hno p h⟩
    · exact .inl (List.mem_singleton.1 h)
theorem DiskAt.put {S : Nat → Prop} {w w' : World} {d room m : Nat} {L : Files} (h : DiskAt w d room m L) {a : ByteArray} {f : FR} (hm : MapAt .string w' m (ents (put L a f))) (hc : Chg S w w')
    (hS : ∀ b, S b → b ≠ d ∧ ∀ p ∈ L, p.1 ≠ a → b ∉ p.2.blocks) (hF : FileAt w' f) (hf : ∀ b ∈ f.blocks, b ≠ d ∧ b ≠ m ∧ ∀ p ∈ L, p.1 ≠ a → b ∉ p.2.blocks)
    (hu : used (put L a f) ≤ room) (ha : mayB a = true) : DiskAt w' d room m (put L a f) := by
  refine ⟨hc.keep h.blk (fun e => (hS d e).1 rfl), hm, h.dm, ?_, ?_, ?_, h.hroom, hu, ?_⟩
  · intro p hp
    rcases mem_put hp with rfl | ⟨hp, hn⟩
    · exact hF
    · exact (h.files p hp).keep hc fun b hb e => (hS b e).2 p hp hn hb
  · intro p hp b hb
    rcases mem_put hp with rfl | ⟨hp, hn⟩
    · exact ⟨(hf b hb).1, (hf b hb).2.1⟩
    · exact h.apart p hp b hb
  · unfold Proofs.Ytamejkogghpbhaa.put
    split
    · rename_i hs
      obtain ⟨f0, hf0⟩ := Option.isSome_iff_exists.1 hs
      obtain ⟨L1, L2, rfl, h1, h2⟩ := find_split h.nodup hf0
      rw [split_upd h1 h2]
      have hp := h.pair
      rw [List.pairwise_append, List.pairwise_cons] at hp ⊢
      obtain ⟨p1, ⟨p2, p3⟩, p4⟩ := hp
      refine ⟨p1, ⟨fun p hp b hb hb2 => (hf b hb).2.2 p (by simp [hp]) (h2 p hp) hb2, p3⟩, ?_⟩
      intro p hp q hq b hb
      rcases List.mem_cons.1 hq with rfl | hq
      · exact fun hb2 => (hf b hb2).2.2 p (by simp [hp]) (h1 p hp) hb
      · exact p4 p hp q (by simp [hq]) b hb
    · rename_i hs
      have hno : find L a = none := by simpa using hs
      rw [find_none] at hno
      rw [List.pairwise_append]
      refine ⟨h.pair, List.pairwise_singleton _ _, ?_⟩
      intro p hp q hq b hb
      obtain rfl := List.mem_singleton.1 hq
      exact fun hb2 => (hf b hb2).2.2 p hp (hno p hp) hb
  · intro p hp
    rcases mem_put hp with rfl | ⟨hp, hn⟩
    · exact ha
    · exact h.names p hp
theorem foot_put {d m : Nat} {L : Files} {a : ByteArray} {f : FR} {b : Nat} (h : foot d m (put L a f) b) : foot d m L b ∨ b ∈ f.blocks := by
  rcases h with rfl | rfl | ⟨p, hp, hb⟩
  · exact .inl (.inl rfl)
  · exact .inl (.inr (.inl rfl))
  · rcases mem_put hp with rfl | ⟨hp, hn⟩
    · exact .inr hb
    · exact .inl (.inr (.inr ⟨p, hp, hb⟩))
theorem foot_rem {d m : Nat} {L : Files} {a : ByteArray} {b : Nat} (h : foot d m (rem L a) b) : foot d m L b := by
  rcases h with rfl | rfl | ⟨p, hp, hb⟩
  · exact .inl rfl
  · exact .inr (.inl rfl)
  · exact .inr (.inr ⟨p, (rem_sub L a).subset hp, hb⟩)

/-! names -/
section
variable {w : World} {K : VCont} {d room : Nat} {D : Ab} {F : Nat → Prop}
def names (D : Ab) : List ByteArray := srt (D.map (·.1))
theorem mayB_le {s : ByteArray} (h : mayB s = true) : 1 ≤ s.size ∧ s.size ≤ 20 := by
  unfold mayB at h
  simp at h
  omega
theorem keys_str {m : Nat} {l : List (ByteArray × Value)} (h : MapAt .string w m l) (hl : l.length ≤ 1000000) (hs : ∀ p ∈ l, p.1.size ≤ maxLen)
    (hK : ∀ v w', Own w' 9 1 v l.length ((srt (l.map (·.1))).map .string) → (∀ g, v.ownBlock = some g → w.heap.size ≤ g) → Chg none' w w' → K v w') :
    xCall P nr.maps_Keys_m_string_p_disk_file_string_p_disk_file [.map (some m)] w fun t w => xCall P nr.slices_Sorted_string [t] w K := by
  obtain ⟨D0, h1, h2, h3⟩ := owns_of (P := P) und.string h (by unfold maxLen; omega) hs
  refine xCall_ck (by kernel_rfl) ((callsIn_wide.1 (keys_maps_Keys_m_string_p_disk_file_string_p_disk_file (some m) w)).mono ?_)
  rintro e w1 ⟨rfl, rfl⟩
  refine ⟨_, rfl, ?_⟩
  refine xCall_ck (by kernel_rfl) ((callsIn_wide.1 (sorted_maps_Keys_m_string_p_disk_file_string_p_disk_file (H := Unit) m _ D0 R0 w h1 (by rw [h3]; unfold maxLen; omega) (by rw [h3]; omega))).mono ?_)
  rintro e w2 ⟨v, ss, rfl, hp, hrow, _, hb⟩
  refine ⟨v, rfl, ?_⟩
  obtain ⟨ho, hg⟩ := own_of_row hrow
  have hlen : ss.length = l.length := by rw [(hp.trans h2).length_eq, List.length_map]
  have hs2 : ss.mergeSort (fun x y => decide (x ≤ y)) = ((l.map (·.1)).map kbytes).mergeSort leB := by
    rw [List.map_map]
    exact mergeSort_of_perm (hp.trans h2)
  rw [hs2, hlen] at ho
  refine hK v w2 ?_ (fun g h => by have := hg g h; simp at this; omega) ((Chg.alloc w _ none').trans (chg_below hb))
  unfold srt
  rw [List.map_map]
  exact ho
theorem Names_spec (h : Disk w d room D F) (hl : D.length ≤ 1000000)
    (hK : ∀ v w', Own w' 9 1 v D.length ((names D).map .string) → (∀ g, v.ownBlock = some g → w.heap.size ≤ g) → Chg none' w w' → K v w') : xCall P nr.disk_Disk_Names [ptr d] w K := by
  obtain ⟨m, L, h1, rfl, h3⟩ := h
  refine disk_Disk_Names_call ?_
  unfold disk_Disk_Names_main
  rw [xEq_ptr und.p_disk_Disk]
  simp only [Option.isNone_some, xs, Nat.zero_add]
  rw [cell_of_block h1.blk]
  simp only [List.getElem?_toArray, List.getElem?_cons_zero]
  refine keys_str h1.map (by simpa [ents, ab] using hl) ?_ ?_
  · intro p hp
    simp only [ents, List.mem_map] at hp
    obtain ⟨q, hq, rfl⟩ := hp
    have := mayB_le (h1.names q hq)
    unfold maxLen; simp only; omega
  · intro v w' ho hg hc
    refine hK v w' ?_ hg hc
    simpa [ents, ab, names, List.map_map, Function.comp_def] using ho
end
end Go.Proofs.Ytamejkogghpbhaa
end
section
/- The disk: used, appending, renaming, removing, cutting. -/
set_option linter.unusedVariables false
set_option linter.unusedSimpArgs false
namespace Go.Sx
open Go
section
variable {P : Program} {w : World} {K : VCont}
/-- an element of a slice of the program's own -/
theorem index_own {t e : TypeId} {i : TypeInfo} (ht : P.underlying t = some (.slice e)) (hi : P.info? e = some i) (hs : i.size = 1) {v x : Value} {n k : Nat} {xs : List Value} (ho : Own w e 1 v n xs) (hx : xs[k]? = some x) (hK : K x w) :
    xIndexAddr P t v (.int .i64 k) w fun p w => xLoad1 p w K := by
  have hlen : xs.length = n := by simpa using ho.1
  have hkn : k < n := by have := (List.getElem?_eq_some_iff.1 hx).1; omega
  have hc := fun g hg => ho.cells (g := g) hg k x hx
  rcases ho.2 with ⟨rfl, h0⟩ | ⟨g, cap, cur, rfl, hb, _⟩
  · omega
  · rw [xIndexAddr_slice ht hi (by omega) (by omega), xLoad1_cell]
    have := hc g rfl
    rw [Addr.add_none] at this
    simp only [hs, Int.toNat_natCast, Nat.mul_one]
    rw [this]
    exact hK
theorem len_own {t e : TypeId} (ht : P.underlying t = some (.slice e)) {v : Value} {n size : Nat} {xs : List Value} (ho : Own w e size v n xs) (hK : K (.int .i64 n) w) : xLen P .pure #[t] v w K := by
  rcases ho.2 with ⟨rfl, h0⟩ | ⟨g, cap, cur, rfl, hb, _⟩
  · subst h0; rw [xLen_slice ht]; exact hK
  · rw [xLen_slice ht]; exact hK
/-- the first ones of a slice, all that there is room for -/
theorem cut_own {t e : TypeId} {i : TypeInfo} (ht : P.underlying t = some (.slice e)) (hi : P.info? e = some i) {v : Value} {n size k : Nat} {xs : List Value} (ho : Own w e size v n xs) (hk : k ≤ n)
    (hK : ∀ v', Own w e size v' k (xs.take (k * size)) → v'.ownBlock = v.ownBlock → K v' w) : xSlice P t v none (some (.int .i64 k)) (some (.int .i64 k)) w K := by
  rcases ho.2 with ⟨rfl, h0⟩ | ⟨g, cap, cur, rfl, hb, h1, h2, h3, h4⟩
  · have : k = 0 := by omega
    subst this
    rw [xSlice_slice ht hi (bounds_himax (by omega) (by omega) (by omega))]
    refine hK _ ⟨by simp, .inl ⟨by simp, rfl⟩⟩ (by simp [Value.ownBlock])
  · rw [xSlice_slice ht hi (bounds_himax (by omega) (by omega) (by omega))]
    have he : (if ((k : Int).toNat = 0) then some (⟨g, 0, none⟩ : Addr) else (some (⟨g, 0, none⟩ : Addr)).map (·.add (0 * i.size))) = some ⟨g, 0, none⟩ := by
      split
      · rfl
      · simp [Addr.add]
    rw [he]
    have hx : xs.length = n * size := ho.1
    have hkn : k * size ≤ n * size := Nat.mul_le_mul_right _ hk
    refine hK _ ⟨by rw [List.length_take]; omega, .inr ⟨g, k, cur, by simp, hb, Nat.le_refl _, by omega, by have := Nat.mul_le_mul_right size (Nat.le_trans hk h1); omega, ?_⟩⟩ (by simp [Value.ownBlock])
    rw [← h4, List.take_take, Nat.min_eq_left hkn]
end
end Go.Sx
namespace Go.Proofs.Ytamejkogghpbhaa
open Go.Sx
theorem aget_mem {D : Ab} (hn : (D.map (·.1)).Nodup) {p : ByteArray × List UInt8 × Nat} (hp : p ∈ D) : aget D p.1 = some p.2 := by
  unfold aget
  induction D with
  | nil => cases hp
  | cons q D ih =>
    rw [List.map_cons, List.nodup_cons] at hn
    rw [List.find?_cons]
    rcases List.mem_cons.1 hp with rfl | hp
    · simp
    · have : ¬ q.1 = p.1 := fun e => hn.1 (e ▸ List.mem_map.2 ⟨p, hp, rfl⟩)
      simp only [this, decide_false]
      exact ih hn.2 hp
theorem aget_some_mem {D : Ab} {a : ByteArray} {x : List UInt8 × Nat} (h : aget D a = some x) : (a, x) ∈ D := by
  unfold aget at h
  rw [Option.map_eq_some_iff] at h
  obtain ⟨p, hp, rfl⟩ := h
  have h1 := List.find?_some hp
  have h2 := List.mem_of_find?_eq_some hp
  have : p.1 = a := by simpa using h1
  rw [← this]; exact h2
theorem aget_none {D : Ab} {a : ByteArray} : aget D a = none ↔ ∀ p ∈ D, p.1 ≠ a := by
  unfold aget
  rw [Option.map_eq_none_iff, List.find?_eq_none]
  simp
def alen (D : Ab) (a : ByteArray) : Nat := ((aget D a).map fun x => x.1.length).getD 0
theorem sum_names {D : Ab} (hn : (D.map (·.1)).Nodup) : ((names D).map (alen D)).sum = aused D := by
  have : ((names D).map (alen D)).Perm ((D.map (·.1)).map (alen D)) := (srt_perm _).map _
  rw [this.sum_nat, List.map_map]
  unfold aused
  congr 1
  apply List.map_congr_left
  intro p hp
  simp only [Function.comp, alen, aget_mem hn hp, Option.map_some, Option.getD_some]
theorem Disk.nodup {w : World} {d room : Nat} {D : Ab} {F : Nat → Prop} (h : Disk w d room D F) : (D.map (·.1)).Nodup := by
  obtain ⟨m, L, h1, rfl, h3⟩ := h
  have := h1.nodup
  simpa [ab, List.map_map, Function.comp_def] using this
theorem Disk.mayb {w : World} {d room : Nat} {D : Ab} {F : Nat → Prop} (h : Disk w d room D F) : ∀ p ∈ D, mayB p.1 = true := by
  obtain ⟨m, L, h1, rfl, h3⟩ := h
  intro p hp
  obtain ⟨q, hq, rfl⟩ := List.mem_map.1 hp
  exact h1.names q hq
theorem Disk.synced {w : World} {d room : Nat} {D : Ab} {F : Nat → Prop} (h : Disk w d room D F) : ∀ p ∈ D, p.2.2 ≤ p.2.1.length := by
  obtain ⟨m, L, h1, rfl, h3⟩ := h
  intro p hp
  obtain ⟨q, hq, rfl⟩ := List.mem_map.1 hp
  exact (h1.files q hq).syn
theorem names_length (D : Ab) : (names D).length = D.length := by unfold names; rw [srt_length, List.length_map]
theorem mem_names {D : Ab} {a : ByteArray} : a ∈ names D ↔ ∃ x, aget D a = some x := by
  unfold names
  rw [mem_srt, List.mem_map]
  constructor
  · rintro ⟨p, hp, rfl⟩
    cases h : aget D p.1 with
    | none => exact absurd rfl (aget_none.1 h p hp)
    | some x => exact ⟨x, rfl⟩
  · rintro ⟨x, hx⟩
    exact ⟨_, aget_some_mem hx, rfl⟩
theorem take_sum {l : List Nat} (i : Nat) : (l.take i).sum ≤ l.sum := by
  have : l.sum = (l.take i ++ l.drop i).sum := by rw [List.take_append_drop]
  rw [this, List.sum_append]
  omega
theorem take_sum_succ {l : List Nat} {i x : Nat} (h : l[i]? = some x) : (l.take (i + 1)).sum = (l.take i).sum + x := by
  rw [List.take_add_one, h]
  simp

section
variable {w : World} {K : VCont} {d room : Nat} {D : Ab} {F : Nat → Prop}
theorem Used_spec (h : Disk w d room D F) (hl : D.length ≤ 1000000) (hK : ∀ w', Chg none' w w' → K (i64 (aused D)) w') : xCall P nr.disk_Disk_Used [ptr d] w K := by
  refine disk_Disk_Used_call ?_
  unfold disk_Disk_Used_main
  refine Names_spec h hl ?_
  intro v w1 ho hg hc
  refine len_own und.s_string ho ?_
  have h' := h.keep' hc
  have hsum := sum_names h.nodup
  have hfit := h.fits
  refine Lp.intro (fun s w' => w' = w1 ∧ ∃ i, i ≤ D.length ∧ s = [i64 ((((names D).map (alen D)).take i).sum), i64 i]) (fun s w' => match s with | [_, .int _ i] => D.length - i.toNat | _ => 0) ⟨rfl, 0, by omega, by simp⟩ ?_
  rintro s w' ⟨rfl, i, hi, rfl⟩ X hX
  unfold disk_Disk_Used_l1
  simp only [List.getD_cons_zero, List.getD_cons_succ, xs, xb]
  by_cases hlt : i < D.length
  · have hlt' : (i : Int) < (D.length : Int) := by omega
    simp only [hlt', decide_true, xs, xb]
    have hin : i < (names D).length := by rw [names_length]; exact hlt
    refine index_own und.s_string inf.string rfl ho (k := i) (x := .string (names D)[i]) (by simp [hin]) ?_
    simp only [xs, Nat.zero_add]
    obtain ⟨m, L, h1, rfl, h3⟩ := h'
    rw [cell_of_block h1.blk]
    simp only [List.getElem?_toArray, List.getElem?_cons_zero]
    rw [xLookup_map (v := .string (names (ab L))[i]) sk (names (ab L))[i] und.m_string_p_disk_file inf.p_disk_file rfl h1.map rfl, getD_fptr]
    obtain ⟨x, hx⟩ := mem_names.1 (List.getElem_mem hin)
    have hx' := hx
    rw [aget_ab, Option.map_eq_some_iff] at hx'
    obtain ⟨f, hf, rfl⟩ := hx'
    unfold fptr
    rw [hf]
    have hF := h1.files _ (find_mem hf)
    simp only [Option.map_some, xs, Nat.zero_add]
    rw [cell_of_block hF.blk]
    simp only [List.getElem?_toArray, List.getElem?_cons_zero]
    refine len_own und.s_uint8 hF.own ?_
    have hal : alen (ab L) (names (ab L))[i] = f.bs.length := by unfold alen; rw [hx]; rfl
    have hs1 := take_sum_succ (l := (names (ab L)).map (alen (ab L))) (i := i) (x := f.bs.length) (by simp [hin, hal])
    have hs2 := take_sum (l := (names (ab L)).map (alen (ab L))) (i + 1)
    simp only [xs, xb]
    rw [wrap_i64 (by omega) (by omega), wrap_i64 (by omega) (by omega)]
    refine hX _ _ ⟨rfl, i + 1, by omega, ?_⟩ ?_
    · simp only [hs1]; simp
    · simp only; omega
  · have hlt' : ¬ (i : Int) < (D.length : Int) := by omega
    have hi' : i = D.length := by omega
    simp only [hlt', decide_false, xs, xb]
    unfold disk_Disk_Used_j0
    subst hi'
    rw [List.take_of_length_le (by simp [names_length]), hsum]
    exact hK _ hc

theorem Remove_spec (h : Disk w d room D F) (a : ByteArray) (hN : aget D a = none → K (i64 5) w)
    (hK : ∀ x, aget D a = some x → ∀ w' F', Disk w' d room (arem D a) F' → Chg F w w' → Moves F F' w → K (i64 0) w') : xCall P nr.disk_Disk_Remove [ptr d, .string a] w K := by
  obtain ⟨m, L, h1, rfl, h3⟩ := h
  refine disk_Disk_Remove_call ?_
  unfold disk_Disk_Remove_main
  refine of_spec h1 a ?_
  unfold fptr
  rw [xEq_ptr und.p_disk_file]
  cases hf : find L a with
  | none =>
    simp only [Option.map_none, Option.isNone_none, xs, xb]
    exact hN (by rw [aget_ab, hf]; rfl)
  | some f =>
    simp only [Option.map_some, Option.isNone_some, xs, xb, Nat.zero_add]
    rw [cell_of_block h1.blk]
    simp only [List.getElem?_toArray, List.getElem?_cons_zero]
    refine xDelete_map sk a und.m_string_p_disk_file h1.map rfl ?_
    intro w' hm hc hs
    have hm' : MapAt .string w' m (ents (rem L a)) := by rw [ents_rem]; exact hm
    refine hK _ (by rw [aget_ab, hf]; rfl) w' _ ⟨m, _, h1.rem hm' hc, arem_ab L a, fun _ => Iff.rfl⟩ ?_ ?_
    · exact hc.mono fun b _ hb => (h3 b).2 (.inr (.inl hb))
    · intro b hb; exact .inl ((h3 b).2 (foot_rem hb))
end
end Go.Proofs.Ytamejkogghpbhaa
end
