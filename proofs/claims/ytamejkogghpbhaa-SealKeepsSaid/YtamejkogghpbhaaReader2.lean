/- Readers: their functions. -/
import Derived.Test.YtamejkogghpbhaaReader
set_option linter.unusedVariables false
set_option linter.unusedSimpArgs false
namespace Go.Proofs.Ytamejkogghpbhaa
open Go.Sx
section
variable {w : World} {K : VCont} {l : List Asn} {p : Nat} {bs : List UInt8}
theorem SlA.ro {v : Value} {n : Nat} {xs : List Value} {e : TypeId} (h : Hp w (SlA e 1 v n xs :: l)) : Hp w (RoA (fun w => Rd w v xs) :: l) := h.ofSl.roMono fun w h => h.rd
theorem own_sl {e size n : Nat} {v : Value} {xs : List Value} (h : Own w e size v n xs) : ∃ a m c, v = .slice a m c := by
  rcases h.2 with ⟨rfl, _⟩ | ⟨g, cap, cur, rfl, _⟩
  · exact ⟨_, _, _, rfl⟩
  · exact ⟨_, _, _, rfl⟩
theorem build_Reader {v : Value} (hv : ∃ a m c, v = .slice a m c) : xBuild P ty.pack_Reader [(0, v)] w K = K (.agg #[v, .bool false]) w := by
  obtain ⟨a, m, c, rfl⟩ := hv
  unfold xBuild
  exact xp_iff fun w' => by kernel_rfl
theorem pack_New_hp {v : Value} (h : Hp w l) (hr : Rd w v (bs.map bv)) (hl : bs.length ≤ 10000000) (hK : ∀ p w', Hp w' (RdrA p bs :: l) → K (ptr p) w') : xCall P nr.pack_New [v] w K := by
  refine pack_New_call ?_
  unfold pack_New_main
  obtain ⟨F0, _, fr0⟩ := Hp.frame (L := []) h
  refine buildSlice0 (size := 1) und.s_uint8 inf.uint8 rfl ?_
  intro v1 w1 ho1 hb1 hc1 hs1
  have h1 : Hp w1 (SlA ty.uint8 1 v1 0 [] :: l) := h.new (A := SlA ty.uint8 1 v1 0 []) (F := fun x => v1.ownBlock = some x) ⟨ho1, fun _ => Iff.rfl⟩ (fun b e => by rw [hb1] at e; cases e; omega) hc1
  refine Hp.app (size := 1) (bytes := 1) und.s_uint8 inf.uint8 rfl rfl rfl rfl h1 (hr.keep' hc1).rdN (bv_one _) (by simp; omega) (by omega) ?_
  intro v2 w2 h
  rw [build_Reader (own_sl h.own)]
  refine Hp.box h (cs := [v2, .bool false]) rfl ?_
  intro p w3 h
  refine hK p w3 (RdrA.op.2 ⟨v2, ?_⟩)
  exact (SlA.ro h.pick1).pick1
theorem Reader_Int_c1_hp {b1 b2 : Nat} {lo hi v : Int} {bsv : Value} {rest : List UInt8} (h : Hp w (BlkA b2 ty.int64 [i64 hi] :: BlkA b1 ty.int64 [i64 lo] :: l)) (hr : Rd w bsv (bs.map bv)) (hb : bs = vint (zig v) ++ rest) (hl : bs.length ≤ 10000000)
    (h0 : 0 ≤ v) (h1 : v ≤ 9223372036854775807) (hlo : lo ≤ v) (hhi : v ≤ hi) (hK : K (.tuple #[i64 v, i64 (vint (zig v)).length]) w) : xCall P nr.pack_Reader_Int_c1 [bsv, ptr b1, ptr b2] w K := by
  refine pack_Reader_Int_c1_call ?_
  unfold pack_Reader_Int_c1_main
  have hz : zig v = (2 * v).toNat := by unfold zig; rw [if_pos h0]
  have hz64 : zig v < 2 ^ 64 := by omega
  refine groups_spec hr hb hl hz64 ?_
  simp only [xs, xb, xd]
  have e1 : ∀ K : VCont, xBin P .shr ty.uint64 (un (zig v)) (.int .u64 1) w K = K (un (zig v / 2)) w := fun K => shr_un .u64 (zig v) 1 (by omega)
  have e2 : ∀ (n : Nat) (K : VCont), n < 2 ^ 63 → xConvK P .pure ty.uint64 ty.int64 (un n) w K = K (i64 n) w := fun n K hn => by
    rw [xConv_int _ _ .i64 .u64 _ und.uint64 und.int64, wrap_i64 (by omega) (by omega)]
  rw [e1, e2 _ _ (by omega), and1_un _ hz64, e2 _ _ (by omega), xUn_neg]
  have hz2 : ((zig v / 2 : Nat) : Int) = v := by omega
  have hz3 : zig v % 2 = 0 := by omega
  rw [hz2, hz3]
  have hneg : IntKind.i64.wrap (0 - ((0 : Nat) : Int)) = 0 := by rw [wrap_i64 (by omega) (by omega)]; omega
  rw [hneg, xBin_xor]
  obtain ⟨n, rfl⟩ : ∃ n : Nat, v = n := ⟨v.toNat, by omega⟩
  have hx : ((BitVec.ofInt IntKind.i64.bits (n : Int) ^^^ BitVec.ofInt IntKind.i64.bits (0 : Int)).toNat : Nat) = n := by
    show (BitVec.ofInt 64 (n : Int) ^^^ BitVec.ofInt 64 ((0 : Nat) : Int)).toNat = n
    rw [BitVec.ofInt_natCast, BitVec.ofInt_natCast, BitVec.toNat_xor, BitVec.toNat_ofNat, BitVec.toNat_ofNat]
    simp
    omega
  rw [hx, wrap_i64 (by omega) (by omega)]
  have hn1 : ¬ (n : Int) < lo := by omega
  have hn2 : ¬ hi < (n : Int) := by omega
  simp only [xs, xb, xd, h.c1, h.c0, List.getElem?_cons_zero, hn1, hn2]
  exact hK
theorem Reader_Int_hp {lo hi v : Int} {rest : List UInt8} (h : Hp w (RdrA p (vint (zig v) ++ rest) :: l)) (hl : (vint (zig v) ++ rest).length ≤ 10000000)
    (h0 : 0 ≤ v) (h1 : v ≤ 9223372036854775807) (hlo : lo ≤ v) (hhi : v ≤ hi) (hK : ∀ w', Hp w' (RdrA p rest :: l) → K (i64 v) w') : xCall P nr.pack_Reader_Int [ptr p, i64 lo, i64 hi] w K := by
  refine pack_Reader_Int_call ?_
  unfold pack_Reader_Int_main
  refine Hp.box h (cs := [i64 lo]) rfl ?_
  intro b1 w1 h
  refine Hp.box h (cs := [i64 hi]) rfl ?_
  intro b2 w2 h
  refine pack_take_int64_call ?_
  unfold pack_take_int64_main
  obtain ⟨v0, hh⟩ := RdrA.op.1 h.pick2
  rw [xEq_ptr und.p_pack_Reader]
  simp only [xs, xb, xd, Option.isNone_some, Nat.zero_add, hh.c0, List.getElem?_cons_zero, List.getElem?_cons_succ]
  refine (xCallV_func nr.pack_Reader_Int_c1 [ptr b1, ptr b2] [v0]).mpr ?_
  have hrd := hh.pick1.ro
  have hvl := vint_len (zig v)
  refine Reader_Int_c1_hp h hrd rfl hl h0 h1 hlo hhi ?_
  have hng : ¬ (((vint (zig v)).length : Nat) : Int) < 1 := by omega
  obtain ⟨v', ex, hv'⟩ := tail_rd (P := P) und.s_uint8 inf.uint8 rfl hrd (lo := (vint (zig v)).length) (by simp)
  have hone : v'.oneCell' = true := by obtain ⟨_, _, rfl, _⟩ := hv' w2 hrd; rfl
  simp only [xs, xb, xd, hng, Nat.zero_add, hh.c0, List.getElem?_cons_zero, List.getElem?_cons_succ, ex]
  refine Hp.st hh inf.s_uint8 rfl hone (by simp) ?_
  intro w3 h
  refine hK w3 ?_
  have h := (RdrA.op.2 ⟨v', ((h.pick1.roMono (q := fun w => Rd w v' (rest.map bv)) fun w hr => ?_).pick1)⟩ : Hp w3 (RdrA p rest :: _))
  · exact (h.pick1.tail.pick1.tail)
  · have := hv' w hr
    rw [List.map_append] at this
    rwa [show (vint (zig v)).length = ((vint (zig v)).map bv).length by simp, List.drop_left] at this
theorem Reader_End_hp (h : Hp w (RdrA p bs :: l)) (hK : K (i64 (if bs = [] then 0 else 3)) w) : xCall P nr.pack_Reader_End [ptr p] w K := by
  refine pack_Reader_End_call ?_
  unfold pack_Reader_End_main
  obtain ⟨v0, hh⟩ := RdrA.op.1 h
  rw [xEq_ptr und.p_pack_Reader]
  simp only [xs, xb, xd, Option.isNone_some, Nat.zero_add, hh.c0, List.getElem?_cons_zero, List.getElem?_cons_succ, rd_len hh.pick1.ro und.s_uint8, List.length_map]
  cases bs with
  | nil =>
    have : ¬ (0 : Int) < ((([] : List UInt8).length : Nat) : Int) := by simp
    simp only [this, xs, xb, xd]
    simpa using hK
  | cons b bs =>
    have : (0 : Int) < (((b :: bs).length : Nat) : Int) := by simp
    simp only [this, xs, xb, xd]
    simpa using hK
end
end Go.Proofs.Ytamejkogghpbhaa
