/- The laws of layer 6: their helpers. -/
import Derived.Test.YtamejkogghpbhaaLogP2
import Derived.Test.YtamejkogghpbhaaTxtLaw6
import Derived.Test.YtamejkogghpbhaaOpen
set_option linter.unusedVariables false
set_option linter.unusedSimpArgs false
namespace Go.Proofs.Ytamejkogghpbhaa
open Go.Sx
def bstr (x : List UInt8) : ByteArray := ⟨x.toArray⟩
def strs (xs : List (List UInt8)) : List Value := xs.map fun x => .string (bstr x)
theorem strs_len' (R : List (List UInt8)) : (strs R).length = R.length := by simp [strs]
theorem bstr_inj {a b : List UInt8} (h : bstr a = bstr b) : a = b := by
  have := congrArg (fun s : ByteArray => s.data.toList) h
  simpa [bstr] using this
section
variable {w : World} {K : VCont} {l : List Asn} {d room p n : Nat} {D : Ab} {age : Int} {S R : List (List UInt8)} {y : Nat}
theorem Open_ls (h : Hp w (DiskA d room D :: l)) (hc : LC D age S R y) (hR : R.length ≤ 1000000000)
    (hK : ∀ p vs vr w' D' m, y ≤ m → m ≤ R.length → LS D' age S (R.take m) m → (m = 0 ∨ (logc age (R.take m)).length ≤ (acont D nlog).length) → Hp w' (LogA p d age m :: RoA (fun w => RdBs w vs S) :: RoA (fun w => RdBs w vr (R.take m)) :: DiskA d room D' :: l) → K (.tuple #[ptr p, vs, vr, i64 0]) w') :
    xCall P nr.seal_Open [ptr d] w K := by
  obtain ⟨a1, a2, es, er, m, k1, e1, k2, hor, m1, m2, ls, hm⟩ := hc.open'
  have hml : (R.take m).length = m := by rw [List.length_take]; omega
  refine seal_Open_hp h k1 k2 (by omega) ?_
  intro p vs vr w' R' e' he h
  rw [if_pos hor] at he
  cases he
  rw [e1, hml] at h
  exact hK p vs vr w' _ m m1 m2 ls hm h
theorem texts_hp {v : Value} (h : Hp w l) (hv : ∀ w, Hp w l → RdBs w v S) (hS : S.length ≤ 1000000) (hK : ∀ v' w', Hp w' (SlA ty.string 1 v' S.length (strs S) :: l) → K v' w') : xCall P nr.law6_texts [v] w K := by
  refine law6_texts_call ?_
  unfold law6_texts_main
  have h0 : Hp w (SlA ty.string 1 (.slice none 0 0) 0 [] :: l) := h.new (A := SlA ty.string 1 (.slice none 0 0) 0 []) (F := fun _ => False) ⟨Own.nil _ _ _, fun b => by simp [Value.ownBlock]⟩ (fun _ h => h.elim) (Chg.refl _ _)
  refine Lp.gen (fun m s w' => ∃ (i : Nat) (va : Value), m + i = S.length ∧ s = [va, i64 i] ∧ Hp w' (SlA ty.string 1 va i (strs (S.take i)) :: l)) S.length ⟨0, .slice none 0 0, by omega, rfl, by simpa [strs] using h0⟩ ?_
  rintro m s w2 ⟨i, va, hm, rfl, h⟩ X hX
  unfold law6_texts_l1
  simp only [List.getD_cons_zero, List.getD_cons_succ, (hv w2 h.tail).len und.s_s_uint8, xs, xb]
  by_cases hlt : i < S.length
  · have hlt' : (i : Int) < (S.length : Int) := by omega
    have hx := List.getElem?_eq_getElem hlt
    generalize S[i] = x at hx
    obtain ⟨p0, u, i0, q0, hru⟩ := (hv w2 h.tail).at und.s_s_uint8 inf.s_uint8 rfl hx
    simp only [hlt', xs, xd, i0, q0, bytes_string und.s_uint8 und.uint8 und.string hru]
    refine Hp.sl1 (size := 1) und.s_string inf.string rfl (by omega) (by omega) rfl rfl h (cs := [.string (bstr x)]) rfl rfl ?_
    intro v1 w3 h
    refine Hp.app (size := 1) (bytes := 16) und.s_string inf.string rfl rfl rfl rfl h.pick1 h.own.rdN (by simp [Value.oneCell']) (by omega) (by omega) ?_
    intro v2 w4 h
    have hi1 : IntKind.i64.wrap ((i : Int) + 1) = ((i + 1 : Nat) : Int) := by rw [wrap_i64 (by omega) (by omega)]; omega
    rw [hi1]
    refine hX (m - 1) _ _ ⟨i + 1, v2, by omega, rfl, ?_⟩ (by omega)
    have e : strs (S.take (i + 1)) = strs (S.take i) ++ [.string (bstr x)] := by
      unfold strs; rw [List.take_add_one, hx]; simp
    rw [e]
    exact h.pick1.tail
  · have hlt' : ¬ (i : Int) < (S.length : Int) := by omega
    simp only [hlt', xs, xd]
    unfold law6_texts_j0
    have hi : i = S.length := by omega
    subst hi
    rw [List.take_length] at h
    exact hK va w2 h
/-- two lists of texts: alike, or not -/
theorem Texts_spec {va vb : Value} {A B : List (List UInt8)} (ha : RdBs w va A) (hb : Rd w vb (strs B)) (hl : A.length ≤ 1000000) (hK : ∀ w', Chg none' w w' → K (.bool (decide (A = B))) w') : xCall P nr.law4_Texts [va, vb] w K := by
  refine law4_Texts_call ?_
  unfold law4_Texts_main
  have hBl : (strs B).length = B.length := by simp [strs]
  simp only [ha.len und.s_s_uint8, rd_len hb und.s_string, hBl, xs, xb]
  by_cases hlen : A.length = B.length
  rotate_left
  · have : ¬ (A.length : Int) = (B.length : Int) := by omega
    simp only [this, xs, xd]
    have := hK w (Chg.refl _ _)
    rwa [show decide (A = B) = false by rw [decide_eq_false_iff_not]; rintro rfl; exact hlen rfl] at this
  have : (A.length : Int) = (B.length : Int) := by omega
  simp only [this, xs, xd]
  refine Lp.gen (fun m s w' => ∃ i : Nat, m + i = A.length ∧ s = [i64 i] ∧ A.take i = B.take i ∧ Chg none' w w') A.length ⟨0, by omega, rfl, by simp, Chg.refl _ _⟩ ?_
  rintro m s w2 ⟨i, hm, rfl, heq, hc⟩ X hX
  unfold law4_Texts_l1
  have ha2 := ha.keep' hc
  have hb2 := hb.keep' hc
  simp only [List.getD_cons_zero, ha2.len und.s_s_uint8, xs, xb]
  by_cases hlt : i < A.length
  · have hlt' : (i : Int) < (A.length : Int) := by omega
    have hx := List.getElem?_eq_getElem hlt
    have hy := List.getElem?_eq_getElem (show i < B.length by omega)
    have hA : A.take (i + 1) = A.take i ++ [A[i]] := by rw [List.take_add_one, hx]; rfl
    have hB : B.take (i + 1) = B.take i ++ [B[i]] := by rw [List.take_add_one, hy]; rfl
    generalize A[i] = x at hx hA
    generalize B[i] = z at hy hB
    have hcd : Chg none' w w2.drew := hc.trans (Chg.drew _ _)
    obtain ⟨p0, u, i0, q0, hru⟩ := (ha.keep' hcd).at und.s_s_uint8 inf.s_uint8 rfl hx
    obtain ⟨p1, i1, q1⟩ := at_rd' und.s_string inf.string rfl (hb.keep' hcd) (k := i) (x := .string (bstr z)) (by unfold strs; rw [List.getElem?_map, hy]; rfl)
    simp only [hlt', xs, xd, i0, q0, i1, q1 _ (hb.keep' hcd), true_and, bytes_string und.s_uint8 und.uint8 und.string hru, xNe_str]
    by_cases hxz : x = z
    · subst hxz
      simp only [bstr, xs, xb, xd]
      have hi1 : IntKind.i64.wrap ((i : Int) + 1) = ((i + 1 : Nat) : Int) := by rw [wrap_i64 (by omega) (by omega)]; omega
      rw [hi1]
      exact hX (m - 1) _ _ ⟨i + 1, by omega, rfl, by rw [hA, hB, heq], hcd⟩ (by omega)
    · have hs : ¬ (⟨x.toArray⟩ : ByteArray) = bstr z := fun e => hxz (bstr_inj (a := x) (b := z) e)
      simp only [hs, xs, xb, xd]
      have := hK w2.drew hcd
      rwa [show decide (A = B) = false by
        rw [decide_eq_false_iff_not]
        rintro rfl
        rw [hx] at hy; cases hy; exact hxz rfl] at this
  · have hlt' : ¬ (i : Int) < (A.length : Int) := by omega
    simp only [hlt', xs, xd]
    unfold law4_Texts_j0
    have hi : i = A.length := by omega
    subst hi
    rw [List.take_length, hlen, List.take_length] at heq
    have := hK w2 hc
    rwa [show decide (A = B) = true by simp [heq]] at this
end
end Go.Proofs.Ytamejkogghpbhaa
