/- The disk and the document's are the same. -/
import Derived.Test.YtamejkogghpbhaaRefD10
import Derived.Test.YtamejkogghpbhaaTxtPlays
set_option linter.unusedVariables false
set_option linter.unusedSimpArgs false
namespace Go.Proofs.Ytamejkogghpbhaa
open Go.Sx
section
variable {w : World} {K : VCont} {d x room : Nat} {D : Ab} {R : List RF} {l : List Asn}
theorem same_spec (h : Hp w (DiskA d room D :: RefB x room R :: l)) (hr : Rel D R) (hl : R.length ≤ 999999) (hK : ∀ w', Hp w' (DiskA d room D :: RefB x room R :: l) → K (.bool true) w') : xCall P nr.law5_same [ptr d, ptr x] w K := by
  have hlen := hr.length
  obtain ⟨F, hF⟩ : ∃ F, Disk w d room D F := h.head
  have hfit := hF.fits
  have hsy := hF.synced
  refine law5_same_call ?_
  unfold law5_same_main
  refine Names_hp h (by omega) ?_
  intro v1 w1 h
  obtain ⟨sv, ho⟩ := RefB.open'.1 h.pick2
  simp only [xs, xb, xd, Nat.zero_add, len_own_eq und.s_string h.own, ho.c0, List.getElem?_cons_zero, List.getElem?_cons_succ, len_own_eq und.s_ref5_File ho.pick1.own, ← hlen]
  refine Used_hp h.pick1 (by omega) ?_
  intro w2 h
  obtain ⟨F2, hF2, fr2⟩ := h.pick2.frame1
  refine rused_spec (show RefAt w2 x room R F2 from hF2) (by omega) (by rw [hr.used]; omega) ?_
  simp only [xs, xb, xd, hr.used]
  refine Lp.gen (fun n s w' => ∃ i : Nat, n + i = R.length ∧ s = [i64 i] ∧ Hp w' (SlA ty.string 1 v1 R.length ((R.map (·.1)).map .string) :: DiskA d room D :: RefB x room R :: l)) R.length ⟨0, by omega, by simp, by rw [← hr.namesOf, hlen]; exact h.pick1⟩ ?_
  rintro n s w3 ⟨i, hni, rfl, h⟩ X hX
  unfold law5_same_l1
  simp only [List.getD_cons_zero, xs, xb, xd, len_own_eq und.s_string h.own]
  by_cases hlt : i < R.length
  · have hlt' : (i : Int) < (R.length : Int) := by omega
    have hr0 := List.getElem?_eq_getElem hlt
    have hm := hr.mem (List.getElem_mem hlt)
    generalize R[i] = r at hr0 hm
    have hs := hsy _ (aget_some_mem hm)
    have hge := rused_ge hr0
    rw [hr.used] at hge
    have hf := flat_get hr0
    obtain ⟨g1, hg1, ix1, c1⟩ := own_at (size := 1) und.s_string inf.string rfl h.own hlt
    have hn1 : ((R.map (·.1)).map Value.string)[i * 1]? = some (.string r.1) := by simp [hr0]
    simp only [hlt', xs, xb, xd, ix1, c1 _ _ hn1]
    refine Read_hp h.pick1 _ (fun e => by rw [hm] at e; cases e) ?_
    intro y hy v4 w4 h
    rw [hm] at hy; cases hy
    have h := h.drew
    have rd4 := h.own.rd
    have c1 := h.sc2 hg1
    obtain ⟨sv, ho⟩ := RefB.open'.1 h.pick3
    obtain ⟨g2, hg2, ix2, c2⟩ := own_at (size := 3) und.s_ref5_File inf.ref5_File rfl ho.pick1.own hlt
    have estr : (⟨r.2.1.data.toList.toArray⟩ : ByteArray) = r.2.1 := by simp
    simp only [xs, xb, xd, Nat.zero_add, ix1, c1 _ _ hn1, ho.c0, List.getElem?_cons_zero, List.getElem?_cons_succ, ix2, Nat.add_zero, c2 _ _ hf.1, c2 _ _ hf.2.1, c2 _ _ hf.2.2, true_and, xNe_str, bytes_string und.s_uint8 und.uint8 und.string rd4, estr]
    refine Synced_hp h.pick1 _ ?_
    have ea : asyn D r.1 = r.2.2 := by unfold asyn; rw [hm]; rfl
    simp only [ea, xs, xb, xd, true_and, and_self, c2 _ _ hf.2.2, ho.c0, List.getElem?_cons_zero, List.getElem?_cons_succ]
    rw [wrap_i64 (by omega) (by omega)]
    exact hX (n - 1) _ _ ⟨i + 1, by omega, by simp, h.tail.pick1⟩ (by omega)
  · have hlt' : ¬ (i : Int) < (R.length : Int) := by omega
    simp only [hlt', xs, xb, xd]
    unfold law5_same_j0
    exact hK _ h.tail
end
end Go.Proofs.Ytamejkogghpbhaa
