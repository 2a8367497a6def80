/- A disk's list and the document's rows: each step of the two. -/
import Derived.Test.YtamejkogghpbhaaSame5
set_option linter.unusedVariables false
set_option linter.unusedSimpArgs false
namespace Go.Proofs.Ytamejkogghpbhaa
open Go.Sx
theorem Rel.congr {D D' : Ab} {R : List RF} (h : Rel D R) (hn : Nd D') (hg : ∀ a, aget D' a = aget D a) : Rel D' R := ⟨hn, h.srt, fun a => (hg a).trans (h.get a)⟩
theorem Rel.getAt {D : Ab} {R : List RF} (h : Rel D R) {a : ByteArray} {r : RF} (hr : R[idx R a]? = some r) (hra : r.1 = a) : aget D a = some (r.2.1.data.toList, r.2.2) := by
  rw [h.get a]; exact get_at h.srt hr hra
theorem Rel.none {D : Ab} {R : List RF} (h : Rel D R) {a : ByteArray} (hat : isAt R a = false) : aget D a = none := by
  rw [h.get a]; exact get_no h.srt hat
theorem toList_append (a b : ByteArray) : (a ++ b).data.toList = a.data.toList ++ b.data.toList := by simp
theorem Rel.app {D : Ab} {R : List RF} (h : Rel D R) (a : ByteArray) (bs : List UInt8) : Rel (aput D a ((aold D a).1 ++ bs, (aold D a).2)) (radd R a ⟨bs.toArray⟩) := by
  cases hat : isAt R a with
  | true =>
    obtain ⟨r, hr, hra⟩ := isAt_some hat
    have hg := h.getAt hr hra
    have e1 : radd R a ⟨bs.toArray⟩ = R.set (idx R a) (r.1, r.2.1 ++ ⟨bs.toArray⟩, r.2.2) := by unfold radd; rw [hr]; simp [hra]
    have e2 : aput D a ((aold D a).1 ++ bs, (aold D a).2) = aset D a ((r.2.1 ++ ⟨bs.toArray⟩).data.toList, r.2.2) := by
      unfold aput aold; rw [hg, toList_append]; simp
    rw [e1, e2]
    exact h.set hr hra _ _
  | false =>
    have hg := h.none hat
    have e1 : radd R a ⟨bs.toArray⟩ = R.take (idx R a) ++ (a, ⟨bs.toArray⟩, 0) :: R.drop (idx R a) := by
      unfold radd
      unfold isAt at hat
      cases hr : R[idx R a]? with
      | none => rfl
      | some r =>
        rw [hr] at hat
        have : ¬ r.1 = a := by simpa using hat
        simp [this]
    have e2 : ((aold D a).1 ++ bs, (aold D a).2) = ((⟨bs.toArray⟩ : ByteArray).data.toList, 0) := by unfold aold; rw [hg]; simp
    rw [e1, e2]
    exact h.add hat _ _
theorem Rel.sync {D : Ab} {R : List RF} (h : Rel D R) {a : ByteArray} {r : RF} (hr : R[idx R a]? = some r) (hra : r.1 = a) : (async D a).2 = 0 ∧ Rel (async D a).1 (R.set (idx R a) (r.1, r.2.1, r.2.1.size)) := by
  have hg := h.getAt hr hra
  unfold async
  rw [hg]
  refine ⟨rfl, ?_⟩
  exact h.set hr hra r.2.1 r.2.1.size
theorem extract_take (s : ByteArray) (k : Nat) : (s.extract 0 k).data.toList = s.data.toList.take k := by
  simp [ByteArray.data_extract, Array.toList_extract, List.extract]
theorem Rel.cut {D : Ab} {R : List RF} (h : Rel D R) {a : ByteArray} {r : RF} (hr : R[idx R a]? = some r) (hra : r.1 = a) {k : Nat} (hk : k ≤ r.2.1.size) : (acut D a k).2 = 0 ∧ Rel (acut D a k).1 (R.set (idx R a) (r.1, r.2.1.extract 0 k, k)) := by
  have hg := h.getAt hr hra
  have hk' : k ≤ r.2.1.data.toList.length := hk
  unfold acut
  rw [hg]
  simp only
  rw [if_neg (by omega)]
  refine ⟨rfl, ?_⟩
  have := h.set hr hra (r.2.1.extract 0 k) k
  rw [extract_take] at this
  simpa using this
theorem Rel.del {D : Ab} {R : List RF} (h : Rel D R) (a : ByteArray) : (adel D a).2 = (if isAt R a then 0 else 5) ∧ Rel (adel D a).1 (rrem R a) := by
  have hr := h.rem a
  rw [h.at a]
  unfold adel
  cases hg : aget D a with
  | none =>
    refine ⟨rfl, hr.congr h.nd fun b => ?_⟩
    show aget D b = _
    rw [aget_arem]
    by_cases hb : a = b
    · subst hb; rw [hg]; simp
    · simp [hb]
  | some x => exact ⟨rfl, hr⟩
theorem Rel.same {D : Ab} {R : List RF} (h : Rel D R) {a : ByteArray} {x : List UInt8 × Nat} (hx : aget D a = some x) : Rel (aput (arem D a) a x) R := by
  refine h.congr ((h.nd.arem a).aput a x) fun b => ?_
  rw [aget_aput, aget_arem]
  split
  · rename_i hb; rw [← hb]; exact hx.symm
  · rfl
theorem Rel.ren {D : Ab} {R : List RF} (h : Rel D R) {a c : ByteArray} {r : RF} (hr : R[idx R a]? = some r) (hra : r.1 = a) : Rel (aput (arem D a) c (r.2.1.data.toList, r.2.2)) (rren R a c r) := by
  have h2 := (h.rem a).rem c
  have hn : isAt (rrem (rrem R a) c) c = false := by
    rw [h2.at c, aget_arem]; simp
  have h3 := h2.add hn r.2.1 r.2.2
  unfold rren
  refine h3.congr ((h.nd.arem a).aput c _) fun b => ?_
  rw [aget_aput, aget_aput, aget_arem (arem D a) c]
  by_cases hb : c = b <;> simp [hb]
theorem aget_acrash (keep : Int) (D : Ab) (a : ByteArray) : aget (acrash keep D) a = (aget D a).map (cr keep) := by
  unfold aget acrash
  rw [List.find?_map]
  simp only [Option.map_map]
  rfl
theorem toAb_crash (keep : Int) (R : List RF) : toAb (R.map (rcr keep)) = acrash keep (toAb R) := by
  unfold toAb acrash
  rw [List.map_map, List.map_map]
  apply List.map_congr_left
  intro r _
  simp only [Function.comp, rcr, cr]
  rw [extract_take]
  rfl
theorem Rel.crash {D : Ab} {R : List RF} (h : Rel D R) (keep : Int) : Rel (acrash keep D) (R.map (rcr keep)) := by
  refine ⟨?_, ?_, fun a => ?_⟩
  · have : (acrash keep D).map (·.1) = D.map (·.1) := by unfold acrash; rw [List.map_map]; rfl
    unfold Nd; rw [this]; exact h.nd
  · unfold Srt; rw [List.pairwise_map]; exact h.srt
  · rw [toAb_crash, aget_acrash, aget_acrash, h.get]
theorem Rel.perm {D D' : Ab} {R : List RF} (h : Rel D R) (hp : D'.Perm D) : Rel D' R := by
  have hn : Nd D' := (hp.map _).nodup_iff.2 h.nd
  refine h.congr hn fun a => ?_
  cases hg : aget D a with
  | some x => exact aget_mem hn (p := (a, x)) (hp.mem_iff.2 (aget_some_mem hg))
  | none => rw [aget_none] at hg ⊢; intro p hp'; exact hg p (hp.mem_iff.1 hp')
theorem rrem_le (R : List RF) (a : ByteArray) : (rrem R a).length ≤ R.length := rrem_len R a
theorem rren_len (R : List RF) (a c : ByteArray) (r : RF) : (rren R a c r).length ≤ R.length + 1 := by
  have h1 := rrem_len R a
  have h2 := rrem_len (rrem R a) c
  have h3 := idx_le (rrem (rrem R a) c) c
  unfold rren
  simp only [List.length_append, List.length_cons, List.length_take, List.length_drop]
  omega
theorem radd_len (R : List RF) (a s : ByteArray) : (radd R a s).length ≤ R.length + 1 := by
  have h3 := idx_le R a
  unfold radd
  split
  · split
    · simp
    · simp only [List.length_append, List.length_cons, List.length_take, List.length_drop]; omega
  · simp only [List.length_append, List.length_cons, List.length_take, List.length_drop]; omega
end Go.Proofs.Ytamejkogghpbhaa
