/- A disk's list and the document's rows: that they tell the same; that each step keeps it. -/
import Derived.Test.YtamejkogghpbhaaDiskHp
import Derived.Test.YtamejkogghpbhaaRefD9
set_option linter.unusedVariables false
set_option linter.unusedSimpArgs false
namespace Go.Proofs.Ytamejkogghpbhaa
open Go.Sx
theorem slt_irrefl (a : ByteArray) : slt a a = false := by unfold slt; simp
theorem slt_trans {a b c : ByteArray} (h : slt a b = true) (k : slt b c = true) : slt a c = true := by
  unfold slt at *
  rw [decide_eq_true_eq] at *
  exact List.lt_trans h k
theorem slt_tri {a b : ByteArray} (h : slt a b = false) (k : slt b a = false) : a = b := by
  unfold slt at *
  rw [decide_eq_false_iff_not] at *
  have := List.le_antisymm (List.not_lt.1 k) (List.not_lt.1 h)
  have := congrArg kstr this
  rwa [kstr_kbytes, kstr_kbytes] at this
theorem slt_asymm {a b : ByteArray} (h : slt a b = true) : slt b a = false := by
  cases hb : slt b a with
  | false => rfl
  | true => have := slt_trans h hb; rw [slt_irrefl] at this; cases this
def Srt (R : List RF) : Prop := R.Pairwise fun r q => slt r.1 q.1 = true
def toAb (R : List RF) : Ab := R.map fun r => (r.1, r.2.1.data.toList, r.2.2)
structure Rel (D : Ab) (R : List RF) : Prop where
  nd : Nd D
  srt : Srt R
  get : ∀ a, aget D a = aget (toAb R) a
theorem toAb_append (R S : List RF) : toAb (R ++ S) = toAb R ++ toAb S := by simp [toAb]
theorem idx_take {R : List RF} {a : ByteArray} : ∀ r ∈ R.take (idx R a), slt r.1 a = true := by
  induction R with
  | nil => simp
  | cons q R ih =>
    intro r hr
    unfold idx at hr
    split at hr
    · rw [List.take_succ_cons, List.mem_cons] at hr
      rcases hr with rfl | hr
      · assumption
      · exact ih r hr
    · simp at hr
theorem idx_drop {R : List RF} (hs : Srt R) {a : ByteArray} : ∀ r ∈ R.drop (idx R a), slt r.1 a = false := by
  induction R with
  | nil => simp
  | cons q R ih =>
    unfold Srt at hs
    rw [List.pairwise_cons] at hs
    intro r hr
    unfold idx at hr
    split at hr
    · rw [List.drop_succ_cons] at hr
      exact ih hs.2 r hr
    · rename_i h
      have h : slt q.1 a = false := by simpa using h
      rw [List.drop_zero, List.mem_cons] at hr
      rcases hr with rfl | hr
      · exact h
      · cases hx : slt r.1 a with
        | false => rfl
        | true => have := slt_trans (hs.1 r hr) hx; rw [h] at this; cases this
theorem aget_toAb_none {R : List RF} {a : ByteArray} (h : ∀ r ∈ R, r.1 ≠ a) : aget (toAb R) a = none := by
  rw [aget_none]
  intro p hp
  unfold toAb at hp
  obtain ⟨r, hr, rfl⟩ := List.mem_map.1 hp
  exact h r hr
theorem take_ne {R : List RF} {a : ByteArray} : ∀ r ∈ R.take (idx R a), r.1 ≠ a := by
  intro r hr e
  have := idx_take r hr
  rw [e, slt_irrefl] at this; cases this
theorem isAt_split {R : List RF} (hs : Srt R) {a : ByteArray} (h : isAt R a = true) : ∃ r, R[idx R a]? = some r ∧ r.1 = a ∧ R = R.take (idx R a) ++ r :: R.drop (idx R a + 1) ∧ ∀ q ∈ R.drop (idx R a + 1), slt a q.1 = true := by
  obtain ⟨r, hr, hra⟩ := isAt_some h
  have hlt := (List.getElem?_eq_some_iff.1 hr).1
  have hd : R.drop (idx R a) = r :: R.drop (idx R a + 1) := by
    rw [List.drop_eq_getElem_cons hlt]
    congr 1
    exact (List.getElem?_eq_some_iff.1 hr).2
  refine ⟨r, hr, hra, ?_, ?_⟩
  · conv => lhs; rw [← List.take_append_drop (idx R a) R, hd]
  · intro q hq
    unfold Srt at hs
    have h2 : (R.drop (idx R a)).Pairwise fun r q => slt r.1 q.1 = true := hs.sublist (List.drop_sublist _ _)
    rw [hd, List.pairwise_cons] at h2
    have := h2.1 q hq
    rwa [hra] at this
theorem not_at {R : List RF} (hs : Srt R) {a : ByteArray} (h : isAt R a = false) : ∀ q ∈ R.drop (idx R a), slt a q.1 = true := by
  intro q hq
  obtain ⟨i, hi, rfl⟩ := List.getElem_of_mem hq
  have h0 := idx_drop hs _ hq
  cases hx : slt a (R.drop (idx R a))[i].1 with
  | true => rfl
  | false =>
    exfalso
    have e := slt_tri hx h0
    -- it stands at the front
    unfold isAt at h
    rcases i with _ | i
    · have hlt : idx R a < R.length := by rw [List.length_drop] at hi; omega
      rw [List.getElem?_eq_getElem hlt] at h
      have : R[idx R a].1 = a := by have := e.symm; simpa using this
      simp [this] at h
    · have h2 : (R.drop (idx R a)).Pairwise fun r q => slt r.1 q.1 = true := hs.sublist (List.drop_sublist _ _)
      have := (List.pairwise_iff_getElem.1 h2) 0 (i + 1) (by omega) hi (by omega)
      rw [← e] at this
      have h3 := idx_drop hs _ (List.getElem_mem (show 0 < (R.drop (idx R a)).length by omega))
      rw [h3] at this; cases this
theorem get_mid {A B : Ab} {a : ByteArray} {x : List UInt8 × Nat} (h : aget A a = none) (b : ByteArray) : aget (A ++ (a, x) :: B) b = if a = b then some x else aget (A ++ B) b := by
  rw [aget_append, aget_append, aget_cons]
  by_cases hb : a = b
  · subst hb; simp [h]
  · simp [hb]
theorem get_at {R : List RF} (hs : Srt R) {a : ByteArray} {r : RF} (hr : R[idx R a]? = some r) (hra : r.1 = a) : aget (toAb R) a = some (r.2.1.data.toList, r.2.2) := by
  have hat : isAt R a = true := by unfold isAt; rw [hr]; simpa using hra
  obtain ⟨r', hr', _, he, _⟩ := isAt_split hs hat
  rw [hr] at hr'; cases hr'
  rw [he, toAb_append, aget_append, aget_toAb_none take_ne]
  show aget ((r.1, r.2.1.data.toList, r.2.2) :: toAb _) a = _
  rw [aget_cons]
  simp [hra]
theorem get_no {R : List RF} (hs : Srt R) {a : ByteArray} (h : isAt R a = false) : aget (toAb R) a = none := by
  refine aget_toAb_none fun r hr e => ?_
  rw [← List.take_append_drop (idx R a) R, List.mem_append] at hr
  rcases hr with hr | hr
  · exact take_ne r hr e
  · have := not_at hs h r hr
    rw [e, slt_irrefl] at this; cases this
/-- one row is another -/
theorem Rel.set {D : Ab} {R : List RF} (h : Rel D R) {a : ByteArray} {r : RF} (hr : R[idx R a]? = some r) (hra : r.1 = a) (s : ByteArray) (k : Nat) : Rel (aset D a (s.data.toList, k)) (R.set (idx R a) (r.1, s, k)) := by
  have hat : isAt R a = true := by unfold isAt; rw [hr]; simpa using hra
  obtain ⟨r', hr', _, he, hd⟩ := isAt_split h.srt hat
  rw [hr] at hr'; cases hr'
  have hlt := (List.getElem?_eq_some_iff.1 hr).1
  refine ⟨h.nd.aset _ _, ?_, ?_⟩
  · have h1 := h.srt
    unfold Srt at *
    have e : (R.set (idx R a) (r.1, s, k)).map (·.1) = R.map (·.1) := by
      rw [List.map_set]
      refine List.ext_getElem? fun i => ?_
      rw [List.getElem?_set]
      split
      · rename_i hi; subst hi; simp [hlt]
        exact congrArg (·.1) (List.getElem?_eq_some_iff.1 hr).2.symm
      · rfl
    have h2 : (R.map (·.1)).Pairwise fun a b => slt a b = true := List.pairwise_map.2 h1
    rw [← e] at h2
    exact List.pairwise_map.1 h2
  · intro b
    rw [aget_aset, h.get b, List.set_eq_take_append_cons_drop, if_pos hlt, toAb_append]
    show _ = aget (toAb _ ++ (r.1, s.data.toList, k) :: toAb _) b
    rw [hra, get_mid (aget_toAb_none take_ne)]
    by_cases hb : a = b
    · subst hb
      rw [get_at h.srt hr hra]; simp
    · simp only [hb, if_false]
      conv => lhs; rw [he, toAb_append]
      show aget (toAb _ ++ (r.1, _, _) :: toAb _) b = _
      rw [hra, get_mid (aget_toAb_none take_ne), if_neg hb]
/-- one row goes -/
theorem Rel.rem {D : Ab} {R : List RF} (h : Rel D R) (a : ByteArray) : Rel (arem D a) (rrem R a) := by
  unfold rrem
  cases hat : isAt R a with
  | false =>
    refine ⟨h.nd.arem _, h.srt, fun b => ?_⟩
    rw [aget_arem]
    split
    · rename_i hb; subst hb; simpa using (get_no h.srt hat).symm
    · exact h.get b
  | true =>
    obtain ⟨r, hr, hra, he, hd⟩ := isAt_split h.srt hat
    refine ⟨h.nd.arem _, ?_, fun b => ?_⟩
    · have h1 := h.srt
      unfold Srt at *
      rw [he] at h1
      simp only [if_true]
      rw [List.pairwise_append, List.pairwise_cons] at h1
      rw [List.pairwise_append]
      exact ⟨h1.1, h1.2.1.2, fun p hp q hq => h1.2.2 p hp q (by simp [hq])⟩
    · rw [aget_arem, h.get b]
      simp only [if_true]
      rw [toAb_append]
      conv => lhs; rw [he, toAb_append]
      have key : aget (toAb (R.take (idx R a)) ++ toAb (r :: R.drop (idx R a + 1))) b = if a = b then some (r.2.1.data.toList, r.2.2) else aget (toAb (R.take (idx R a)) ++ toAb (R.drop (idx R a + 1))) b := by
        show aget (toAb _ ++ (r.1, _, _) :: toAb _) b = _
        rw [hra, get_mid (aget_toAb_none take_ne)]
      rw [key]
      by_cases hb : a = b
      · subst hb
        simp only [if_true]
        rw [aget_append, aget_toAb_none take_ne, aget_toAb_none]
        · rfl
        · intro q hq e
          have := hd q hq
          rw [e, slt_irrefl] at this; cases this
      · simp only [hb, if_false]
/-- one row comes -/
theorem Rel.add {D : Ab} {R : List RF} (h : Rel D R) {a : ByteArray} (hat : isAt R a = false) (s : ByteArray) (k : Nat) : Rel (aput D a (s.data.toList, k)) (R.take (idx R a) ++ (a, s, k) :: R.drop (idx R a)) := by
  refine ⟨h.nd.aput _ _, ?_, fun b => ?_⟩
  · have h1 := h.srt
    unfold Srt at *
    rw [← List.take_append_drop (idx R a) R, List.pairwise_append] at h1
    rw [List.pairwise_append, List.pairwise_cons]
    refine ⟨h1.1, ⟨not_at h.srt hat, h1.2.1⟩, fun p hp q hq => ?_⟩
    rcases List.mem_cons.1 hq with rfl | hq
    · exact idx_take p hp
    · exact h1.2.2 p hp q hq
  · rw [aget_aput, toAb_append]
    show _ = aget (toAb _ ++ (a, s.data.toList, k) :: toAb _) b
    rw [get_mid (aget_toAb_none take_ne), ← toAb_append, List.take_append_drop, h.get b]
theorem Rel.at {D : Ab} {R : List RF} (h : Rel D R) (a : ByteArray) : isAt R a = (aget D a).isSome := by
  rw [h.get a]
  cases hat : isAt R a with
  | false => rw [get_no h.srt hat]; rfl
  | true =>
    obtain ⟨r, hr, hra⟩ := isAt_some hat
    rw [get_at h.srt hr hra]; rfl
theorem Rel.namesOf {D : Ab} {R : List RF} (h : Rel D R) : names D = R.map (·.1) := by
  have h1 : (names D).Pairwise fun a b => slt a b = true := srt_pairwise h.nd
  have h2 : (R.map (·.1)).Pairwise fun a b => slt a b = true := List.pairwise_map.2 h.srt
  have nd : ∀ {l : List ByteArray}, l.Pairwise (fun a b => slt a b = true) → l.Nodup := fun h => h.imp fun {a b} hab e => by subst e; rw [slt_irrefl] at hab; cases hab
  refine List.Perm.eq_of_pairwise (le := fun a b => slt a b = true) (fun a b _ _ hab hba => ?_) h1 h2 ((List.perm_ext_iff_of_nodup (nd h1) (nd h2)).2 fun a => ?_)
  · rw [slt_asymm hab] at hba; cases hba
  · rw [mem_names]
    constructor
    · rintro ⟨x, hx⟩
      rw [h.get a] at hx
      have := aget_some_mem hx
      unfold toAb at this
      obtain ⟨r, hr, he⟩ := List.mem_map.1 this
      exact List.mem_map.2 ⟨r, hr, congrArg (·.1) he⟩
    · intro ha
      obtain ⟨r, hr, rfl⟩ := List.mem_map.1 ha
      have : aget (toAb R) r.1 ≠ none := fun hn => aget_none.1 hn (r.1, r.2.1.data.toList, r.2.2) (List.mem_map.2 ⟨r, hr, rfl⟩) rfl
      rw [← h.get] at this
      cases hx : aget D r.1 with
      | none => exact absurd hx this
      | some x => exact ⟨x, rfl⟩
theorem Rel.length {D : Ab} {R : List RF} (h : Rel D R) : R.length = D.length := by
  rw [← names_length D, h.namesOf, List.length_map]
theorem Rel.mem {D : Ab} {R : List RF} (h : Rel D R) {r : RF} (hr : r ∈ R) : aget D r.1 = some (r.2.1.data.toList, r.2.2) := by
  rw [h.get]
  obtain ⟨R1, R2, rfl⟩ := List.append_of_mem hr
  have hs := h.srt
  unfold Srt at hs
  rw [List.pairwise_append] at hs
  rw [toAb_append, aget_append, aget_toAb_none]
  · show (none.or (aget ((r.1, _, _) :: toAb R2) r.1)) = _
    rw [aget_cons]; simp
  · intro q hq e
    have := hs.2.2 q hq r (by simp)
    rw [e, slt_irrefl] at this; cases this
theorem Rel.used {D : Ab} {R : List RF} (h : Rel D R) : rused R = aused D := by
  rw [← sum_names h.nd, h.namesOf, List.map_map]
  unfold rused
  congr 1
  apply List.map_congr_left
  intro r hr
  have := h.mem hr
  show r.2.1.size = alen D r.1
  unfold alen
  rw [this]
  rfl
end Go.Proofs.Ytamejkogghpbhaa
