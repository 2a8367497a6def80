/- A log on a disk, in plain words: putting, syncing, saving. -/
import Derived.Test.YtamejkogghpbhaaLogP
set_option linter.unusedVariables false
set_option linter.unusedSimpArgs false
namespace Go.Proofs.Ytamejkogghpbhaa
open Go.Sx
theorem acont_aput (D : Ab) (a b : ByteArray) (x : List UInt8 × Nat) : acont (aput D a x) b = if a = b then x.1 else acont D b := by
  unfold acont; rw [aget_aput]; split <;> rfl
theorem logc_snoc (age : Int) (R : List (List UInt8)) (b : List UInt8) : logc age (R ++ [b]) = logc age R ++ frame b := by
  unfold logc; rw [frames_append, frames_cons, frames_nil, List.append_nil, List.append_assoc]
theorem logc_ne (age : Int) (R : List (List UInt8)) : logc age R ≠ [] := fun e => by
  have := congrArg List.length e
  have h := genf_len age
  rw [logc_len, List.length_nil] at this; omega
theorem aapp_log (room : Nat) (D : Ab) (f : List UInt8) : aapp room D nlog f = if room < aused D + f.length then (D, 4) else (aput D nlog ((aold D nlog).1 ++ f, (aold D nlog).2), 0) := by
  unfold aapp; rw [if_pos (by decide)]
theorem aapp_next (room : Nat) (D : Ab) (f : List UInt8) : aapp room D nnext f = if room < aused D + f.length then (D, 4) else (aput D nnext ((aold D nnext).1 ++ f, (aold D nnext).2), 0) := by
  unfold aapp; rw [if_pos (by decide)]
theorem lapp_len (D : Ab) (age : Int) (b : List UInt8) : (if acont D nlog = [] then genf age ++ frame b else frame b).length ≤ 22 + b.length := by
  have := genf_len age
  split
  · rw [List.length_append, frame_len]; omega
  · rw [frame_len]; omega
theorem lapp_no {room : Nat} {D : Ab} {age : Int} {b : List UInt8} (h : (lapp room D age b).2 ≠ 0) : lapp room D age b = (D, 4) := by
  unfold lapp at *
  generalize (if acont D nlog = [] then genf age ++ frame b else frame b) = f at *
  rw [aapp_log] at *
  by_cases hn : room < aused D + f.length
  · rw [if_pos hn]
  · rw [if_neg hn] at h; exact absurd rfl h
theorem lapp_yes {room : Nat} {D : Ab} {age : Int} {b : List UInt8} (h : aused D + 22 + b.length ≤ room) : (lapp room D age b).2 = 0 := by
  have := lapp_len D age b
  unfold lapp
  rw [aapp_log, if_neg (by omega)]
theorem LS.put {D : Ab} {age : Int} {S R : List (List UInt8)} {y room : Nat} (h : LS D age S R y) {b : List UInt8} (hb : fits b) (hc0 : (lapp room D age b).2 = 0) : LS (lapp room D age b).1 age S (R ++ [b]) y := by
  obtain ⟨c, sy, hg, hs, hc, hy⟩ := h.log
  have hold : aold D nlog = (c, sy) := by
    unfold aold
    rcases hg with hg | ⟨hg, rfl, rfl⟩ <;> rw [hg] <;> rfl
  have hcont : acont D nlog = c := by
    unfold acont
    rcases hg with hg | ⟨hg, rfl, rfl⟩ <;> rw [hg] <;> rfl
  have hlapp : (lapp room D age b).1 = aput D nlog (c ++ (if acont D nlog = [] then genf age ++ frame b else frame b), sy) := by
    unfold lapp at *
    generalize (if acont D nlog = [] then genf age ++ frame b else frame b) = f at *
    rw [aapp_log] at *
    by_cases hn : room < aused D + f.length
    · rw [if_pos hn] at hc0; exact absurd hc0 (by simp)
    · rw [if_neg hn, hold]
  have hnew : c ++ (if acont D nlog = [] then genf age ++ frame b else frame b) = logc age (R ++ [b]) := by
    rw [hcont, logc_snoc]
    rcases hc with ⟨rfl, rfl⟩ | rfl
    · simp [logc, frames_nil]
    · rw [if_neg (logc_ne age R)]
  rw [hlapp, hnew]
  refine ⟨h.two.put (.inr rfl) _, h.age0, h.snap.of_aget (by rw [aget_aput, if_neg (by decide)]), ?_, by have := h.yR; simp; omega, h.fS, ?_⟩
  · refine ⟨logc age (R ++ [b]), sy, .inl (by rw [aget_aput, if_pos rfl]), ?_, .inr rfl, ?_⟩
    · rw [← hnew, List.length_append]; omega
    · rw [List.take_append_of_le_length h.yR]; exact hy
  · intro x hx
    rcases List.mem_append.1 hx with hx | hx
    · exact h.fR x hx
    · simp at hx; subst hx; exact hb
theorem LS.sync {D : Ab} {age : Int} {S R : List (List UInt8)} {y : Nat} (h : LS D age S R y) : LS (async D nlog).1 age S R R.length := by
  obtain ⟨c, sy, hg, hs, hc, hy⟩ := h.log
  unfold async
  rcases hg with hg | ⟨hg, rfl, rfl⟩
  · rw [hg]
    refine ⟨h.two.set _ _, h.age0, h.snap.of_aget (by rw [aget_aset, if_neg (by decide)]), ⟨c, c.length, .inl ?_, Nat.le_refl _, hc, ?_⟩, Nat.le_refl _, h.fS, h.fR⟩
    · rw [aget_aset, if_pos rfl, hg]; rfl
    · rcases hc with ⟨_, rfl⟩ | rfl
      · left; rfl
      · right; rw [List.take_length]; omega
  · rw [hg]
    rcases hc with ⟨_, rfl⟩ | hc
    · exact ⟨h.two, h.age0, h.snap, ⟨[], 0, .inr ⟨hg, rfl, rfl⟩, by simp, .inl ⟨rfl, rfl⟩, .inl rfl⟩, Nat.le_refl _, h.fS, h.fR⟩
    · exact absurd hc.symm (logc_ne age R)
theorem lsave_no {room : Nat} {D : Ab} {age : Int} {S : List (List UInt8)} (ht : Two D) (h : (lsave room D age S).2 ≠ 0) : lsave room D age S = (D, 4) := by
  unfold lsave at *
  simp only [ht.del, aapp_next] at *
  by_cases hc : room < aused D + (genf (age + 1) ++ frames S).length
  · simp only [hc, if_true, show ¬ (4 : Int) = 0 by omega, if_false, ht.del]
  · simp only [hc, if_false, if_true, ne_eq, not_true_eq_false] at h
theorem lsave_yes {room : Nat} {D : Ab} {age : Int} {S : List (List UInt8)} (ht : Two D) (h : aused D + (genf (age + 1) ++ frames S).length ≤ room) : (lsave room D age S).2 = 0 := by
  unfold lsave
  simp only [ht.del, aapp_next]
  have hc : ¬ room < aused D + (genf (age + 1) ++ frames S).length := by omega
  simp only [hc, if_false, if_true]
theorem LS.save {D : Ab} {age : Int} {S R S' : List (List UInt8)} {y room : Nat} (h : LS D age S R y) (hS : ∀ x ∈ S', fits x) (ha : age + 1 ≤ 1000000000) (hc0 : (lsave room D age S').2 = 0) : LS (lsave room D age S').1 (age + 1) S' [] 0 := by
  have hn := h.two.next
  have hold : aold D nnext = ([], 0) := by unfold aold; rw [hn]; rfl
  have e0 : aapp room D nnext (genf (age + 1) ++ frames S') = (aput D nnext (genf (age + 1) ++ frames S', 0), 0) := by
    unfold lsave at hc0
    simp only [h.two.del, aapp_next] at hc0
    rw [aapp_next]
    by_cases hlt : room < aused D + (genf (age + 1) ++ frames S').length
    · simp only [hlt, if_true, show ¬ (4 : Int) = 0 by omega, if_false] at hc0
    · simp only [hlt, if_false, hold, List.nil_append]
  generalize hf : genf (age + 1) ++ frames S' = f at e0
  have e1 : (lsave room D age S').1 = (acut (aren (async (aput D nnext (f, 0)) nnext).1 nnext nsnap).1 nlog 0).1 := by
    unfold lsave
    simp only [h.two.del]
    rw [hf, e0]
    simp
  have e2 : (async (aput D nnext (f, 0)) nnext).1 = aset (aput D nnext (f, 0)) nnext (f, f.length) := by
    unfold async; rw [aget_aput, if_pos rfl]
  have g2 : aget (aset (aput D nnext (f, 0)) nnext (f, f.length)) nnext = some (f, f.length) := by rw [aget_aset, if_pos rfl, aget_aput, if_pos rfl]; rfl
  have e3 : (aren (aset (aput D nnext (f, 0)) nnext (f, f.length)) nnext nsnap).1 = aput (arem (aset (aput D nnext (f, 0)) nnext (f, f.length)) nnext) nsnap (f, f.length) := by
    unfold aren; rw [g2]; simp only; rw [if_pos (by decide)]
  rw [e1, e2, e3]
  generalize hE : aput (arem (aset (aput D nnext (f, 0)) nnext (f, f.length)) nnext) nsnap (f, f.length) = E
  have hE1 : aget E nsnap = some (f, f.length) := by rw [← hE, aget_aput, if_pos rfl]
  have hE2 : aget E nlog = aget D nlog := by
    rw [← hE, aget_aput, if_neg (by decide), aget_arem, if_neg (by decide), aget_aset, if_neg (by decide), aget_aput, if_neg (by decide)]
  have hET : Two E := by
    rw [← hE]
    refine ⟨(((h.two.nd.aput _ _).aset _ _).arem _).aput _ _, fun p hp => ?_⟩
    rcases mem_aput hp with e | ⟨q, hq, hqe⟩
    · exact .inl e
    · rw [← hqe]
      unfold arem at hq
      obtain ⟨hq, hne⟩ := List.mem_filter.1 hq
      have : q.1 ∈ (aset (aput D nnext (f, 0)) nnext (f, f.length)).map (·.1) := List.mem_map.2 ⟨q, hq, rfl⟩
      rw [aset_names] at this
      obtain ⟨q2, hq2, e2⟩ := List.mem_map.1 this
      rcases mem_aput hq2 with e | ⟨q3, hq3, e3⟩
      · rw [e2] at e; simp [e] at hne
      · rw [← e2, ← e3]; exact h.two.names q3 hq3
  have hsnap : ∀ E', aget E' nsnap = aget E nsnap → SnapOk E' (age + 1) S' := fun E' e => .inr ⟨by have := h.age0.1; omega, by rw [e, hE1, hf]⟩
  have hage : 0 ≤ age + 1 ∧ age + 1 ≤ 1000000000 := ⟨by have := h.age0.1; omega, ha⟩
  obtain ⟨c, sy, hg, hs, hc, hy⟩ := h.log
  unfold acut
  rw [hE2]
  rcases hg with hg | ⟨hg, rfl, rfl⟩
  · rw [hg]
    simp only
    rw [if_neg (by omega)]
    refine ⟨hET.set _ _, hage, hsnap _ (by rw [aget_aset, if_neg (by decide)]), ⟨[], 0, .inl ?_, by simp, .inl ⟨rfl, rfl⟩, .inl rfl⟩, by simp, hS, by simp⟩
    rw [aget_aset, if_pos rfl, hE2, hg]; rfl
  · rw [hg]
    exact ⟨hET, hage, hsnap _ rfl, ⟨[], 0, .inr ⟨by rw [hE2, hg], rfl, rfl⟩, by simp, .inl ⟨rfl, rfl⟩, .inl rfl⟩, by simp, hS, by simp⟩
/-- how many bytes there are -/
theorem LS.used {D : Ab} {age : Int} {S R : List (List UInt8)} {y : Nat} (h : LS D age S R y) : aused D ≤ 32 + (frames S).length + (frames R).length := by
  rw [h.two.used]
  have g := genf_len age
  have h1 : (acont D nsnap).length ≤ 16 + (frames S).length := by
    unfold acont
    rcases h.snap with ⟨_, _, e⟩ | ⟨_, e⟩ <;> rw [e] <;> simp <;> omega
  have h2 : (acont D nlog).length ≤ 16 + (frames R).length := by
    obtain ⟨c, sy, hg, hs, hc, hy⟩ := h.log
    have hcont : acont D nlog = c := by
      unfold acont
      rcases hg with hg | ⟨hg, rfl, rfl⟩ <;> rw [hg] <;> rfl
    rw [hcont]
    rcases hc with ⟨rfl, _⟩ | rfl
    · simp
    · rw [logc_len]; omega
  omega
theorem frames_le {xs : List (List UInt8)} {m : Nat} (h : ∀ x ∈ xs, x.length ≤ m) : (frames xs).length ≤ xs.length * (6 + m) := by
  induction xs with
  | nil => simp [frames_nil]
  | cons x xs ih =>
    have := ih fun y hy => h y (by simp [hy])
    have := h x (by simp)
    rw [frames_cons, List.length_append, frame_len, List.length_cons, Nat.succ_mul]
    omega
theorem Two.len {D : Ab} (h : Two D) : D.length ≤ 2 := by
  have := len_of_subset (D.map (·.1)) [nsnap, nlog] h.nd fun a ha => by
    obtain ⟨p, hp, rfl⟩ := List.mem_map.1 ha
    rcases h.names p hp with e | e <;> simp [e]
  simpa using this
end Go.Proofs.Ytamejkogghpbhaa
