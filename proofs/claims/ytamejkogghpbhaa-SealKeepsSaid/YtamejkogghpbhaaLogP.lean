/- A log on a disk: what it comes to, in plain words. -/
import Derived.Test.YtamejkogghpbhaaSeal3
set_option linter.unusedVariables false
set_option linter.unusedSimpArgs false
namespace Go.Proofs.Ytamejkogghpbhaa
open Go.Sx
/-- two files and no others -/
structure Two (D : Ab) : Prop where
  nd : Nd D
  names : ∀ p ∈ D, p.1 = nsnap ∨ p.1 = nlog
/-- what of a state is on the disk -/
def SnapOk (D : Ab) (age : Int) (S : List (List UInt8)) : Prop :=
  (age = 0 ∧ S = [] ∧ aget D nsnap = none) ∨ (1 ≤ age ∧ aget D nsnap = some (genf age ++ frames S, (genf age ++ frames S).length))
def logc (age : Int) (R : List (List UInt8)) : List UInt8 := genf age ++ frames R
/-- a log at work: its generation, its state, its records, how many of them are synced -/
structure LS (D : Ab) (age : Int) (S R : List (List UInt8)) (y : Nat) : Prop where
  two : Two D
  age0 : 0 ≤ age ∧ age ≤ 1000000000
  snap : SnapOk D age S
  log : ∃ c sy, (aget D nlog = some (c, sy) ∨ aget D nlog = none ∧ c = [] ∧ sy = 0) ∧ sy ≤ c.length ∧ (c = [] ∧ R = [] ∨ c = logc age R) ∧ (y = 0 ∨ (logc age (R.take y)).length ≤ sy)
  yR : y ≤ R.length
  fS : ∀ x ∈ S, fits x
  fR : ∀ x ∈ R, fits x
/-- .. behind a crash -/
structure LC (D : Ab) (age : Int) (S R : List (List UInt8)) (y : Nat) : Prop where
  two : Two D
  age0 : 0 ≤ age ∧ age ≤ 1000000000
  snap : SnapOk D age S
  log : ∃ c k, acont D nlog = c.take k ∧ (c = [] ∧ R = [] ∨ c = logc age R) ∧ (y = 0 ∨ (logc age (R.take y)).length ≤ k)
  yR : y ≤ R.length
  fS : ∀ x ∈ S, fits x
  fR : ∀ x ∈ R, fits x
theorem Two.nil : Two [] := ⟨List.Pairwise.nil, by simp⟩
theorem LS.nil : LS [] 0 [] [] 0 := ⟨Two.nil, by omega, .inl ⟨rfl, rfl, rfl⟩, ⟨[], 0, .inr ⟨rfl, rfl, rfl⟩, by simp, .inl ⟨rfl, rfl⟩, .inl rfl⟩, by simp, by simp, by simp⟩
theorem Two.next {D : Ab} (h : Two D) : aget D nnext = none := by
  rw [aget_none]
  intro p hp e
  rcases h.names p hp with h | h <;> rw [h] at e <;> exact absurd e (by decide)
theorem Two.set {D : Ab} (h : Two D) (a : ByteArray) (x : List UInt8 × Nat) : Two (aset D a x) := by
  refine ⟨h.nd.aset a x, fun p hp => ?_⟩
  have : p.1 ∈ (aset D a x).map (·.1) := List.mem_map.2 ⟨p, hp, rfl⟩
  rw [aset_names] at this
  obtain ⟨q, hq, hqe⟩ := List.mem_map.1 this
  have := h.names q hq
  rwa [hqe] at this
theorem mem_aput {D : Ab} {a : ByteArray} {x : List UInt8 × Nat} {p : ByteArray × List UInt8 × Nat} (hp : p ∈ aput D a x) : p.1 = a ∨ ∃ q ∈ D, q.1 = p.1 := by
  unfold aput at hp
  split at hp
  · have : p.1 ∈ (aset D a x).map (·.1) := List.mem_map.2 ⟨p, hp, rfl⟩
    rw [aset_names] at this
    obtain ⟨q, hq, hqe⟩ := List.mem_map.1 this
    exact .inr ⟨q, hq, hqe⟩
  · rcases List.mem_append.1 hp with hp | hp
    · exact .inr ⟨p, hp, rfl⟩
    · simp at hp; subst hp; exact .inl rfl
theorem Two.put {D : Ab} (h : Two D) {a : ByteArray} (ha : a = nsnap ∨ a = nlog) (x : List UInt8 × Nat) : Two (aput D a x) := by
  refine ⟨h.nd.aput a x, fun p hp => ?_⟩
  rcases mem_aput hp with e | ⟨q, hq, hqe⟩
  · rw [e]; exact ha
  · rw [← hqe]; exact h.names q hq
theorem Two.del {D : Ab} (h : Two D) : (adel D nnext).1 = D := by unfold adel; rw [h.next]
theorem Two.used {D : Ab} (h : Two D) : aused D = (acont D nsnap).length + (acont D nlog).length := by
  -- take both out
  have step : ∀ (a : ByteArray) (E : Ab), Nd E → aused E = (acont E a).length + aused (arem E a) := by
    intro a E hE
    unfold acont
    cases hg : aget E a with
    | none =>
      have : arem E a = E := by
        unfold arem; rw [List.filter_eq_self]; intro p hp; simpa using aget_none.1 hg p hp
      rw [this]; simp
    | some x =>
      have := (arem_len hE hg).2
      simp only [Option.map_some, Option.getD_some]; omega
  have h1 := step nsnap D h.nd
  have h2 := step nlog (arem D nsnap) (h.nd.arem _)
  have h3 : acont (arem D nsnap) nlog = acont D nlog := by unfold acont; rw [aget_arem, if_neg (by decide)]
  have h4 : arem (arem D nsnap) nlog = [] := by
    rw [List.eq_nil_iff_forall_not_mem]
    intro p hp
    unfold arem at hp
    obtain ⟨hp, e2⟩ := List.mem_filter.1 hp
    obtain ⟨hp, e1⟩ := List.mem_filter.1 hp
    simp at e1 e2
    rcases h.names p hp with e | e
    · exact e1 e
    · exact e2 e
  rw [h4, h3] at h2
  have : aused [] = 0 := rfl
  omega
theorem logc_len (age : Int) (R : List (List UInt8)) : (logc age R).length = (genf age).length + (frames R).length := by unfold logc; simp
theorem logc_frames (age : Int) (R : List (List UInt8)) : logc age R = frames (vint (zig age) :: R) := rfl
theorem frames_count : ∀ ys : List (List UInt8), (∀ y ∈ ys, fits y) → ys.length ≤ (frames ys).length
  | [], _ => by simp
  | y :: ys, hy => by
    have := frames_count ys fun z hz => hy z (by simp [hz])
    rw [frames_cons, List.length_append, frame_len, List.length_cons]
    omega
theorem fits_gen (age : Int) {R : List (List UInt8)} (h : ∀ x ∈ R, fits x) : ∀ x ∈ vint (zig age) :: R, fits x := by
  intro x hx
  rcases List.mem_cons.1 hx with rfl | hx
  · exact fits_vint _
  · exact h x hx
theorem unf_all {xs : List (List UInt8)} {r : List UInt8} (hx : ∀ x ∈ xs, fits x) (hr : one r = none) : unf ((frames xs ++ r).length + 1) (frames xs ++ r) = xs :=
  unf_frames hx hr (by have := frames_count xs hx; simp; omega)
theorem one_nil : one [] = none := rfl
theorem unf_nil : unf 1 [] = [] := rfl
theorem keeps_logc {age : Int} {R : List (List UInt8)} (h0 : 0 ≤ age) (h1 : age ≤ 1000000000) (hR : ∀ x ∈ R, fits x) {r : List UInt8} (hr : one r = none) : Keeps (logc age R ++ r) age R (logc age R).length := by
  rw [logc_frames]
  exact Keeps.is (unf_all (fits_gen age hR) hr) h0 (by omega)
theorem keeps_nil {r : List UInt8} (hr : one r = none) : Keeps r (-1) [] 0 := by
  refine Keeps.no ?_
  have := unf_all (xs := []) (r := r) (by simp) hr
  simpa [frames_nil] using this
theorem SnapOk.keeps {D : Ab} {age : Int} {S : List (List UInt8)} (h : SnapOk D age S) (h1 : age ≤ 1000000000) (hS : ∀ x ∈ S, fits x) : ∃ a es, Keeps (acont D nsnap) a S es ∧ max a 0 = age := by
  rcases h with ⟨rfl, rfl, hg⟩ | ⟨ha, hg⟩
  · refine ⟨-1, 0, ?_, by omega⟩
    unfold acont; rw [hg]
    exact keeps_nil one_nil
  · refine ⟨age, (logc age S).length, ?_, by omega⟩
    unfold acont; rw [hg]
    have := keeps_logc (by omega) h1 hS (r := []) one_nil
    rw [List.append_nil] at this
    exact this
theorem SnapOk.of_aget {D D' : Ab} {age : Int} {S : List (List UInt8)} (h : SnapOk D age S) (e : aget D' nsnap = aget D nsnap) : SnapOk D' age S := by
  unfold SnapOk at *; rw [e]; exact h
/-- Open, behind a crash or not -/
theorem LC.open' {D : Ab} {age : Int} {S R : List (List UInt8)} {y : Nat} (h : LC D age S R y) :
    ∃ a1 a2 es er m, Keeps (acont D nsnap) a1 S es ∧ max a1 0 = age ∧ Keeps (acont D nlog) a2 (R.take m) er ∧ (a2 = -1 ∨ a2 = max a1 0) ∧ y ≤ m ∧ m ≤ R.length ∧ LS (lopen D er) age S (R.take m) m ∧ (m = 0 ∨ (logc age (R.take m)).length ≤ (acont D nlog).length) := by
  obtain ⟨a1, es, k1, e1⟩ := h.snap.keeps h.age0.2 h.fS
  obtain ⟨c, k, hc, hcR, hy⟩ := h.log
  -- what the cut leaves
  have cut : ∀ e : Nat, e ≤ (acont D nlog).length → Two (lopen D e) ∧ aget (lopen D e) nsnap = aget D nsnap ∧ (aget (lopen D e) nlog = some ((acont D nlog).take e, e) ∨ aget (lopen D e) nlog = none ∧ acont D nlog = [] ∧ e = 0) := by
    intro e he
    unfold lopen
    rw [h.two.del]
    unfold acont at he ⊢
    unfold acut
    cases hg : aget D nlog with
    | none => simp only [hg]; rw [hg] at he; refine ⟨h.two, trivial, .inr ⟨trivial, ?_⟩⟩; simp at he ⊢; exact he
    | some x =>
      rw [hg] at he
      simp only [Option.map_some, Option.getD_some] at he ⊢
      rw [if_neg (by omega)]
      refine ⟨h.two.set _ _, ?_, .inl ?_⟩
      · rw [aget_aset, if_neg (by decide)]
      · rw [aget_aset, if_pos rfl, hg]; simp
  have case0 : ∀ r : List UInt8, acont D nlog = r → one r = none → y = 0 →
      ∃ a1 a2 es er m, Keeps (acont D nsnap) a1 S es ∧ max a1 0 = age ∧ Keeps (acont D nlog) a2 (R.take m) er ∧ (a2 = -1 ∨ a2 = max a1 0) ∧ y ≤ m ∧ m ≤ R.length ∧ LS (lopen D er) age S (R.take m) m ∧ (m = 0 ∨ (logc age (R.take m)).length ≤ (acont D nlog).length) := by
    intro r hr hone hy0
    obtain ⟨t1, t2, t3⟩ := cut 0 (by omega)
    refine ⟨a1, -1, es, 0, 0, k1, e1, by rw [hr]; exact keeps_nil hone, .inl rfl, by omega, by omega, ⟨t1, h.age0, h.snap.of_aget t2, ?_, by simp, h.fS, by simp⟩, .inl rfl⟩
    refine ⟨[], 0, ?_, by simp, .inl ⟨rfl, rfl⟩, .inl rfl⟩
    rcases t3 with t3 | t3
    · left; rw [t3]; simp
    · right; exact ⟨t3.1, rfl, rfl⟩
  rcases hcR with ⟨rfl, rfl⟩ | rfl
  · exact case0 [] (by rw [hc]; simp) one_nil (by have := h.yR; simpa using this)
  · rw [logc_frames] at hc
    obtain ⟨m, r, m1, m2, m3, m4, m5⟩ := frames_take (xs := vint (zig age) :: R) k (fits_gen age h.fR)
    rw [m2] at hc
    cases m with
    | zero =>
      rw [List.take_zero, frames_nil, List.nil_append] at hc
      refine case0 r hc m3 ?_
      rcases hy with hy | hy
      · exact hy
      · rw [logc_frames, ← List.take_succ_cons] at hy
        have := m4 (y + 1) (by have := h.yR; simp; omega) hy
        omega
    | succ m =>
      rw [List.take_succ_cons, ← logc_frames] at hc
      have hm : m ≤ R.length := by simpa using m1
      obtain ⟨t1, t2, t3⟩ := cut (logc age (R.take m)).length (by rw [hc]; simp)
      have hfR : ∀ x ∈ R.take m, fits x := fun x hx => h.fR x (List.mem_of_mem_take hx)
      have hys : y ≤ m := by
        rcases hy with hy | hy
        · omega
        · rw [logc_frames, ← List.take_succ_cons] at hy
          have := m4 (y + 1) (by have := h.yR; simp; omega) hy
          omega
      refine ⟨a1, age, es, _, m, k1, e1, by rw [hc]; exact keeps_logc h.age0.1 h.age0.2 hfR m3, .inr e1.symm, hys, hm, ⟨t1, h.age0, h.snap.of_aget t2, ?_, by simp; omega, h.fS, hfR⟩, .inr (by rw [hc]; simp)⟩
      refine ⟨logc age (R.take m), (logc age (R.take m)).length, ?_, by simp, .inr rfl, .inr ?_⟩
      · rcases t3 with t3 | ⟨_, t3, t4⟩
        · left; rw [t3, hc, List.take_left]
        · have := genf_len age
          rw [logc_len] at t4; omega
      · rw [List.take_take, Nat.min_self]; omega
/-- Open of one at work: all is there -/
theorem LS.toLC {D : Ab} {age : Int} {S R : List (List UInt8)} {y : Nat} (h : LS D age S R y) : LC D age S R R.length := by
  obtain ⟨c, sy, hg, hs, hc, hy⟩ := h.log
  refine ⟨h.two, h.age0, h.snap, ⟨c, c.length, ?_, hc, ?_⟩, by simp, h.fS, h.fR⟩
  · unfold acont
    rcases hg with hg | ⟨hg, rfl, rfl⟩ <;> rw [hg] <;> simp
  · rcases hc with ⟨_, rfl⟩ | rfl
    · left; rfl
    · right; rw [List.take_length]; omega
theorem acrash_two {D : Ab} (h : Two D) (keep : Int) : Two (acrash keep D) := by
  refine ⟨?_, fun p hp => ?_⟩
  · have : (acrash keep D).map (·.1) = D.map (·.1) := by unfold acrash; rw [List.map_map]; rfl
    unfold Nd; rw [this]; exact h.nd
  · unfold acrash at hp
    obtain ⟨q, hq, rfl⟩ := List.mem_map.1 hp
    exact h.names q hq
theorem aget_acrash' (keep : Int) (D : Ab) (a : ByteArray) : aget (acrash keep D) a = (aget D a).map (cr keep) := by
  unfold aget acrash
  rw [List.find?_map]
  simp only [Option.map_map]
  rfl
theorem LS.crash {D : Ab} {age : Int} {S R : List (List UInt8)} {y : Nat} (h : LS D age S R y) (keep : Int) : LC (acrash keep D) age S R y := by
  obtain ⟨c, sy, hg, hs, hc, hy⟩ := h.log
  refine ⟨acrash_two h.two keep, h.age0, ?_, ?_, h.yR, h.fS, h.fR⟩
  · rcases h.snap with ⟨h1, h2, h3⟩ | ⟨h1, h3⟩
    · exact .inl ⟨h1, h2, by rw [aget_acrash', h3]; rfl⟩
    · refine .inr ⟨h1, ?_⟩
      rw [aget_acrash', h3]
      show some (cr keep _) = _
      unfold cr
      simp only
      rw [Nat.sub_self, Nat.min_zero, Nat.add_zero, List.take_length]
  · rcases hg with hg | ⟨hg, rfl, rfl⟩
    · refine ⟨c, sy + min (max keep 0).toNat (c.length - sy), ?_, hc, ?_⟩
      · unfold acont; rw [aget_acrash', hg]; rfl
      · rcases hy with hy | hy
        · exact .inl hy
        · right; omega
    · refine ⟨[], 0, ?_, hc, ?_⟩
      · unfold acont; rw [aget_acrash', hg]; rfl
      · rcases hc with ⟨_, rfl⟩ | hc
        · left; have := h.yR; simpa using this
        · exact absurd (congrArg List.length hc) (by have := genf_len age; rw [logc_len]; simp; omega)
end Go.Proofs.Ytamejkogghpbhaa
