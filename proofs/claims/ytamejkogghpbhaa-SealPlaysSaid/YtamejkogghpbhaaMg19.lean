import Derived.Test.YtamejkogghpbhaaMg18
import Derived.Test.YtamejkogghpbhaaMg10
import Derived.Test.YtamejkogghpbhaaMg13
section
/- A log on a disk: what it comes to, in plain words. -/
set_option linter.unusedVariables false
set_option linter.unusedSimpArgs false
namespace Go.Proofs.Ytamejkogghpbhaa
open Go.Sx
/-- two files and no others -/
structure Two (D : Ab) : Prop where
  nd : Nd D
  names : ∀ p ∈ D, p.1 = nsnap ∨ p.1 = nlog
/-- what of a state is on the disk -/
def SnapOk (D : Ab) (age : Int) (S : List (List UInt8)) : Prop :=
  (age = 0 ∧ S = [] ∧ aget D nsnap = none) ∨ (1 ≤ age ∧ aget D nsnap = some (genf age ++ frames S, (genf age ++ frames S).length))
def logc (age : Int) (R : List (List UInt8)) : List UInt8 := genf age ++ frames R
/-- a log at work: its generation, its state, its records, how many of them are synced -/
structure LS (D : Ab) (age : Int) (S R : List (List UInt8)) (y : Nat) : Prop where
  two : Two D
  age0 : 0 ≤ age ∧ age ≤ 1000000000
  snap : SnapOk D age S
  log : ∃ c sy, (aget D nlog = some (c, sy) ∨ aget D nlog = none ∧ c = [] ∧ sy = 0) ∧ sy ≤ c.length ∧ (c = [] ∧ R = [] ∨ c = logc age R) ∧ (y = 0 ∨ (logc age (R.take y)).length ≤ sy)
  yR : y ≤ R.length
  fS : ∀ x ∈ S, fits x
  fR : ∀ x ∈ R, fits x
/-- .. behind a crash -/
structure LC (D : Ab) (age : Int) (S R : List (List UInt8)) (y : Nat) : Prop where
  two : Two D
  age0 : 0 ≤ age ∧ age ≤ 1000000000
  snap : SnapOk D age S
  log : ∃ c k, acont D nlog = c.take k ∧ (c = [] ∧ R = [] ∨ c = logc age R) ∧ (y = 0 ∨ (logc age (R.take y)).length ≤ k)
  yR : y ≤ R.length
  fS : ∀ x ∈ S, fits x
  fR : ∀ x ∈ R, fits x
theorem Two.nil : Two [] := ⟨List.Pairwise.nil, by simp⟩
theorem LS.nil : LS [] 0 [] [] 0 := ⟨Two.nil, by omega, .inl ⟨rfl, rfl, rfl⟩, ⟨[], 0, .inr ⟨rfl, rfl, rfl⟩, by simp, .inl ⟨rfl, rfl⟩, .inl rfl⟩, by simp, by simp, by simp⟩
theorem Two.next {D : Ab} (h : Two D) : aget D nnext = none := by
  rw [aget_none]
  intro p hp e
  rcases h.names p hp with h | h <;> rw [h] at e <;> exact absurd e (by decide)
theorem Two.set {D : Ab} (h : Two D) (a : ByteArray) (x : List UInt8 × Nat) : Two (aset D a x) := by
  refine ⟨h.nd.aset a x, fun p hp => ?_⟩
  have : p.1 ∈ (aset D a x).map (·.1) := List.mem_map.2 ⟨p, hp, rfl⟩
  rw [aset_names] at this
  obtain ⟨q, hq, hqe⟩ := List.mem_map.1 this
  have := h.names q hq
  rwa [hqe] at this
theorem mem_aput {D : Ab} {a : ByteArray} {x : List UInt8 × Nat} {p : ByteArray × List UInt8 × Nat} (hp : p ∈ aput D a x) : p.1 = a ∨ ∃ q ∈ D, q.1 = p.1 := by
  unfold aput at hp
  split at hp
  · have : p.1 ∈ (aset D a x).map (·.1) := List.mem_map.2 ⟨p, hp, rfl⟩
    rw [aset_names] at this
    obtain ⟨q, hq, hqe⟩ := List.mem_map.1 this
    exact .inr ⟨q, hq, hqe⟩
  · rcases List.mem_append.1 hp with hp | hp
    · exact .inr ⟨p, hp, rfl⟩
    · simp at hp; subst hp; exact .inl rfl
theorem Two.put {D : Ab} (h : Two D) {a : ByteArray} (ha : a = nsnap ∨ a = nlog) (x : List UInt8 × Nat) : Two (aput D a x) := by
  refine ⟨h.nd.aput a x, fun p hp => ?_⟩
  rcases mem_aput hp with e | ⟨q, hq, hqe⟩
  · rw [e]; exact ha
  · rw [← hqe]; exact h.names q hq
theorem Two.del {D : Ab} (h : Two D) : (adel D nnext).1 = D := by unfold adel; rw [h.next]
theorem Two.used {D : Ab} (h : Two D) : aused D = (acont D nsnap).length + (acont D nlog).length := by
  -- take both out
  have step : ∀ (a : ByteArray) (E : Ab), Nd E → aused E = (acont E a).length + aused (arem E a) := by
    intro a E hE
    unfold acont
    cases hg : aget E a with
    | none =>
      have : arem E a = E := by
        unfold arem; rw [List.filter_eq_self]; intro p hp; simpa using aget_none.1 hg p hp
      rw [this]; simp
    | some x =>
      have := (arem_len hE hg).2
      simp only [Option.map_some, Option.getD_some]; omega
  have h1 := step nsnap D h.nd
  have h2 := step nlog (arem D nsnap) (h.nd.arem _)
  have h3 : acont (arem D nsnap) nlog = acont D nlog := by unfold acont; rw [aget_arem, if_neg (by decide)]
  have h4 : arem (arem D nsnap) nlog = [] := by
    rw [List.eq_nil_iff_forall_not_mem]
    intro p hp
    unfold arem at hp
    obtain ⟨hp, e2⟩ := List.mem_filter.1 hp
    obtain ⟨hp, e1⟩ := List.mem_filter.1 hp
    simp at e1 e2
    rcases h.names p hp with e | e
    · exact e1 e
    · exact e2 e
  rw [h4, h3] at h2
  have : aused [] = 0 := rfl
  omega
theorem logc_len (age : Int) (R : List (List UInt8)) : (logc age R).length = (genf age).length + (frames R).length := by unfold logc; simp
theorem logc_frames (age : Int) (R : List (List UInt8)) : logc age R = frames (vint (zig age) :: R) := rfl
theorem frames_count : ∀ ys : List (List UInt8), (∀ y ∈ ys, fits y) → ys.length ≤ (frames ys).length
  | [], _ => by simp
  | y :: ys, hy => by
    have := frames_count ys fun z hz => hy z (by simp [hz])
    rw [frames_cons, List.length_append, frame_len, List.length_cons]
    omega
theorem fits_gen (age : Int) {R : List (List UInt8)} (h : ∀ x ∈ R, fits x) : ∀ x ∈ vint (zig age) :: R, fits x := by
  intro x hx
  rcases List.mem_cons.1 hx with rfl | hx
  · exact fits_vint _
  · exact h x hx
theorem unf_all {xs : List (List UInt8)} {r : List UInt8} (hx : ∀ x ∈ xs, fits x) (hr : one r = none) : unf ((frames xs ++ r).length + 1) (frames xs ++ r) = xs :=
  unf_frames hx hr (by have := frames_count xs hx; simp; omega)
theorem one_nil : one [] = none := rfl
theorem unf_nil : unf 1 [] = [] := rfl
theorem keeps_logc {age : Int} {R : List (List UInt8)} (h0 : 0 ≤ age) (h1 : age ≤ 1000000000) (hR : ∀ x ∈ R, fits x) {r : List UInt8} (hr : one r = none) : Keeps (logc age R ++ r) age R (logc age R).length := by
  rw [logc_frames]
  exact Keeps.is (unf_all (fits_gen age hR) hr) h0 (by omega)
theorem keeps_nil {r : List UInt8} (hr : one r = none) : Keeps r (-1) [] 0 := by
  refine Keeps.no ?_
  have := unf_all (xs := []) (r := r) (by simp) hr
  simpa [frames_nil] using this
theorem SnapOk.keeps {D : Ab} {age : Int} {S : List (List UInt8)} (h : SnapOk D age S) (h1 : age ≤ 1000000000) (hS : ∀ x ∈ S, fits x) : ∃ a es, Keeps (acont D nsnap) a S es ∧ max a 0 = age := by
  rcases h with ⟨rfl, rfl, hg⟩ | ⟨ha, hg⟩
  · refine ⟨-1, 0, ?_, by omega⟩
    unfold acont; rw [hg]
    exact keeps_nil one_nil
  · refine ⟨age, (logc age S).length, ?_, by omega⟩
    unfold acont; rw [hg]
    have := keeps_logc (by omega) h1 hS (r := []) one_nil
    rw [List.append_nil] at this
    exact this
theorem SnapOk.of_aget {D D' : Ab} {age : Int} {S : List (List UInt8)} (h : SnapOk D age S) (e : aget D' nsnap = aget D nsnap) : SnapOk D' age S := by
  unfold SnapOk at *; rw [e]; exact h
/-- Open, behind a crash or not -/
theorem LC.open' {D : Ab} {age : Int} {S R : List (List UInt8)} {y : Nat} (h : LC D age S R y) :
    ∃ a1 a2 es er m, Keeps (acont D nsnap) a1 S es ∧ max a1 0 = age ∧ Keeps (acont D nlog) a2 (R.take m) er ∧ (a2 = -1 ∨ a2 = max a1 0) ∧ y ≤ m ∧ m ≤ R.length ∧ LS (lopen D er) age S (R.take m) m ∧ (m = 0 ∨ (logc age (R.take m)).length ≤ (acont D nlog).length) := by
  obtain ⟨a1, es, k1, e1⟩ := h.snap.keeps h.age0.2 h.fS
  obtain ⟨c, k, hc, hcR, hy⟩ := h.log
  -- what the cut leaves
  have cut : ∀ e : Nat, e ≤ (acont D nlog).length → Two (lopen D e) ∧ aget (lopen D e) nsnap = aget D nsnap ∧ (aget (lopen D e) nlog = some ((acont D nlog).take e, e) ∨ aget (lopen D e) nlog = none ∧ acont D nlog = [] ∧ e = 0) := by
    intro e he
    unfold lopen
    rw [h.two.del]
    unfold acont at he ⊢
    unfold acut
    cases hg : aget D nlog with
    | none => simp only [hg]; rw [hg] at he; refine ⟨h.two, trivial, .inr ⟨trivial, ?_⟩⟩; simp at he ⊢; exact he
    | some x =>
      rw [hg] at he
      simp only [Option.map_some, Option.getD_some] at he ⊢
      rw [if_neg (by omega)]
      refine ⟨h.two.set _ _, ?_, .inl ?_⟩
      · rw [aget_aset, if_neg (by decide)]
      · rw [aget_aset, if_pos rfl, hg]; simp
  have case0 : ∀ r : List UInt8, acont D nlog = r → one r = none → y = 0 →
      ∃ a1 a2 es er m, Keeps (acont D nsnap) a1 S es ∧ max a1 0 = age ∧ Keeps (acont D nlog) a2 (R.take m) er ∧ (a2 = -1 ∨ a2 = max a1 0) ∧ y ≤ m ∧ m ≤ R.length ∧ LS (lopen D er) age S (R.take m) m ∧ (m = 0 ∨ (logc age (R.take m)).length ≤ (acont D nlog).length) := by
    intro r hr hone hy0
    obtain ⟨t1, t2, t3⟩ := cut 0 (by omega)
    refine ⟨a1, -1, es, 0, 0, k1, e1, by rw [hr]; exact keeps_nil hone, .inl rfl, by omega, by omega, ⟨t1, h.age0, h.snap.of_aget t2, ?_, by simp, h.fS, by simp⟩, .inl rfl⟩
    refine ⟨[], 0, ?_, by simp, .inl ⟨rfl, rfl⟩, .inl rfl⟩
    rcases t3 with t3 | t3
    · left; rw [t3]; simp
    · right; exact ⟨t3.1, rfl, rfl⟩
  rcases hcR with ⟨rfl, rfl⟩ | rfl
  · exact case0 [] (by rw [hc]; simp) one_nil (by have := h.yR; simpa using this)
  · rw [logc_frames] at hc
    obtain ⟨m, r, m1, m2, m3, m4, m5⟩ := frames_take (xs := vint (zig age) :: R) k (fits_gen age h.fR)
    rw [m2] at hc
    cases m with
    | zero =>
      rw [List.take_zero, frames_nil, List.nil_append] at hc
      refine case0 r hc m3 ?_
      rcases hy with hy | hy
      · exact hy
      · rw [logc_frames, ← List.take_succ_cons] at hy
        have := m4 (y + 1) (by have := h.yR; simp; omega) hy
        omega
    | succ m =>
      rw [List.take_succ_cons, ← logc_frames] at hc
      have hm : m ≤ R.length := by simpa using m1
      obtain ⟨t1, t2, t3⟩ := cut (logc age (R.take m)).length (by rw [hc]; simp)
      have hfR : ∀ x ∈ R.take m, fits x := fun x hx => h.fR x (List.mem_of_mem_take hx)
      have hys : y ≤ m := by
        rcases hy with hy | hy
        · omega
        · rw [logc_frames, ← List.take_succ_cons] at hy
          have := m4 (y + 1) (by have := h.yR; simp; omega) hy
          omega
      refine ⟨a1, age, es, _, m, k1, e1, by rw [hc]; exact keeps_logc h.age0.1 h.age0.2 hfR m3, .inr e1.symm, hys, hm, ⟨t1, h.age0, h.snap.of_aget t2, ?_, by simp; omega, h.fS, hfR⟩, .inr (by rw [hc]; simp)⟩
      refine ⟨logc age (R.take m), (logc age (R.take m)).length, ?_, by simp, .inr rfl, .inr ?_⟩
      · rcases t3 with t3 | ⟨_, t3, t4⟩
        · left; rw [t3, hc, List.take_left]
        · have := genf_len age
          rw [logc_len] at t4; omega
      · rw [List.take_take, Nat.min_self]; omega
/-- Open of one at work: all is there -/
theorem LS.toLC {D : Ab} {age : Int} {S R : List (List UInt8)} {y : Nat} (h : LS D age S R y) : LC D age S R R.length := by
  obtain ⟨c, sy, hg, hs, hc, hy⟩ := h.log
  refine ⟨h.two, h.age0, h.snap, ⟨c, c.length, ?_, hc, ?_⟩, by simp, h.fS, h.fR⟩
  · unfold acont
    rcases hg with hg | ⟨hg, rfl, rfl⟩ <;> rw [hg] <;> simp
  · rcases hc with ⟨_, rfl⟩ | rfl
    · left; rfl
    · right; rw [List.take_length]; omega
theorem acrash_two {D : Ab} (h : Two D) (keep : Int) : Two (acrash keep D) := by
  refine ⟨?_, fun p hp => ?_⟩
  · have : (acrash keep D).map (·.1) = D.map (·.1) := by unfold acrash; rw [List.map_map]; rfl
    unfold Nd; rw [this]; exact h.nd
  · unfold acrash at hp
    obtain ⟨q, hq, rfl⟩ := List.mem_map.1 hp
    exact h.names q hq
theorem aget_acrash' (keep : Int) (D : Ab) (a : ByteArray) : aget (acrash keep D) a = (aget D a).map (cr keep) := by
  unfold aget acrash
  rw [List.find?_map]
  simp only [Option.map_map]
  rfl
theorem LS.crash {D : Ab} {age : Int} {S R : List (List UInt8)} {y : Nat} (h : LS D age S R y) (keep : Int) : LC (acrash keep D) age S R y := by
  obtain ⟨c, sy, hg, hs, hc, hy⟩ := h.log
  refine ⟨acrash_two h.two keep, h.age0, ?_, ?_, h.yR, h.fS, h.fR⟩
  · rcases h.snap with ⟨h1, h2, h3⟩ | ⟨h1, h3⟩
    · exact .inl ⟨h1, h2, by rw [aget_acrash', h3]; rfl⟩
    · refine .inr ⟨h1, ?_⟩
      rw [aget_acrash', h3]
      show some (cr keep _) = _
      unfold cr
      simp only
      rw [Nat.sub_self, Nat.min_zero, Nat.add_zero, List.take_length]
  · rcases hg with hg | ⟨hg, rfl, rfl⟩
    · refine ⟨c, sy + min (max keep 0).toNat (c.length - sy), ?_, hc, ?_⟩
      · unfold acont; rw [aget_acrash', hg]; rfl
      · rcases hy with hy | hy
        · exact .inl hy
        · right; omega
    · refine ⟨[], 0, ?_, hc, ?_⟩
      · unfold acont; rw [aget_acrash', hg]; rfl
      · rcases hc with ⟨_, rfl⟩ | hc
        · left; have := h.yR; simpa using this
        · exact absurd (congrArg List.length hc) (by have := genf_len age; rw [logc_len]; simp; omega)
end Go.Proofs.Ytamejkogghpbhaa
end
section
/- A log on a disk, in plain words: putting, syncing, saving. -/
set_option linter.unusedVariables false
set_option linter.unusedSimpArgs false
namespace Go.Proofs.Ytamejkogghpbhaa
open Go.Sx
theorem acont_aput (D : Ab) (a b : ByteArray) (x : List UInt8 × Nat) : acont (aput D a x) b = if a = b then x.1 else acont D b := by
  unfold acont; rw [aget_aput]; split <;> rfl
theorem logc_snoc (age : Int) (R : List (List UInt8)) (b : List UInt8) : logc age (R ++ [b]) = logc age R ++ frame b := by
  unfold logc; rw [frames_append, frames_cons, frames_nil, List.append_nil, List.append_assoc]
theorem logc_ne (age : Int) (R : List (List UInt8)) : logc age R ≠ [] := fun e => by
  have := congrArg List.length e
  have h := genf_len age
  rw [logc_len, List.length_nil] at this; omega
theorem aapp_log (room : Nat) (D : Ab) (f : List UInt8) : aapp room D nlog f = if room < aused D + f.length then (D, 4) else (aput D nlog ((aold D nlog).1 ++ f, (aold D nlog).2), 0) := by
  unfold aapp; rw [if_pos (by decide)]
theorem aapp_next (room : Nat) (D : Ab) (f : List UInt8) : aapp room D nnext f = if room < aused D + f.length then (D, 4) else (aput D nnext ((aold D nnext).1 ++ f, (aold D nnext).2), 0) := by
  unfold aapp; rw [if_pos (by decide)]
theorem lapp_len (D : Ab) (age : Int) (b : List UInt8) : (if acont D nlog = [] then genf age ++ frame b else frame b).length ≤ 22 + b.length := by
  have := genf_len age
  split
  · rw [List.length_append, frame_len]; omega
  · rw [frame_len]; omega
theorem lapp_no {room : Nat} {D : Ab} {age : Int} {b : List UInt8} (h : (lapp room D age b).2 ≠ 0) : lapp room D age b = (D, 4) := by
  unfold lapp at *
  generalize (if acont D nlog = [] then genf age ++ frame b else frame b) = f at *
  rw [aapp_log] at *
  by_cases hn : room < aused D + f.length
  · rw [if_pos hn]
  · rw [if_neg hn] at h; exact absurd rfl h
theorem lapp_yes {room : Nat} {D : Ab} {age : Int} {b : List UInt8} (h : aused D + 22 + b.length ≤ room) : (lapp room D age b).2 = 0 := by
  have := lapp_len D age b
  unfold lapp
  rw [aapp_log, if_neg (by omega)]
theorem LS.put {D : Ab} {age : Int} {S R : List (List UInt8)} {y room : Nat} (h : LS D age S R y) {b : List UInt8} (hb : fits b) (hc0 : (lapp room D age b).2 = 0) : LS (lapp room D age b).1 age S (R ++ [b]) y := by
  obtain ⟨c, sy, hg, hs, hc, hy⟩ := h.log
  have hold : aold D nlog = (c, sy) := by
    unfold aold
    rcases hg with hg | ⟨hg, rfl, rfl⟩ <;> rw [hg] <;> rfl
  have hcont : acont D nlog = c := by
    unfold acont
    rcases hg with hg | ⟨hg, rfl, rfl⟩ <;> rw [hg] <;> rfl
  have hlapp : (lapp room D age b).1 = aput D nlog (c ++ (if acont D nlog = [] then genf age ++ frame b else frame b), sy) := by
    unfold lapp at *
    generalize (if acont D nlog = [] then genf age ++ frame b else frame b) = f at *
    rw [aapp_log] at *
    by_cases hn : room < aused D + f.length
    · rw [if_pos hn] at hc0; exact absurd hc0 (by simp)
    · rw [if_neg hn, hold]
  have hnew : c ++ (if acont D nlog = [] then genf age ++ frame b else frame b) = logc age (R ++ [b]) := by
    rw [hcont, logc_snoc]
    rcases hc with ⟨rfl, rfl⟩ | rfl
    · simp [logc, frames_nil]
    · rw [if_neg (logc_ne age R)]
  rw [hlapp, hnew]
  refine ⟨h.two.put (.inr rfl) _, h.age0, h.snap.of_aget (by rw [aget_aput, if_neg (by decide)]), ?_, by have := h.yR; simp; omega, h.fS, ?_⟩
  · refine ⟨logc age (R ++ [b]), sy, .inl (by rw [aget_aput, if_pos rfl]), ?_, .inr rfl, ?_⟩
    · rw [← hnew, List.length_append]; omega
    · rw [List.take_append_of_le_length h.yR]; exact hy
  · intro x hx
    rcases List.mem_append.1 hx with hx | hx
    · exact h.fR x hx
    · simp at hx; subst hx; exact hb
theorem LS.sync {D : Ab} {age : Int} {S R : List (List UInt8)} {y : Nat} (h : LS D age S R y) : LS (async D nlog).1 age S R R.length := by
  obtain ⟨c, sy, hg, hs, hc, hy⟩ := h.log
  unfold async
  rcases hg with hg | ⟨hg, rfl, rfl⟩
  · rw [hg]
    refine ⟨h.two.set _ _, h.age0, h.snap.of_aget (by rw [aget_aset, if_neg (by decide)]), ⟨c, c.length, .inl ?_, Nat.le_refl _, hc, ?_⟩, Nat.le_refl _, h.fS, h.fR⟩
    · rw [aget_aset, if_pos rfl, hg]; rfl
    · rcases hc with ⟨_, rfl⟩ | rfl
      · left; rfl
      · right; rw [List.take_length]; omega
  · rw [hg]
    rcases hc with ⟨_, rfl⟩ | hc
    · exact ⟨h.two, h.age0, h.snap, ⟨[], 0, .inr ⟨hg, rfl, rfl⟩, by simp, .inl ⟨rfl, rfl⟩, .inl rfl⟩, Nat.le_refl _, h.fS, h.fR⟩
    · exact absurd hc.symm (logc_ne age R)
theorem lsave_no {room : Nat} {D : Ab} {age : Int} {S : List (List UInt8)} (ht : Two D) (h : (lsave room D age S).2 ≠ 0) : lsave room D age S = (D, 4) := by
  unfold lsave at *
  simp only [ht.del, aapp_next] at *
  by_cases hc : room < aused D + (genf (age + 1) ++ frames S).length
  · simp only [hc, if_true, show ¬ (4 : Int) = 0 by omega, if_false, ht.del]
  · simp only [hc, if_false, if_true, ne_eq, not_true_eq_false] at h
theorem lsave_yes {room : Nat} {D : Ab} {age : Int} {S : List (List UInt8)} (ht : Two D) (h : aused D + (genf (age + 1) ++ frames S).length ≤ room) : (lsave room D age S).2 = 0 := by
  unfold lsave
  simp only [ht.del, aapp_next]
  have hc : ¬ room < aused D + (genf (age + 1) ++ frames S).length := by omega
  simp only [hc, if_false, if_true]
theorem LS.save {D : Ab} {age : Int} {S R S' : List (List UInt8)} {y room : Nat} (h : LS D age S R y) (hS : ∀ x ∈ S', fits x) (ha : age + 1 ≤ 1000000000) (hc0 : (lsave room D age S').2 = 0) : LS (lsave room D age S').1 (age + 1) S' [] 0 := by
  have hn := h.two.next
  have hold : aold D nnext = ([], 0) := by unfold aold; rw [hn]; rfl
  have e0 : aapp room D nnext (genf (age + 1) ++ frames S') = (aput D nnext (genf (age + 1) ++ frames S', 0), 0) := by
    unfold lsave at hc0
    simp only [h.two.del, aapp_next] at hc0
    rw [aapp_next]
    by_cases hlt : room < aused D + (genf (age + 1) ++ frames S').length
    · simp only [hlt, if_true, show ¬ (4 : Int) = 0 by omega, if_false] at hc0
    · simp only [hlt, if_false, hold, List.nil_append]
  generalize hf : genf (age + 1) ++ frames S' = f at e0
  have e1 : (lsave room D age S').1 = (acut (aren (async (aput D nnext (f, 0)) nnext).1 nnext nsnap).1 nlog 0).1 := by
    unfold lsave
    simp only [h.two.del]
    rw [hf, e0]
    simp
  have e2 : (async (aput D nnext (f, 0)) nnext).1 = aset (aput D nnext (f, 0)) nnext (f, f.length) := by
    unfold async; rw [aget_aput, if_pos rfl]
  have g2 : aget (aset (aput D nnext (f, 0)) nnext (f, f.length)) nnext = some (f, f.length) := by rw [aget_aset, if_pos rfl, aget_aput, if_pos rfl]; rfl
  have e3 : (aren (aset (aput D nnext (f, 0)) nnext (f, f.length)) nnext nsnap).1 = aput (arem (aset (aput D nnext (f, 0)) nnext (f, f.length)) nnext) nsnap (f, f.length) := by
    unfold aren; rw [g2]; simp only; rw [if_pos (by decide)]
  rw [e1, e2, e3]
  generalize hE : aput (arem (aset (aput D nnext (f, 0)) nnext (f, f.length)) nnext) nsnap (f, f.length) = E
  have hE1 : aget E nsnap = some (f, f.length) := by rw [← hE, aget_aput, if_pos rfl]
  have hE2 : aget E nlog = aget D nlog := by
    rw [← hE, aget_aput, if_neg (by decide), aget_arem, if_neg (by decide), aget_aset, if_neg (by decide), aget_aput, if_neg (by decide)]
  have hET : Two E := by
    rw [← hE]
    refine ⟨(((h.two.nd.aput _ _).aset _ _).arem _).aput _ _, fun p hp => ?_⟩
    rcases mem_aput hp with e | ⟨q, hq, hqe⟩
    · exact .inl e
    · rw [← hqe]
      unfold arem at hq
      obtain ⟨hq, hne⟩ := List.mem_filter.1 hq
      have : q.1 ∈ (aset (aput D nnext (f, 0)) nnext (f, f.length)).map (·.1) := List.mem_map.2 ⟨q, hq, rfl⟩
      rw [aset_names] at this
      obtain ⟨q2, hq2, e2⟩ := List.mem_map.1 this
      rcases mem_aput hq2 with e | ⟨q3, hq3, e3⟩
      · rw [e2] at e; simp [e] at hne
      · rw [← e2, ← e3]; exact h.two.names q3 hq3
  have hsnap : ∀ E', aget E' nsnap = aget E nsnap → SnapOk E' (age + 1) S' := fun E' e => .inr ⟨by have := h.age0.1; omega, by rw [e, hE1, hf]⟩
  have hage : 0 ≤ age + 1 ∧ age + 1 ≤ 1000000000 := ⟨by have := h.age0.1; omega, ha⟩
  obtain ⟨c, sy, hg, hs, hc, hy⟩ := h.log
  unfold acut
  rw [hE2]
  rcases hg with hg | ⟨hg, rfl, rfl⟩
  · rw [hg]
    simp only
    rw [if_neg (by omega)]
    refine ⟨hET.set _ _, hage, hsnap _ (by rw [aget_aset, if_neg (by decide)]), ⟨[], 0, .inl ?_, by simp, .inl ⟨rfl, rfl⟩, .inl rfl⟩, by simp, hS, by simp⟩
    rw [aget_aset, if_pos rfl, hE2, hg]; rfl
  · rw [hg]
    exact ⟨hET, hage, hsnap _ rfl, ⟨[], 0, .inr ⟨by rw [hE2, hg], rfl, rfl⟩, by simp, .inl ⟨rfl, rfl⟩, .inl rfl⟩, by simp, hS, by simp⟩
/-- how many bytes there are -/
theorem LS.used {D : Ab} {age : Int} {S R : List (List UInt8)} {y : Nat} (h : LS D age S R y) : aused D ≤ 32 + (frames S).length + (frames R).length := by
  rw [h.two.used]
  have g := genf_len age
  have h1 : (acont D nsnap).length ≤ 16 + (frames S).length := by
    unfold acont
    rcases h.snap with ⟨_, _, e⟩ | ⟨_, e⟩ <;> rw [e] <;> simp <;> omega
  have h2 : (acont D nlog).length ≤ 16 + (frames R).length := by
    obtain ⟨c, sy, hg, hs, hc, hy⟩ := h.log
    have hcont : acont D nlog = c := by
      unfold acont
      rcases hg with hg | ⟨hg, rfl, rfl⟩ <;> rw [hg] <;> rfl
    rw [hcont]
    rcases hc with ⟨rfl, _⟩ | rfl
    · simp
    · rw [logc_len]; omega
  omega
theorem frames_le {xs : List (List UInt8)} {m : Nat} (h : ∀ x ∈ xs, x.length ≤ m) : (frames xs).length ≤ xs.length * (6 + m) := by
  induction xs with
  | nil => simp [frames_nil]
  | cons x xs ih =>
    have := ih fun y hy => h y (by simp [hy])
    have := h x (by simp)
    rw [frames_cons, List.length_append, frame_len, List.length_cons, Nat.succ_mul]
    omega
theorem Two.len {D : Ab} (h : Two D) : D.length ≤ 2 := by
  have := len_of_subset (D.map (·.1)) [nsnap, nlog] h.nd fun a ha => by
    obtain ⟨p, hp, rfl⟩ := List.mem_map.1 ha
    rcases h.names p hp with e | e <;> simp [e]
  simpa using this
end Go.Proofs.Ytamejkogghpbhaa
end
section
/- Printed by wip/gen/gen.py: the shallow texts of some functions. -/
set_option linter.unusedVariables false
namespace Go.Proofs.Ytamejkogghpbhaa
open Go.Sx

/-! sojourn/sojournlaw6.told: function 34 -/
def law6_told_main (R : VCont) (w : World) : Prop :=
  xCall P nr.disk_New [(Value.int IntKind.i64 1000)] w fun t1 w =>
  xExtract t1 0 w fun t2 w =>
  xExtract t1 1 w fun t3 w =>
  xEq P .neq 3 false true t3 (Value.int IntKind.i64 0) w fun t4 w =>
  xWhen t4 false (fun K => K t2 w) w fun t5 w =>
  xWhen t4 false (fun K => xEq P .eql 23 false true t5 (Value.pointer none) w K) w fun t6 w =>
  xPick t4 (Value.bool true) t6 w fun t7 w =>
  xIf t7
  (R (Value.bool false) w)
  (xCall P nr.seal_Open [t2] w fun t8 w =>
  xExtract t8 0 w fun t9 w =>
  xExtract t8 1 w fun t10 w =>
  xExtract t8 2 w fun t11 w =>
  xExtract t8 3 w fun t12 w =>
  xEq P .neq 3 false true t12 (Value.int IntKind.i64 0) w fun t13 w =>
  xWhen t13 false (fun K => K t9 w) w fun t14 w =>
  xWhen t13 false (fun K => xEq P .eql 53 false true t14 (Value.pointer none) w K) w fun t15 w =>
  xPick t13 (Value.bool true) t15 w fun t16 w =>
  xIf t16
  (R (Value.bool false) w)
  (xBuildSlice P 22 1 [(0, (Value.int IntKind.u8 97))] w fun t17 w =>
  xConvK P .more 22 22 t17 w fun t18 w =>
  xCall P nr.seal_Log_Put [t9, t18] w fun t19 w =>
  xCall P nr.seal_Log_Sync [t9] w fun t20 w =>
  xBuildSlice P 22 1 [(0, (Value.int IntKind.u8 98))] w fun t21 w =>
  xConvK P .more 22 22 t21 w fun t22 w =>
  xCall P nr.seal_Log_Put [t9, t22] w fun t23 w =>
  xCall P nr.disk_Disk_Crash [t2, (Value.int IntKind.i64 0)] w fun t24 w =>
  xCall P nr.seal_Open [t2] w fun t25 w =>
  xExtract t25 0 w fun t26 w =>
  xExtract t25 1 w fun t27 w =>
  xExtract t25 2 w fun t28 w =>
  xExtract t25 3 w fun t29 w =>
  xEq P .neq 3 false true t29 (Value.int IntKind.i64 0) w fun t30 w =>
  xWhen t30 false (fun K => K t26 w) w fun t31 w =>
  xWhen t30 false (fun K => xEq P .eql 53 false true t31 (Value.pointer none) w K) w fun t32 w =>
  xPick t30 (Value.bool true) t32 w fun t33 w =>
  xIf t33
  (R (Value.bool false) w)
  (xBuildSlice P 22 1 [(0, (Value.int IntKind.u8 83))] w fun t34 w =>
  xConvK P .more 22 22 t34 w fun t35 w =>
  xBuildSlice P 54 1 [(0, t35)] w fun t36 w =>
  xCall P nr.seal_Log_Save [t26, t36] w fun t37 w =>
  xCall P nr.seal_Open [t2] w fun t38 w =>
  xExtract t38 0 w fun t39 w =>
  xExtract t38 1 w fun t40 w =>
  xExtract t38 2 w fun t41 w =>
  xExtract t38 3 w fun t42 w =>
  xCall P nr.seal_Open [(Value.pointer none)] w fun t43 w =>
  xExtract t43 0 w fun t44 w =>
  xExtract t43 1 w fun t45 w =>
  xExtract t43 2 w fun t46 w =>
  xExtract t43 3 w fun t47 w =>
  xEq P .eql 3 false true t19 (Value.int IntKind.i64 0) w fun t48 w =>
  xWhen t48 true (fun K => K t20 w) w fun t49 w =>
  xWhen t48 true (fun K => xEq P .eql 3 false true t49 (Value.int IntKind.i64 0) w K) w fun t50 w =>
  xPick t48 t50 (Value.bool false) w fun t51 w =>
  xWhen t51 true (fun K => K t27 w) w fun t52 w =>
  xWhen t51 true (fun K => xLen P .pure #[54] t52 w K) w fun t53 w =>
  xWhen t51 true (fun K => xEq P .eql 3 false true t53 (Value.int IntKind.i64 0) w K) w fun t54 w =>
  xPick t51 t54 (Value.bool false) w fun t55 w =>
  xWhen t55 true (fun K => K t28 w) w fun t56 w =>
  xWhen t55 true (fun K => xLen P .pure #[54] t56 w K) w fun t57 w =>
  xWhen t55 true (fun K => xEq P .eql 3 false true t57 (Value.int IntKind.i64 1) w K) w fun t58 w =>
  xPick t55 t58 (Value.bool false) w fun t59 w =>
  xWhen t59 true (fun K => K t28 w) w fun t60 w =>
  xWhen t59 true (fun K => xIndexAddr P 54 t60 (Value.int IntKind.i64 0) w K) w fun t61 w =>
  xWhen t59 true (fun K => xLoad1 t61 w K) w fun t62 w =>
  xWhen t59 true (fun K => xConvK P .read 22 9 t62 w K) w fun t63 w =>
  xWhen t59 true (fun K => xEq P .eql 9 false true t63 (Value.string { data := #[97] }) w K) w fun t64 w =>
  xPick t59 t64 (Value.bool false) w fun t65 w =>
  xWhen t65 true (fun K => K t37 w) w fun t66 w =>
  xWhen t65 true (fun K => xEq P .eql 3 false true t66 (Value.int IntKind.i64 0) w K) w fun t67 w =>
  xPick t65 t67 (Value.bool false) w fun t68 w =>
  xWhen t68 true (fun K => K t42 w) w fun t69 w =>
  xWhen t68 true (fun K => xEq P .eql 3 false true t69 (Value.int IntKind.i64 0) w K) w fun t70 w =>
  xPick t68 t70 (Value.bool false) w fun t71 w =>
  xWhen t71 true (fun K => K t39 w) w fun t72 w =>
  xWhen t71 true (fun K => xEq P .neq 53 false true t72 (Value.pointer none) w K) w fun t73 w =>
  xPick t71 t73 (Value.bool false) w fun t74 w =>
  xWhen t74 true (fun K => K t40 w) w fun t75 w =>
  xWhen t74 true (fun K => xLen P .pure #[54] t75 w K) w fun t76 w =>
  xWhen t74 true (fun K => xEq P .eql 3 false true t76 (Value.int IntKind.i64 1) w K) w fun t77 w =>
  xPick t74 t77 (Value.bool false) w fun t78 w =>
  xWhen t78 true (fun K => K t40 w) w fun t79 w =>
  xWhen t78 true (fun K => xIndexAddr P 54 t79 (Value.int IntKind.i64 0) w K) w fun t80 w =>
  xWhen t78 true (fun K => xLoad1 t80 w K) w fun t81 w =>
  xWhen t78 true (fun K => xConvK P .read 22 9 t81 w K) w fun t82 w =>
  xWhen t78 true (fun K => xEq P .eql 9 false true t82 (Value.string { data := #[83] }) w K) w fun t83 w =>
  xPick t78 t83 (Value.bool false) w fun t84 w =>
  xWhen t84 true (fun K => K t41 w) w fun t85 w =>
  xWhen t84 true (fun K => xLen P .pure #[54] t85 w K) w fun t86 w =>
  xWhen t84 true (fun K => xEq P .eql 3 false true t86 (Value.int IntKind.i64 0) w K) w fun t87 w =>
  xPick t84 t87 (Value.bool false) w fun t88 w =>
  xWhen t88 true (fun K => K t47 w) w fun t89 w =>
  xWhen t88 true (fun K => xEq P .eql 3 false true t89 (Value.int IntKind.i64 1) w K) w fun t90 w =>
  xPick t88 t90 (Value.bool false) w fun t91 w =>
  xWhen t91 true (fun K => K t9 w) w fun t92 w =>
  xWhen t91 true (fun K => xCall P nr.seal_Log_Put [t92, (Value.slice none 0 0)] w K) w fun t93 w =>
  xWhen t91 true (fun K => xEq P .eql 3 false true t93 (Value.int IntKind.i64 1) w K) w fun t94 w =>
  xPick t91 t94 (Value.bool false) w fun t95 w =>
  R t95 w)))
theorem law6_told_ok {R : VCont} {w : World} (h : law6_told_main R w) : Calls P nr.law6_told [].toArray w (Ret R) :=
  calls_of_sx (P := P) (fn := Try.f34) (Os := (fun _ => .no)) (Es := []) (args := []) mixed (by kernel_rfl) (by kernel_rfl) (by kernel_rfl) (by kernel_rfl) (by kernel_rfl) (by kernel_rfl) (by kernel_rfl)
    (Eq.mp (show law6_told_main R w = sxh P (fun _ => .no) [] [] 0 (bodyOf Try.f34) (retQ P Try.f34.results.toList R) (envOf []) w by kernel_rfl) h)
theorem law6_told_call {R : VCont} {w : World} (h : law6_told_main R w) : xCall P nr.law6_told [] w R :=
  xCall_of (P := P) (fn := Try.f34) (by kernel_rfl) (by kernel_rfl) (by kernel_rfl) (law6_told_ok h)

/-! sojourn/sojournlaw6.few: function 33 -/
def law6_few_j0 (R : VCont) (w : World) : Prop :=
  R (Value.bool true) w
def law6_few_l1 (R : VCont) (X0 : LX) (v1 v3 : Value) (w : World) : Prop :=
  xOff (some 3) v1 w fun t22 w =>
  xLoad1 t22 w fun t23 w =>
  xLen P .pure #[54] t23 w fun t24 w =>
  xBin P .lss 3 v3 t24 w fun t25 w =>
  xIf t25
  (xOff (some 3) v1 w fun t26 w =>
  xLoad1 t26 w fun t27 w =>
  xIndexAddr P 54 t27 v3 w fun t28 w =>
  xLoad1 t28 w fun t29 w =>
  xLen P .pure #[22] t29 w fun t30 w =>
  xBin P .gtr 3 t30 (Value.int IntKind.i64 100) w fun t31 w =>
  xIf t31
  (R (Value.bool false) w)
  (xBin P .add 3 v3 (Value.int IntKind.i64 1) w fun t32 w =>
  X0 [t32] w))
  (law6_few_j0 R w)
def law6_few_main (R : VCont) (a0 : Value) (w : World) : Prop :=
  xBox P 58 a0 w fun t1 w =>
  xOff (some 2) t1 w fun t2 w =>
  xLoad1 t2 w fun t3 w =>
  xLen P .pure #[22] t3 w fun t4 w =>
  xBin P .gtr 3 t4 (Value.int IntKind.i64 100) w fun t5 w =>
  xWhen t5 false (fun K => xOff (some 3) t1 w K) w fun t6 w =>
  xWhen t5 false (fun K => xLoad1 t6 w K) w fun t7 w =>
  xWhen t5 false (fun K => xLen P .pure #[54] t7 w K) w fun t8 w =>
  xWhen t5 false (fun K => xBin P .gtr 3 t8 (Value.int IntKind.i64 6) w K) w fun t9 w =>
  xPick t5 (Value.bool true) t9 w fun t10 w =>
  xIf t10
  (R (Value.bool false) w)
  (Lp (fun X s w => law6_few_l1 R X t1 (s.getD 0 undef) w) [(Value.int IntKind.i64 0)] w)
def law6_few_es (R : VCont) : List Ent := [
  .join fun Xs e w => law6_few_j0 R  w,
  .loop [1] [3] fun Xs fx X s w => law6_few_l1 R X (fx.getD 0 undef) (s.getD 0 undef) w]
theorem law6_few_ok {R : VCont} {a0 : Value} {w : World} (h : law6_few_main R a0 w) : Calls P nr.law6_few [a0].toArray w (Ret R) :=
  calls_of_sx (P := P) (fn := Try.f33) (Os := (fun _ => .no)) (Es := (law6_few_es R)) (args := [a0]) mixed (by kernel_rfl) (by kernel_rfl) (by kernel_rfl) (by kernel_rfl) (by kernel_rfl) (by kernel_rfl) (by kernel_rfl)
    (Eq.mp (show law6_few_main R a0 w = sxh P (fun _ => .no) (law6_few_es R) [] 0 (bodyOf Try.f33) (retQ P Try.f33.results.toList R) (envOf [a0]) w by kernel_rfl) h)
theorem law6_few_call {R : VCont} {a0 : Value} {w : World} (h : law6_few_main R a0 w) : xCall P nr.law6_few [a0] w R :=
  xCall_of (P := P) (fn := Try.f33) (by kernel_rfl) (by kernel_rfl) (by kernel_rfl) (law6_few_ok h)

/-! sojourn/sojournlaw6.texts: function 38 -/
def law6_texts_j0 (R : VCont) (v3 : Value) (w : World) : Prop :=
  R v3 w
def law6_texts_l1 (R : VCont) (X0 : LX) (v0 v3 v4 : Value) (w : World) : Prop :=
  xLen P .pure #[54] v0 w fun t9 w =>
  xBin P .lss 3 v4 t9 w fun t10 w =>
  xIf t10
  (xIndexAddr P 54 v0 v4 w fun t11 w =>
  xLoad1 t11 w fun t12 w =>
  xConvK P .read 22 9 t12 w fun t13 w =>
  xBuildSlice P 34 1 [(0, t13)] w fun t14 w =>
  xBuiltin P .append #[34, 34] 34 [false, false] [v3, t14] w fun t15 w =>
  xBin P .add 3 v4 (Value.int IntKind.i64 1) w fun t16 w =>
  X0 [t15, t16] w)
  (law6_texts_j0 R v3 w)
def law6_texts_main (R : VCont) (a0 : Value) (w : World) : Prop :=
  Lp (fun X s w => law6_texts_l1 R X a0 (s.getD 0 undef) (s.getD 1 undef) w) [(Value.slice none 0 0), (Value.int IntKind.i64 0)] w
def law6_texts_es (R : VCont) : List Ent := [
  .join fun Xs e w => law6_texts_j0 R (e 3) w,
  .loop [0] [3, 4] fun Xs fx X s w => law6_texts_l1 R X (fx.getD 0 undef) (s.getD 0 undef) (s.getD 1 undef) w]
theorem law6_texts_ok {R : VCont} {a0 : Value} {w : World} (h : law6_texts_main R a0 w) : Calls P nr.law6_texts [a0].toArray w (Ret R) :=
  calls_of_sx (P := P) (fn := Try.f38) (Os := (fun _ => .no)) (Es := (law6_texts_es R)) (args := [a0]) mixed (by kernel_rfl) (by kernel_rfl) (by kernel_rfl) (by kernel_rfl) (by kernel_rfl) (by kernel_rfl) (by kernel_rfl)
    (Eq.mp (show law6_texts_main R a0 w = sxh P (fun _ => .no) (law6_texts_es R) [] 0 (bodyOf Try.f38) (retQ P Try.f38.results.toList R) (envOf [a0]) w by kernel_rfl) h)
theorem law6_texts_call {R : VCont} {a0 : Value} {w : World} (h : law6_texts_main R a0 w) : xCall P nr.law6_texts [a0] w R :=
  xCall_of (P := P) (fn := Try.f38) (by kernel_rfl) (by kernel_rfl) (by kernel_rfl) (law6_texts_ok h)

/-! sojourn/sojournlaw4.Texts: function 39 -/
def law4_Texts_j0 (R : VCont) (w : World) : Prop :=
  R (Value.bool true) w
def law4_Texts_l1 (R : VCont) (X0 : LX) (v0 v1 v5 : Value) (w : World) : Prop :=
  xLen P .pure #[54] v0 w fun t13 w =>
  xBin P .lss 3 v5 t13 w fun t14 w =>
  xIf t14
  (Sx.dr w fun w =>
  xIndexAddr P 54 v0 v5 w fun t15 _ =>
  xLoad1 t15 w fun t16 w' =>
  w' = w ∧
  xConvK P .read 22 9 t16 w fun t17 w' =>
  w' = w ∧
  xIndexAddr P 34 v1 v5 w fun t18 _ =>
  xLoad1 t18 w fun t19 w' =>
  w' = w ∧
  xEq P .neq 9 false false t17 t19 w fun t20 _ =>
  xIf t20
  (R (Value.bool false) w)
  (xBin P .add 3 v5 (Value.int IntKind.i64 1) w fun t21 w =>
  X0 [t21] w))
  (law4_Texts_j0 R w)
def law4_Texts_main (R : VCont) (a0 a1 : Value) (w : World) : Prop :=
  xLen P .pure #[54] a0 w fun t1 w =>
  xLen P .pure #[34] a1 w fun t2 w =>
  xEq P .neq 3 false false t1 t2 w fun t3 w =>
  xIf t3
  (R (Value.bool false) w)
  (Lp (fun X s w => law4_Texts_l1 R X a0 a1 (s.getD 0 undef) w) [(Value.int IntKind.i64 0)] w)
def law4_Texts_os (i : Nat) : OT := cond (Nat.beq i 6) (.fl 0 (.fl 1 (.fl 2 (.fl 3 (.fl 4 (.fl 5 (.fl 6 (.fl 7 (.fl 8 (.fl 9 .done)))))))))) (.no)
def law4_Texts_es (R : VCont) : List Ent := [
  .join fun Xs e w => law4_Texts_j0 R  w,
  .loop [0, 1] [5] fun Xs fx X s w => law4_Texts_l1 R X (fx.getD 0 undef) (fx.getD 1 undef) (s.getD 0 undef) w]
theorem law4_Texts_ok {R : VCont} {a0 a1 : Value} {w : World} (h : law4_Texts_main R a0 a1 w) : Calls P nr.law4_Texts [a0, a1].toArray w (Ret R) :=
  calls_of_sx (P := P) (fn := Try.f39) (Os := law4_Texts_os) (Es := (law4_Texts_es R)) (args := [a0, a1]) mixed (by kernel_rfl) (by kernel_rfl) (by kernel_rfl) (by kernel_rfl) (by kernel_rfl) (by kernel_rfl) (by kernel_rfl)
    (Eq.mp (show law4_Texts_main R a0 a1 w = sxh P law4_Texts_os (law4_Texts_es R) [] 0 (bodyOf Try.f39) (retQ P Try.f39.results.toList R) (envOf [a0, a1]) w by kernel_rfl) h)
theorem law4_Texts_call {R : VCont} {a0 a1 : Value} {w : World} (h : law4_Texts_main R a0 a1 w) : xCall P nr.law4_Texts [a0, a1] w R :=
  xCall_of (P := P) (fn := Try.f39) (by kernel_rfl) (by kernel_rfl) (by kernel_rfl) (law4_Texts_ok h)

/-! sojourn/sojournlaw6.at: function 45 -/
def law6_at_j0 (R : VCont) (w : World) : Prop :=
  R (Value.int IntKind.i64 0) w
def law6_at_l1 (R : VCont) (X0 : LX) (v0 v1 v5 : Value) (w : World) : Prop :=
  xNil v0 w fun t14 w =>
  xOff (some 1) t14 w fun t15 w =>
  xLoad1 t15 w fun t16 w =>
  xLen P .pure #[41] t16 w fun t17 w =>
  xBin P .lss 3 v5 t17 w fun t18 w =>
  xIf t18
  (xNil v0 w fun t19 w =>
  xOff (some 1) t19 w fun t20 w =>
  xLoad1 t20 w fun t21 w =>
  xIndexAddr P 41 t21 v5 w fun t22 w =>
  xOff (some 0) t22 w fun t23 w =>
  xLoad1 t23 w fun t24 w =>
  xEq P .eql 9 false false t24 v1 w fun t25 w =>
  xIf t25
  (R v5 w)
  (xBin P .add 3 v5 (Value.int IntKind.i64 1) w fun t26 w =>
  X0 [t26] w))
  (law6_at_j0 R w)
def law6_at_main (R : VCont) (a0 a1 : Value) (w : World) : Prop :=
  Lp (fun X s w => law6_at_l1 R X a0 a1 (s.getD 0 undef) w) [(Value.int IntKind.i64 0)] w
def law6_at_es (R : VCont) : List Ent := [
  .join fun Xs e w => law6_at_j0 R  w,
  .loop [0, 1] [5] fun Xs fx X s w => law6_at_l1 R X (fx.getD 0 undef) (fx.getD 1 undef) (s.getD 0 undef) w]
theorem law6_at_ok {R : VCont} {a0 a1 : Value} {w : World} (h : law6_at_main R a0 a1 w) : Calls P nr.law6_at [a0, a1].toArray w (Ret R) :=
  calls_of_sx (P := P) (fn := Try.f45) (Os := (fun _ => .no)) (Es := (law6_at_es R)) (args := [a0, a1]) mixed (by kernel_rfl) (by kernel_rfl) (by kernel_rfl) (by kernel_rfl) (by kernel_rfl) (by kernel_rfl) (by kernel_rfl)
    (Eq.mp (show law6_at_main R a0 a1 w = sxh P (fun _ => .no) (law6_at_es R) [] 0 (bodyOf Try.f45) (retQ P Try.f45.results.toList R) (envOf [a0, a1]) w by kernel_rfl) h)
theorem law6_at_call {R : VCont} {a0 a1 : Value} {w : World} (h : law6_at_main R a0 a1 w) : xCall P nr.law6_at [a0, a1] w R :=
  xCall_of (P := P) (fn := Try.f45) (by kernel_rfl) (by kernel_rfl) (by kernel_rfl) (law6_at_ok h)

end Go.Proofs.Ytamejkogghpbhaa
end
section
/- The laws of layer 6: their helpers. -/
set_option linter.unusedVariables false
set_option linter.unusedSimpArgs false
namespace Go.Proofs.Ytamejkogghpbhaa
open Go.Sx
def bstr (x : List UInt8) : ByteArray := ⟨x.toArray⟩
def strs (xs : List (List UInt8)) : List Value := xs.map fun x => .string (bstr x)
theorem strs_len' (R : List (List UInt8)) : (strs R).length = R.length := by simp [strs]
theorem bstr_inj {a b : List UInt8} (h : bstr a = bstr b) : a = b := by
  have := congrArg (fun s : ByteArray => s.data.toList) h
  simpa [bstr] using this
section
variable {w : World} {K : VCont} {l : List Asn} {d room p n : Nat} {D : Ab} {age : Int} {S R : List (List UInt8)} {y : Nat}
theorem Open_ls (h : Hp w (DiskA d room D :: l)) (hc : LC D age S R y) (hR : R.length ≤ 1000000000)
    (hK : ∀ p vs vr w' D' m, y ≤ m → m ≤ R.length → LS D' age S (R.take m) m → (m = 0 ∨ (logc age (R.take m)).length ≤ (acont D nlog).length) → Hp w' (LogA p d age m :: RoA (fun w => RdBs w vs S) :: RoA (fun w => RdBs w vr (R.take m)) :: DiskA d room D' :: l) → K (.tuple #[ptr p, vs, vr, i64 0]) w') :
    xCall P nr.seal_Open [ptr d] w K := by
  obtain ⟨a1, a2, es, er, m, k1, e1, k2, hor, m1, m2, ls, hm⟩ := hc.open'
  have hml : (R.take m).length = m := by rw [List.length_take]; omega
  refine seal_Open_hp h k1 k2 (by omega) ?_
  intro p vs vr w' R' e' he h
  rw [if_pos hor] at he
  cases he
  rw [e1, hml] at h
  exact hK p vs vr w' _ m m1 m2 ls hm h
theorem texts_hp {v : Value} (h : Hp w l) (hv : ∀ w, Hp w l → RdBs w v S) (hS : S.length ≤ 1000000) (hK : ∀ v' w', Hp w' (SlA ty.string 1 v' S.length (strs S) :: l) → K v' w') : xCall P nr.law6_texts [v] w K := by
  refine law6_texts_call ?_
  unfold law6_texts_main
  have h0 : Hp w (SlA ty.string 1 (.slice none 0 0) 0 [] :: l) := h.new (A := SlA ty.string 1 (.slice none 0 0) 0 []) (F := fun _ => False) ⟨Own.nil _ _ _, fun b => by simp [Value.ownBlock]⟩ (fun _ h => h.elim) (Chg.refl _ _)
  refine Lp.gen (fun m s w' => ∃ (i : Nat) (va : Value), m + i = S.length ∧ s = [va, i64 i] ∧ Hp w' (SlA ty.string 1 va i (strs (S.take i)) :: l)) S.length ⟨0, .slice none 0 0, by omega, rfl, by simpa [strs] using h0⟩ ?_
  rintro m s w2 ⟨i, va, hm, rfl, h⟩ X hX
  unfold law6_texts_l1
  simp only [List.getD_cons_zero, List.getD_cons_succ, (hv w2 h.tail).len und.s_s_uint8, xs, xb]
  by_cases hlt : i < S.length
  · have hlt' : (i : Int) < (S.length : Int) := by omega
    have hx := List.getElem?_eq_getElem hlt
    generalize S[i] = x at hx
    obtain ⟨p0, u, i0, q0, hru⟩ := (hv w2 h.tail).at und.s_s_uint8 inf.s_uint8 rfl hx
    simp only [hlt', xs, xd, i0, q0, bytes_string und.s_uint8 und.uint8 und.string hru]
    refine Hp.sl1 (size := 1) und.s_string inf.string rfl (by omega) (by omega) rfl rfl h (cs := [.string (bstr x)]) rfl rfl ?_
    intro v1 w3 h
    refine Hp.app (size := 1) (bytes := 16) und.s_string inf.string rfl rfl rfl rfl h.pick1 h.own.rdN (by simp [Value.oneCell']) (by omega) (by omega) ?_
    intro v2 w4 h
    have hi1 : IntKind.i64.wrap ((i : Int) + 1) = ((i + 1 : Nat) : Int) := by rw [wrap_i64 (by omega) (by omega)]; omega
    rw [hi1]
    refine hX (m - 1) _ _ ⟨i + 1, v2, by omega, rfl, ?_⟩ (by omega)
    have e : strs (S.take (i + 1)) = strs (S.take i) ++ [.string (bstr x)] := by
      unfold strs; rw [List.take_add_one, hx]; simp
    rw [e]
    exact h.pick1.tail
  · have hlt' : ¬ (i : Int) < (S.length : Int) := by omega
    simp only [hlt', xs, xd]
    unfold law6_texts_j0
    have hi : i = S.length := by omega
    subst hi
    rw [List.take_length] at h
    exact hK va w2 h
/-- two lists of texts: alike, or not -/
theorem Texts_spec {va vb : Value} {A B : List (List UInt8)} (ha : RdBs w va A) (hb : Rd w vb (strs B)) (hl : A.length ≤ 1000000) (hK : ∀ w', Chg none' w w' → K (.bool (decide (A = B))) w') : xCall P nr.law4_Texts [va, vb] w K := by
  refine law4_Texts_call ?_
  unfold law4_Texts_main
  have hBl : (strs B).length = B.length := by simp [strs]
  simp only [ha.len und.s_s_uint8, rd_len hb und.s_string, hBl, xs, xb]
  by_cases hlen : A.length = B.length
  rotate_left
  · have : ¬ (A.length : Int) = (B.length : Int) := by omega
    simp only [this, xs, xd]
    have := hK w (Chg.refl _ _)
    rwa [show decide (A = B) = false by rw [decide_eq_false_iff_not]; rintro rfl; exact hlen rfl] at this
  have : (A.length : Int) = (B.length : Int) := by omega
  simp only [this, xs, xd]
  refine Lp.gen (fun m s w' => ∃ i : Nat, m + i = A.length ∧ s = [i64 i] ∧ A.take i = B.take i ∧ Chg none' w w') A.length ⟨0, by omega, rfl, by simp, Chg.refl _ _⟩ ?_
  rintro m s w2 ⟨i, hm, rfl, heq, hc⟩ X hX
  unfold law4_Texts_l1
  have ha2 := ha.keep' hc
  have hb2 := hb.keep' hc
  simp only [List.getD_cons_zero, ha2.len und.s_s_uint8, xs, xb]
  by_cases hlt : i < A.length
  · have hlt' : (i : Int) < (A.length : Int) := by omega
    have hx := List.getElem?_eq_getElem hlt
    have hy := List.getElem?_eq_getElem (show i < B.length by omega)
    have hA : A.take (i + 1) = A.take i ++ [A[i]] := by rw [List.take_add_one, hx]; rfl
    have hB : B.take (i + 1) = B.take i ++ [B[i]] := by rw [List.take_add_one, hy]; rfl
    generalize A[i] = x at hx hA
    generalize B[i] = z at hy hB
    have hcd : Chg none' w w2.drew := hc.trans (Chg.drew _ _)
    obtain ⟨p0, u, i0, q0, hru⟩ := (ha.keep' hcd).at und.s_s_uint8 inf.s_uint8 rfl hx
    obtain ⟨p1, i1, q1⟩ := at_rd' und.s_string inf.string rfl (hb.keep' hcd) (k := i) (x := .string (bstr z)) (by unfold strs; rw [List.getElem?_map, hy]; rfl)
    simp only [hlt', xs, xd, i0, q0, i1, q1 _ (hb.keep' hcd), true_and, bytes_string und.s_uint8 und.uint8 und.string hru, xNe_str]
    by_cases hxz : x = z
    · subst hxz
      simp only [bstr, xs, xb, xd]
      have hi1 : IntKind.i64.wrap ((i : Int) + 1) = ((i + 1 : Nat) : Int) := by rw [wrap_i64 (by omega) (by omega)]; omega
      rw [hi1]
      exact hX (m - 1) _ _ ⟨i + 1, by omega, rfl, by rw [hA, hB, heq], hcd⟩ (by omega)
    · have hs : ¬ (⟨x.toArray⟩ : ByteArray) = bstr z := fun e => hxz (bstr_inj (a := x) (b := z) e)
      simp only [hs, xs, xb, xd]
      have := hK w2.drew hcd
      rwa [show decide (A = B) = false by
        rw [decide_eq_false_iff_not]
        rintro rfl
        rw [hx] at hy; cases hy; exact hxz rfl] at this
  · have hlt' : ¬ (i : Int) < (A.length : Int) := by omega
    simp only [hlt', xs, xd]
    unfold law4_Texts_j0
    have hi : i = A.length := by omega
    subst hi
    rw [List.take_length, hlen, List.take_length] at heq
    have := hK w2 hc
    rwa [show decide (A = B) = true by simp [heq]] at this
end
end Go.Proofs.Ytamejkogghpbhaa
end
section
/- The laws of layer 6: told, few. -/
set_option linter.unusedVariables false
set_option linter.unusedSimpArgs false
namespace Go.Proofs.Ytamejkogghpbhaa
open Go.Sx
section
variable {w : World} {K : VCont} {l : List Asn} {d room p n : Nat} {D : Ab} {age : Int} {S R : List (List UInt8)} {y : Nat}
theorem conv_bytes' {w : World} {K : VCont} (g : Addr) (n c : Nat) (hK : ∀ w', (∀ a, w'.cell? a = w.cell? a) → Chg (· = g.block) w w' → K (.slice (some g) n c) w') : xConvK P .more ty.s_uint8 ty.s_uint8 (.slice (some g) n c) w K := conv_bytes g n c hK
/-- bytes that are written out -/
theorem lit_hp {n : Nat} {ps : List (Nat × Value)} (bs : List UInt8) (h : Hp w l) (hn : bs.length = n) (hps : ps = ((bs.map bv).zipIdx 0).map fun p => (p.2, p.1)) (hbig : n ≤ 16777216)
    (hK : ∀ v w', Hp w' (RoA (fun w => Rd w v (bs.map bv)) :: l) → v.oneCell' = true → K v w') : xBuildSlice P ty.s_uint8 n ps w fun t w => xConvK P .more ty.s_uint8 ty.s_uint8 t w K := by
  refine buildSlice_step und.s_uint8 inf.uint8 rfl rfl rfl (by simpa using hn) hps (bv_one bs) hbig ?_
  intro v w1 ho hb hc hs
  have hr := ho.rd
  have hr' := hr
  obtain ⟨a, cap, rfl, hl, hcell⟩ := hr
  cases a with
  | none => cases hb
  | some g =>
    refine conv_bytes' g _ _ ?_
    intro w2 h1 h2
    have hgb : g.block = w.heap.size := by simpa [Value.ownBlock] using hb
    have hr2 : Rd w2 (.slice (some g) (bs.map bv).length cap) (bs.map bv) := ⟨some g, cap, rfl, hl, fun i u hu => (h1 _).trans (hcell i u hu)⟩
    refine hK _ w2 (h.new (A := RoA _) (F := fun b => b = g.block) ⟨fun b e => ?_, fun w' hw => hr2.same fun b e => ?_⟩ (fun b e => by omega) (hc.then h2 fun b hb hbg => by omega)) rfl
    · have := h2.size; omega
    · have : g.block = b := by simpa [Value.ownBlock] using e
      exact hw b this.symm
/-- [][]byte{[]byte{..}} -/
theorem lit1_hp {v : Value} {bs : List UInt8} (h : Hp w (RoA (fun w => Rd w v (bs.map bv)) :: l)) (hv : v.oneCell' = true) (hK : ∀ v' w', Hp w' (RoA (fun w => RdBs w v' [bs]) :: l) → K v' w') : xBuildSlice P ty.s_s_uint8 1 [(0, v)] w K := by
  refine Hp.sl1 (size := 1) und.s_s_uint8 inf.s_uint8 rfl (by omega) (by omega) rfl rfl h (cs := [v]) (by cases v <;> simp_all [Value.cells, Value.oneCell']) rfl ?_
  intro v' w' h
  refine hK v' w' ((SlA.ro h).roAnd.roMono fun w hw => ⟨[v], hw.1, rfl, fun i u x hu hx => ?_⟩)
  rcases i with _ | i
  · simp at hu hx; subst hu; subst hx; exact hw.2
  · simp at hu
theorem Open_nil (hK : K (.tuple #[.pointer none, .slice none 0 0, .slice none 0 0, i64 1]) w) : xCall P nr.seal_Open [.pointer none] w K := by
  refine seal_Open_call ?_
  unfold seal_Open_main
  rw [xEq_ptr und.p_disk_Disk]
  simp only [xs, xd, Option.isNone_none]
  exact hK
theorem told6_hp (h : Hp w l) (hK : ∀ w', Hp w' l → K (.bool true) w') : xCall P nr.law6_told [] w K := by
  refine law6_told_call ?_
  unfold law6_told_main
  refine New_hp h 1000 (by omega) ?_
  intro d w1 h
  simp only [xs, xb, xd, xEq_ptr und.p_disk_Disk, Option.isNone_some]
  refine seal_Open_hp h (keeps_nil one_nil) (keeps_nil one_nil) (by simp) ?_
  intro p vs vr w2 R' e' he h
  rw [if_pos (.inl rfl)] at he
  cases he
  replace h : Hp w2 (LogA p d 0 0 :: RoA (fun w => RdBs w vs []) :: RoA (fun w => RdBs w vr []) :: DiskA d 1000 [] :: l) := h
  simp only [xs, xb, xd, xEq_ptr und.p_seal_Log, Option.isNone_some]
  refine lit_hp [97] h rfl (by kernel_rfl) (by omega) ?_
  intro v3 w3 h _
  refine seal_Put_hp (n := 0) (l := RoA (fun w => Rd w v3 ([97].map bv)) :: RoA (fun w => RdBs w vs []) :: RoA (fun w => RdBs w vr []) :: l) (h.pick4.pick2) (by simp) (by omega) (by omega) (by omega) h.ro (by simp) ?_
  intro w4 h
  have e1 : lput 1000 [] 0 0 [97] = ([(nlog, logc 0 [[97]], 0)], 1, 0) := by kernel_rfl
  rw [e1] at h ⊢
  refine seal_Sync_hp h ?_
  intro w5 h
  have e2 : (async [(nlog, logc 0 [[97]], 0)] nlog).1 = [(nlog, logc 0 [[97]], (logc 0 [[97]]).length)] := by kernel_rfl
  rw [e2] at h
  refine lit_hp [98] h rfl (by kernel_rfl) (by omega) ?_
  intro v6 w6 h _
  refine seal_Put_hp (n := 1) (l := RoA (fun w => Rd w v6 ([98].map bv)) :: RoA (fun w => Rd w v3 ([97].map bv)) :: RoA (fun w => RdBs w vs []) :: RoA (fun w => RdBs w vr []) :: l) (h.pick2.pick2) (by simp) (by omega) (by omega) (by omega) h.ro (by simp) ?_
  intro w7 h
  have e3 : lput 1000 [(nlog, logc 0 [[97]], (logc 0 [[97]]).length)] 0 1 [98] = ([(nlog, logc 0 [[97], [98]], (logc 0 [[97]]).length)], 2, 0) := by kernel_rfl
  rw [e3] at h
  refine Crash_hp h.pick1 (by simp) 0 (by omega) ?_
  intro w8 h
  have e4 : acrash 0 [(nlog, logc 0 [[97], [98]], (logc 0 [[97]]).length)] = [(nlog, logc 0 [[97]], (logc 0 [[97]]).length)] := by kernel_rfl
  rw [e4] at h
  have k1 : Keeps (acont [(nlog, logc 0 [[97]], (logc 0 [[97]]).length)] nlog) 0 [[97]] (logc 0 [[97]]).length := by
    have : acont [(nlog, logc 0 [[97]], (logc 0 [[97]]).length)] nlog = logc 0 [[97]] ++ [] := by kernel_rfl
    rw [this]
    exact keeps_logc (by omega) (by omega) (by decide) one_nil
  refine seal_Open_hp (a1 := -1) (S := []) (es := 0) h (keeps_nil one_nil) k1 (by simp) ?_
  intro p2 vs2 vr2 w9 R' e' he h
  rw [if_pos (.inr (by omega))] at he
  cases he
  have e5 : lopen [(nlog, logc 0 [[97]], (logc 0 [[97]]).length)] (logc 0 [[97]]).length = [(nlog, logc 0 [[97]], (logc 0 [[97]]).length)] := by kernel_rfl
  rw [e5, show max (-1 : Int) 0 = 0 from rfl] at h
  simp only [xs, xb, xd, xEq_ptr und.p_seal_Log, Option.isNone_some]
  refine lit_hp [83] h rfl (by kernel_rfl) (by omega) ?_
  intro v10 w10 h hv10
  refine lit1_hp h hv10 ?_
  intro v11 w11 h
  refine seal_Save_hp (n := 1) (S := [[83]]) h.pick4.pick2 (by simp) (by omega) (by omega) (fun w h => h.ro) (by simp) (by simp) (fun hn => absurd hn (by decide)) ?_
  intro _ w12 age' n' he h
  have e6 : lsave 1000 [(nlog, logc 0 [[97]], (logc 0 [[97]]).length)] 0 [[83]] = ([(nlog, [], 0), (nsnap, logc 1 [[83]], (logc 1 [[83]]).length)], 0) := by kernel_rfl
  rw [e6] at h he ⊢
  rw [if_pos rfl] at he
  cases he
  have k3 : Keeps (acont [(nlog, [], 0), (nsnap, logc 1 [[83]], (logc 1 [[83]]).length)] nsnap) 1 [[83]] (logc 1 [[83]]).length := by
    have : acont [(nlog, [], 0), (nsnap, logc 1 [[83]], (logc 1 [[83]]).length)] nsnap = logc 1 [[83]] ++ [] := by kernel_rfl
    rw [this]
    exact keeps_logc (by omega) (by omega) (by decide) one_nil
  have k4 : Keeps (acont [(nlog, [], 0), (nsnap, logc 1 [[83]], (logc 1 [[83]]).length)] nlog) (-1) [] 0 := by
    have : acont [(nlog, [], 0), (nsnap, logc 1 [[83]], (logc 1 [[83]]).length)] nlog = [] := by kernel_rfl
    rw [this]
    exact keeps_nil one_nil
  refine seal_Open_hp h.pick1 k3 k4 (by simp) ?_
  intro p3 vs3 vr3 w13 R' e' he h
  rw [if_pos (.inl rfl)] at he
  cases he
  have h := h.pick4.tail.pick4.tail
  simp only [xs]
  refine Open_nil ?_
  have b2 := h.pick4.ro
  have b2r := h.pick5.ro
  have b3 := h.pick1.ro
  have b3r := h.pick2.ro
  obtain ⟨p0, u0, i0, q0, r0⟩ := b2r.at und.s_s_uint8 inf.s_uint8 rfl (k := 0) (x := [97]) rfl
  obtain ⟨p1, u1, i1, q1, r1⟩ := b3.at und.s_s_uint8 inf.s_uint8 rfl (k := 0) (x := [83]) rfl
  have i0' : ∀ (w2 : World) (C : VCont), xIndexAddr P ty.s_s_uint8 vr2 (.int .i64 0) w2 C = C (.pointer (some p0)) w2 := i0
  have i1' : ∀ (w2 : World) (C : VCont), xIndexAddr P ty.s_s_uint8 vs3 (.int .i64 0) w2 C = C (.pointer (some p1)) w2 := i1
  have c0 : ((([] : List (List UInt8)).length : Nat) : Int) = 0 := rfl
  have c1 : ((([[97]] : List (List UInt8)).length : Nat) : Int) = 1 := rfl
  have c3 : ((([[83]] : List (List UInt8)).length : Nat) : Int) = 1 := rfl
  simp only [xs, xb, xd, b2.len und.s_s_uint8, b2r.len und.s_s_uint8, b3.len und.s_s_uint8, b3r.len und.s_s_uint8, i0', q0, i1', q1, bytes_string und.s_uint8 und.uint8 und.string r0, bytes_string und.s_uint8 und.uint8 und.string r1, xEq_str, xNe_ptr und.p_seal_Log, Option.isNone_some, c0, c1, c3, decide_true]
  have hl8 : (lopen [(nlog, [], 0), (nsnap, logc 1 [[83]], (logc 1 [[83]]).length)] 0).length = 2 := by kernel_rfl
  have hnil : Rd w13 (.slice none 0 0) (([] : List UInt8).map bv) := ⟨none, 0, rfl, Nat.le_refl _, rfl⟩
  refine seal_Put_hp (n := 2) (age := 0) h.pick3.pick6 (by rw [hl8]; omega) (by omega) (by omega) (by omega) hnil (by simp) ?_
  intro w14 h
  have e7 : ∀ D, lput 1000 D 0 2 [] = (D, 2, 1) := fun D => by unfold lput; rw [if_neg (by decide)]
  rw [e7] at h ⊢
  simp only [xs, xb, xd]
  exact hK w14 h.tail.tail.tail.tail.tail.tail.tail.tail.tail.tail.tail
end
end Go.Proofs.Ytamejkogghpbhaa
end
section
/- A log at work: its functions, by what they leave. -/
set_option linter.unusedVariables false
set_option linter.unusedSimpArgs false
namespace Go.Proofs.Ytamejkogghpbhaa
open Go.Sx
theorem lsave_cont {D : Ab} {age : Int} {S : List (List UInt8)} {room : Nat} (ht : Two D) (hc : (lsave room D age S).2 = 0) : acont (lsave room D age S).1 nlog = [] := by
  have e : ∃ E, (lsave room D age S).1 = (acut E nlog 0).1 := by
    unfold lsave
    simp only [ht.del]
    unfold lsave at hc
    simp only [ht.del] at hc
    split at hc
    · rename_i h; rw [if_pos h]; exact ⟨_, rfl⟩
    · rename_i h; exact absurd hc h
  obtain ⟨E, e⟩ := e
  rw [e]
  unfold acut acont
  cases hg : aget E nlog with
  | none => simp only [hg]; rfl
  | some x =>
    simp only
    rw [if_neg (by omega), aget_aset, if_pos rfl, hg]; rfl
/-- a log of another generation does not count -/
theorem open_other {D : Ab} {age : Int} {S : List (List UInt8)} (ht : Two D) (h0 : 0 ≤ age ∧ age ≤ 1000000000) (hs : SnapOk D age S) (hS : ∀ x ∈ S, fits x) : LS (lopen D 0) age S [] 0 := by
  unfold lopen
  rw [ht.del]
  unfold acut
  cases hg : aget D nlog with
  | none => exact ⟨ht, h0, hs, ⟨[], 0, .inr ⟨hg, rfl, rfl⟩, by simp, .inl ⟨rfl, rfl⟩, .inl rfl⟩, by simp, hS, by simp⟩
  | some x =>
    simp only
    rw [if_neg (by omega)]
    refine ⟨ht.set _ _, h0, hs.of_aget (by rw [aget_aset, if_neg (by decide)]), ⟨[], 0, .inl ?_, by simp, .inl ⟨rfl, rfl⟩, .inl rfl⟩, by simp, hS, by simp⟩
    rw [aget_aset, if_pos rfl, hg]; rfl
theorem Hp_only {w : World} {l : List Asn} {A : Asn} (h : Hp w l) (hm : A ∈ l) : Hp w [A] := by
  obtain ⟨F, h1⟩ := h.mem hm; exact ⟨F, h1, fun _ _ => trivial, trivial⟩
section
variable {w : World} {K : VCont} {l : List Asn} {d room p n : Nat} {D : Ab} {age : Int} {S R : List (List UInt8)} {y : Nat}
theorem Read_hp1 (h : Hp w (DiskA d room D :: l)) (a : ByteArray) (hK : ∀ v w' c, (c = if (aget D a).isSome then 0 else 5) → v.oneCell' = true → Hp w' (RoA (fun w => Rd w v ((acont D a).map bv)) :: DiskA d room D :: l) → K (.tuple #[v, i64 c]) w') : xCall P nr.disk_Disk_Read [ptr d, .string a] w K := by
  cases hg : aget D a with
  | none =>
    refine Read_hp h a (fun _ => ?_) (fun x hx => by rw [hg] at hx; cases hx)
    refine hK _ w 5 (by rw [hg]; rfl) rfl (Hp.roTrue h fun w => ?_)
    have : acont D a = [] := by unfold acont; rw [hg]; rfl
    rw [this]
    exact ⟨none, 0, rfl, Nat.le_refl _, rfl⟩
  | some x =>
    refine Read_hp h a (fun e => by rw [hg] at e; cases e) (fun y hy v w' h => ?_)
    rw [hg] at hy; cases hy
    have : acont D a = x.1 := by unfold acont; rw [hg]; rfl
    refine hK v w' 0 (by rw [hg]; rfl) h.own.one ?_
    rw [this]
    exact SlA.ro h
theorem Put_ls (h : Hp w (LogA p d age R.length :: DiskA d room D :: l)) (ls : LS D age S R y) (hR : R.length ≤ 1000000) {v : Value} {b : List UInt8} (hr : Rd w v (b.map bv)) (hl : b.length ≤ 10000000)
    (hN : ¬ fits b → ∀ w', Hp w' (LogA p d age R.length :: DiskA d room D :: l) → K (i64 1) w')
    (h4 : fits b → room < aused D + 22 + b.length → ∀ w', Hp w' (LogA p d age R.length :: DiskA d room D :: l) → K (i64 4) w')
    (h0 : fits b → ∀ w' D', LS D' age S (R ++ [b]) y → Hp w' (LogA p d age (R ++ [b]).length :: DiskA d room D' :: l) → K (i64 0) w') : xCall P nr.seal_Log_Put [ptr p, v] w K := by
  have := ls.two.len
  have ha := ls.age0
  refine seal_Put_hp h (by omega) (by omega) ha.1 (by omega) hr hl ?_
  intro w' h
  unfold lput at h ⊢
  by_cases hf : fits b
  · simp only [hf, if_true] at h ⊢
    by_cases hc : (lapp room D age b).2 = 0
    · have ls2 := ls.put hf hc
      simp only [hc, if_true] at h ⊢
      refine h0 hf w' _ ls2 ?_
      rw [List.length_append]
      exact h
    · simp only [hc, if_false] at h ⊢
      have hroom : room < aused D + 22 + b.length := by
        rcases Nat.lt_or_ge room (aused D + 22 + b.length) with hlt | hge
        · exact hlt
        · exact absurd (lapp_yes hge) hc
      rw [lapp_no hc] at h ⊢
      exact h4 hf hroom w' h
  · simp only [hf, if_false] at h ⊢
    exact hN hf w' h
theorem Sync_ls (h : Hp w (LogA p d age n :: DiskA d room D :: l)) (ls : LS D age S R y) (hK : ∀ w' D', LS D' age S R R.length → Hp w' (LogA p d age n :: DiskA d room D' :: l) → K (i64 0) w') : xCall P nr.seal_Log_Sync [ptr p] w K :=
  seal_Sync_hp h fun w' h => hK w' _ ls.sync h
theorem Save_ls (h : Hp w (LogA p d age R.length :: DiskA d room D :: l)) (ls : LS D age S R y) (hage : age < 1000000000) {v : Value} {S' : List (List UInt8)} (hv : ∀ w, Hp w l → RdBs w v S') (hS : S'.length ≤ 900) (hl : ∀ x ∈ S', x.length ≤ 10000000)
    (hN : (∃ x ∈ S', ¬ fits x) → ∀ w', Hp w' (LogA p d age R.length :: DiskA d room D :: l) → K (i64 1) w')
    (h4 : (∀ x ∈ S', fits x) → room < aused D + (genf (age + 1) ++ frames S').length → ∀ w', Hp w' (LogA p d age R.length :: DiskA d room D :: l) → K (i64 4) w')
    (h0 : (∀ x ∈ S', fits x) → ∀ w' D', LS D' (age + 1) S' [] 0 → acont D' nlog = [] → Hp w' (LogA p d (age + 1) 0 :: DiskA d room D' :: l) → K (i64 0) w') : xCall P nr.seal_Log_Save [ptr p, v] w K := by
  have := ls.two.len
  have ha := ls.age0
  refine seal_Save_hp h (by omega) ha.1 (by omega) hv hS hl hN ?_
  intro hf w' age' n' he h
  by_cases hc : (lsave room D age S').2 = 0
  · have ls2 := ls.save hf (by omega) hc
    have hcont := lsave_cont ls.two hc
    rw [if_pos hc] at he
    cases he
    rw [hc]
    exact h0 hf w' _ ls2 hcont h
  · rw [if_neg hc] at he
    cases he
    have hroom : room < aused D + (genf (age + 1) ++ frames S').length := by
      rcases Nat.lt_or_ge room (aused D + (genf (age + 1) ++ frames S').length) with hlt | hge
      · exact hlt
      · exact absurd (lsave_yes ls.two hge) hc
    rw [lsave_no ls.two hc] at h ⊢
    exact h4 hf hroom w' h
theorem Crash_ls (h : Hp w (DiskA d room D :: l)) (ls : LS D age S R y) (keep : Int) (hk : -9223372036854775808 ≤ keep ∧ keep ≤ 9223372036854775807)
    (hK : ∀ w', LC (acrash keep D) age S R y → Hp w' (DiskA d room (acrash keep D) :: l) → K (.tuple #[]) w') : xCall P nr.disk_Disk_Crash [ptr d, i64 keep] w K := by
  have := ls.two.len
  exact Crash_hp h (by omega) keep hk fun w' h => hK w' (ls.crash keep) h
/-- Open of a log at work: all is there -/
theorem Reopen_ls (h : Hp w (DiskA d room D :: l)) (ls : LS D age S R y) (hR : R.length ≤ 1000000000)
    (hK : ∀ p vs vr w' D', LS D' age S R R.length → Hp w' (LogA p d age R.length :: RoA (fun w => RdBs w vs S) :: RoA (fun w => RdBs w vr R) :: DiskA d room D' :: l) → K (.tuple #[ptr p, vs, vr, i64 0]) w') :
    xCall P nr.seal_Open [ptr d] w K := by
  refine Open_ls h ls.toLC hR ?_
  intro p vs vr w' D' m m1 m2 ls' _ h
  have hm : m = R.length := by omega
  subst hm
  rw [List.take_length] at ls' h
  exact hK p vs vr w' D' ls' h
end
end Go.Proofs.Ytamejkogghpbhaa
end
