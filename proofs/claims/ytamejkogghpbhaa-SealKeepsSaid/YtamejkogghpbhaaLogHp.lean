/- A log at work: its functions, by what they leave. -/
import Derived.Test.YtamejkogghpbhaaTold6
set_option linter.unusedVariables false
set_option linter.unusedSimpArgs false
namespace Go.Proofs.Ytamejkogghpbhaa
open Go.Sx
theorem lsave_cont {D : Ab} {age : Int} {S : List (List UInt8)} {room : Nat} (ht : Two D) (hc : (lsave room D age S).2 = 0) : acont (lsave room D age S).1 nlog = [] := by
  have e : ∃ E, (lsave room D age S).1 = (acut E nlog 0).1 := by
    unfold lsave
    simp only [ht.del]
    unfold lsave at hc
    simp only [ht.del] at hc
    split at hc
    · rename_i h; rw [if_pos h]; exact ⟨_, rfl⟩
    · rename_i h; exact absurd hc h
  obtain ⟨E, e⟩ := e
  rw [e]
  unfold acut acont
  cases hg : aget E nlog with
  | none => simp only [hg]; rfl
  | some x =>
    simp only
    rw [if_neg (by omega), aget_aset, if_pos rfl, hg]; rfl
/-- a log of another generation does not count -/
theorem open_other {D : Ab} {age : Int} {S : List (List UInt8)} (ht : Two D) (h0 : 0 ≤ age ∧ age ≤ 1000000000) (hs : SnapOk D age S) (hS : ∀ x ∈ S, fits x) : LS (lopen D 0) age S [] 0 := by
  unfold lopen
  rw [ht.del]
  unfold acut
  cases hg : aget D nlog with
  | none => exact ⟨ht, h0, hs, ⟨[], 0, .inr ⟨hg, rfl, rfl⟩, by simp, .inl ⟨rfl, rfl⟩, .inl rfl⟩, by simp, hS, by simp⟩
  | some x =>
    simp only
    rw [if_neg (by omega)]
    refine ⟨ht.set _ _, h0, hs.of_aget (by rw [aget_aset, if_neg (by decide)]), ⟨[], 0, .inl ?_, by simp, .inl ⟨rfl, rfl⟩, .inl rfl⟩, by simp, hS, by simp⟩
    rw [aget_aset, if_pos rfl, hg]; rfl
theorem Hp_only {w : World} {l : List Asn} {A : Asn} (h : Hp w l) (hm : A ∈ l) : Hp w [A] := by
  obtain ⟨F, h1⟩ := h.mem hm; exact ⟨F, h1, fun _ _ => trivial, trivial⟩
section
variable {w : World} {K : VCont} {l : List Asn} {d room p n : Nat} {D : Ab} {age : Int} {S R : List (List UInt8)} {y : Nat}
theorem Read_hp1 (h : Hp w (DiskA d room D :: l)) (a : ByteArray) (hK : ∀ v w' c, (c = if (aget D a).isSome then 0 else 5) → v.oneCell' = true → Hp w' (RoA (fun w => Rd w v ((acont D a).map bv)) :: DiskA d room D :: l) → K (.tuple #[v, i64 c]) w') : xCall P nr.disk_Disk_Read [ptr d, .string a] w K := by
  cases hg : aget D a with
  | none =>
    refine Read_hp h a (fun _ => ?_) (fun x hx => by rw [hg] at hx; cases hx)
    refine hK _ w 5 (by rw [hg]; rfl) rfl (Hp.roTrue h fun w => ?_)
    have : acont D a = [] := by unfold acont; rw [hg]; rfl
    rw [this]
    exact ⟨none, 0, rfl, Nat.le_refl _, rfl⟩
  | some x =>
    refine Read_hp h a (fun e => by rw [hg] at e; cases e) (fun y hy v w' h => ?_)
    rw [hg] at hy; cases hy
    have : acont D a = x.1 := by unfold acont; rw [hg]; rfl
    refine hK v w' 0 (by rw [hg]; rfl) h.own.one ?_
    rw [this]
    exact SlA.ro h
theorem Put_ls (h : Hp w (LogA p d age R.length :: DiskA d room D :: l)) (ls : LS D age S R y) (hR : R.length ≤ 1000000) {v : Value} {b : List UInt8} (hr : Rd w v (b.map bv)) (hl : b.length ≤ 10000000)
    (hN : ¬ fits b → ∀ w', Hp w' (LogA p d age R.length :: DiskA d room D :: l) → K (i64 1) w')
    (h4 : fits b → room < aused D + 22 + b.length → ∀ w', Hp w' (LogA p d age R.length :: DiskA d room D :: l) → K (i64 4) w')
    (h0 : fits b → ∀ w' D', LS D' age S (R ++ [b]) y → Hp w' (LogA p d age (R ++ [b]).length :: DiskA d room D' :: l) → K (i64 0) w') : xCall P nr.seal_Log_Put [ptr p, v] w K := by
  have := ls.two.len
  have ha := ls.age0
  refine seal_Put_hp h (by omega) (by omega) ha.1 (by omega) hr hl ?_
  intro w' h
  unfold lput at h ⊢
  by_cases hf : fits b
  · simp only [hf, if_true] at h ⊢
    by_cases hc : (lapp room D age b).2 = 0
    · have ls2 := ls.put hf hc
      simp only [hc, if_true] at h ⊢
      refine h0 hf w' _ ls2 ?_
      rw [List.length_append]
      exact h
    · simp only [hc, if_false] at h ⊢
      have hroom : room < aused D + 22 + b.length := by
        rcases Nat.lt_or_ge room (aused D + 22 + b.length) with hlt | hge
        · exact hlt
        · exact absurd (lapp_yes hge) hc
      rw [lapp_no hc] at h ⊢
      exact h4 hf hroom w' h
  · simp only [hf, if_false] at h ⊢
    exact hN hf w' h
theorem Sync_ls (h : Hp w (LogA p d age n :: DiskA d room D :: l)) (ls : LS D age S R y) (hK : ∀ w' D', LS D' age S R R.length → Hp w' (LogA p d age n :: DiskA d room D' :: l) → K (i64 0) w') : xCall P nr.seal_Log_Sync [ptr p] w K :=
  seal_Sync_hp h fun w' h => hK w' _ ls.sync h
theorem Save_ls (h : Hp w (LogA p d age R.length :: DiskA d room D :: l)) (ls : LS D age S R y) (hage : age < 1000000000) {v : Value} {S' : List (List UInt8)} (hv : ∀ w, Hp w l → RdBs w v S') (hS : S'.length ≤ 900) (hl : ∀ x ∈ S', x.length ≤ 10000000)
    (hN : (∃ x ∈ S', ¬ fits x) → ∀ w', Hp w' (LogA p d age R.length :: DiskA d room D :: l) → K (i64 1) w')
    (h4 : (∀ x ∈ S', fits x) → room < aused D + (genf (age + 1) ++ frames S').length → ∀ w', Hp w' (LogA p d age R.length :: DiskA d room D :: l) → K (i64 4) w')
    (h0 : (∀ x ∈ S', fits x) → ∀ w' D', LS D' (age + 1) S' [] 0 → acont D' nlog = [] → Hp w' (LogA p d (age + 1) 0 :: DiskA d room D' :: l) → K (i64 0) w') : xCall P nr.seal_Log_Save [ptr p, v] w K := by
  have := ls.two.len
  have ha := ls.age0
  refine seal_Save_hp h (by omega) ha.1 (by omega) hv hS hl hN ?_
  intro hf w' age' n' he h
  by_cases hc : (lsave room D age S').2 = 0
  · have ls2 := ls.save hf (by omega) hc
    have hcont := lsave_cont ls.two hc
    rw [if_pos hc] at he
    cases he
    rw [hc]
    exact h0 hf w' _ ls2 hcont h
  · rw [if_neg hc] at he
    cases he
    have hroom : room < aused D + (genf (age + 1) ++ frames S').length := by
      rcases Nat.lt_or_ge room (aused D + (genf (age + 1) ++ frames S').length) with hlt | hge
      · exact hlt
      · exact absurd (lsave_yes ls.two hge) hc
    rw [lsave_no ls.two hc] at h ⊢
    exact h4 hf hroom w' h
theorem Crash_ls (h : Hp w (DiskA d room D :: l)) (ls : LS D age S R y) (keep : Int) (hk : -9223372036854775808 ≤ keep ∧ keep ≤ 9223372036854775807)
    (hK : ∀ w', LC (acrash keep D) age S R y → Hp w' (DiskA d room (acrash keep D) :: l) → K (.tuple #[]) w') : xCall P nr.disk_Disk_Crash [ptr d, i64 keep] w K := by
  have := ls.two.len
  exact Crash_hp h (by omega) keep hk fun w' h => hK w' (ls.crash keep) h
/-- Open of a log at work: all is there -/
theorem Reopen_ls (h : Hp w (DiskA d room D :: l)) (ls : LS D age S R y) (hR : R.length ≤ 1000000000)
    (hK : ∀ p vs vr w' D', LS D' age S R R.length → Hp w' (LogA p d age R.length :: RoA (fun w => RdBs w vs S) :: RoA (fun w => RdBs w vr R) :: DiskA d room D' :: l) → K (.tuple #[ptr p, vs, vr, i64 0]) w') :
    xCall P nr.seal_Open [ptr d] w K := by
  refine Open_ls h ls.toLC hR ?_
  intro p vs vr w' D' m m1 m2 ls' _ h
  have hm : m = R.length := by omega
  subst hm
  rw [List.take_length] at ls' h
  exact hK p vs vr w' D' ls' h
end
end Go.Proofs.Ytamejkogghpbhaa
