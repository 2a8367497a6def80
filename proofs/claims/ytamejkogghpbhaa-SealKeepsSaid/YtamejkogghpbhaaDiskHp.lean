/- The disk, side by side with others: its contracts. -/
import Derived.Test.YtamejkogghpbhaaAb
import Derived.Test.YtamejkogghpbhaaLaw5
import Derived.Test.YtamejkogghpbhaaSepOps
set_option linter.unusedVariables false
set_option linter.unusedSimpArgs false
namespace Go.Proofs.Ytamejkogghpbhaa
open Go.Sx
def DiskA (d room : Nat) (D : Ab) : Asn where
  holds w F := Disk w d room D F
  keep := fun h hc hn => h.keep hc hn
  lt := fun h hb => h.lt hb
def adel (D : Ab) (a : ByteArray) : Ab × Int := match aget D a with | none => (D, 5) | some _ => (arem D a, 0)
def async (D : Ab) (a : ByteArray) : Ab × Int := match aget D a with | none => (D, 5) | some x => (aset D a (x.1, x.1.length), 0)
def acut (D : Ab) (a : ByteArray) (n : Int) : Ab × Int := match aget D a with
  | none => (D, 5)
  | some x => if n < 0 ∨ (x.1.length : Int) < n then (D, 3) else (aset D a (x.1.take n.toNat, n.toNat), 0)
def aren (D : Ab) (a c : ByteArray) : Ab × Int := match aget D a with
  | none => (D, 5)
  | some x => if mayB c then (aput (arem D a) c x, 0) else (D, 1)
def aapp (room : Nat) (D : Ab) (a : ByteArray) (bs : List UInt8) : Ab × Int :=
  if mayB a then if room < aused D + bs.length then (D, 4) else (aput D a ((aold D a).1 ++ bs, (aold D a).2), 0) else (D, 1)
section
variable {w : World} {K : VCont} {d room : Nat} {D : Ab} {l : List Asn}
theorem Used_hp (h : Hp w (DiskA d room D :: l)) (hl : D.length ≤ 1000000) (hK : ∀ w', Hp w' (DiskA d room D :: l) → K (i64 (aused D)) w') : xCall P nr.disk_Disk_Used [ptr d] w K := by
  obtain ⟨F, hF, fr⟩ := h.frame1
  exact Used_spec (show Disk w d room D F from hF) hl fun w' hc => hK w' (h.keep' hc)
theorem Names_hp (h : Hp w (DiskA d room D :: l)) (hl : D.length ≤ 1000000) (hK : ∀ v w', Hp w' (SlA ty.string 1 v D.length ((names D).map .string) :: DiskA d room D :: l) → K v w') : xCall P nr.disk_Disk_Names [ptr d] w K := by
  obtain ⟨F, hF, fr⟩ := h.frame1
  exact Names_spec (show Disk w d room D F from hF) hl fun v w' ho hb hc => hK v w' (h.new (A := SlA ty.string 1 v _ _) (F := fun b => v.ownBlock = some b) ⟨ho, fun _ => Iff.rfl⟩ (fun b e => hb b e) hc)
theorem Read_hp (h : Hp w (DiskA d room D :: l)) (a : ByteArray) (hN : aget D a = none → K (.tuple #[.slice none 0 0, i64 5]) w)
    (hK : ∀ x, aget D a = some x → ∀ v w', Hp w' (SlA ty.uint8 1 v x.1.length (x.1.map bv) :: DiskA d room D :: l) → K (.tuple #[v, i64 0]) w') : xCall P nr.disk_Disk_Read [ptr d, .string a] w K := by
  obtain ⟨F, hF, fr⟩ := h.frame1
  exact Read_spec (show Disk w d room D F from hF) a hN fun x hx v w' ho hb hc => hK x hx v w' (h.new (A := SlA ty.uint8 1 v _ _) (F := fun b => v.ownBlock = some b) ⟨ho, fun _ => Iff.rfl⟩ (fun b e => hb b e) hc)
theorem Synced_hp (h : Hp w (DiskA d room D :: l)) (a : ByteArray) (hK : K (i64 (asyn D a)) w) : xCall P nr.disk_Disk_Synced [ptr d, .string a] w K := by
  obtain ⟨F, hF, fr⟩ := h.frame1
  exact Synced_spec (show Disk w d room D F from hF) a hK
theorem Remove_hp (h : Hp w (DiskA d room D :: l)) (a : ByteArray) (hK : ∀ w', Hp w' (DiskA d room (adel D a).1 :: l) → K (i64 (adel D a).2) w') : xCall P nr.disk_Disk_Remove [ptr d, .string a] w K := by
  obtain ⟨F, hF, fr⟩ := h.frame1
  refine Remove_spec (show Disk w d room D F from hF) a ?_ ?_
  · intro hn; unfold adel at hK; rw [hn] at hK; exact hK w h
  · intro x hx w' F' hd hc hm
    unfold adel at hK; rw [hx] at hK
    exact hK w' (fr w' F' (DiskA d room _) hd hc hm)
theorem Sync_hp (h : Hp w (DiskA d room D :: l)) (a : ByteArray) (hK : ∀ w', Hp w' (DiskA d room (async D a).1 :: l) → K (i64 (async D a).2) w') : xCall P nr.disk_Disk_Sync [ptr d, .string a] w K := by
  obtain ⟨F, hF, fr⟩ := h.frame1
  refine Sync_spec (show Disk w d room D F from hF) a ?_ ?_
  · intro hn; unfold async at hK; rw [hn] at hK; exact hK w h
  · intro x hx w' F' hd hc hm
    unfold async at hK; rw [hx] at hK
    exact hK w' (fr w' F' (DiskA d room _) hd hc hm)
theorem Cut_hp (h : Hp w (DiskA d room D :: l)) (a : ByteArray) (n : Int) (hK : ∀ w', Hp w' (DiskA d room (acut D a n).1 :: l) → K (i64 (acut D a n).2) w') : xCall P nr.disk_Disk_Cut [ptr d, .string a, i64 n] w K := by
  obtain ⟨F, hF, fr⟩ := h.frame1
  refine Cut_spec (show Disk w d room D F from hF) a n ?_ ?_ ?_
  · intro hn; unfold acut at hK; rw [hn] at hK; exact hK w h
  · intro x hx hr; unfold acut at hK; rw [hx] at hK; simp only [hr, if_true] at hK; exact hK w h
  · intro x k hx hn hk w' F' hd hc hm
    unfold acut at hK; rw [hx] at hK
    have : ¬ (n < 0 ∨ (x.1.length : Int) < n) := by omega
    simp only [this, if_false] at hK
    refine hK w' (fr w' F' (DiskA d room _) ?_ hc hm)
    rw [hn]; exact hd
theorem Rename_hp (h : Hp w (DiskA d room D :: l)) (a c : ByteArray) (hK : ∀ w', Hp w' (DiskA d room (aren D a c).1 :: l) → K (i64 (aren D a c).2) w') : xCall P nr.disk_Disk_Rename [ptr d, .string a, .string c] w K := by
  obtain ⟨F, hF, fr⟩ := h.frame1
  refine Rename_spec (show Disk w d room D F from hF) a c ?_ ?_ ?_
  · intro hn; unfold aren at hK; rw [hn] at hK; exact hK w h
  · intro x hx hr; unfold aren at hK; rw [hx] at hK; simp only [hr] at hK; exact hK w h
  · intro x hx hr w' F' hd hc hm
    unfold aren at hK; rw [hx] at hK; simp only [hr, if_true] at hK
    exact hK w' (fr w' F' (DiskA d room _) hd hc hm)
theorem Append_hp (h : Hp w (DiskA d room D :: l)) (hl : D.length ≤ 1000000) (a : ByteArray) {v : Value} {bs : List UInt8} (hr : Rd w v (bs.map bv)) (hbs : bs.length ≤ 1000000)
    (hK : ∀ w', Hp w' (DiskA d room (aapp room D a bs).1 :: l) → K (i64 (aapp room D a bs).2) w') : xCall P nr.disk_Disk_Append [ptr d, .string a, v] w K := by
  obtain ⟨F, hF, fr⟩ := h.frame1
  refine Append_spec (show Disk w d room D F from hF) hl a hr hbs ?_ ?_ ?_
  · intro hn; unfold aapp at hK; rw [hn] at hK; exact hK w h
  · intro hm hr w' hc; unfold aapp at hK; simp only [hm, hr, if_true] at hK; exact hK w' (h.keep' hc)
  · intro hm hr w' F' hd hc hmv
    unfold aapp at hK; simp only [hm, if_true] at hK
    rw [if_neg (by omega)] at hK
    exact hK w' (fr w' F' (DiskA d room _) hd hc hmv)
theorem Crash_hp (h : Hp w (DiskA d room D :: l)) (hl : D.length ≤ 1000000) (keep : Int) (hk : -9223372036854775808 ≤ keep ∧ keep ≤ 9223372036854775807)
    (hK : ∀ w', Hp w' (DiskA d room (acrash keep D) :: l) → K (.tuple #[]) w') : xCall P nr.disk_Disk_Crash [ptr d, i64 keep] w K := by
  obtain ⟨F, hF, fr⟩ := h.frame1
  exact Crash_spec (show Disk w d room D F from hF) hl keep hk fun w' F' hd hc hm => hK w' (fr w' F' (DiskA d room _) hd hc hm)
theorem Copy_hp (h : Hp w (DiskA d room D :: l)) (hK : ∀ c D' w', D'.Perm D → Hp w' (DiskA c room D' :: DiskA d room D :: l) → K (ptr c) w') : xCall P nr.disk_Disk_Copy [ptr d] w K := by
  obtain ⟨F, hF, fr⟩ := h.frame1
  refine Copy_spec (show Disk w d room D F from hF) ?_
  intro c w' D' F' hd hp hn hc
  exact hK c D' w' hp (h.new (A := DiskA c room D') (F := F') hd hn hc)
theorem New_hp (h : Hp w l) (n : Nat) (hn : n ≤ 1000000) (hK : ∀ d w', Hp w' (DiskA d n [] :: l) → K (.tuple #[ptr d, i64 0]) w') : xCall P nr.disk_New [i64 n] w K := by
  refine New_good n hn ?_
  intro d w' F hd hF hc
  exact hK d w' (h.new (A := DiskA d n []) (F := F) hd hF hc)
theorem told5_hp (h : Hp w l) (hK : ∀ w', Hp w' l → K (.bool true) w') : xCall P nr.law5_told [] w K := told_spec fun w' hc => hK w' (h.keep' hc)
end
end Go.Proofs.Ytamejkogghpbhaa
