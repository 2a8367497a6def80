/- The disk: what its calls do to memory. -/
import Derived.Test.YtamejkogghpbhaaSteps
import Derived.Test.YtamejkogghpbhaaTxtD
set_option linter.unusedVariables false
set_option linter.unusedSimpArgs false
namespace Go.Proofs.Ytamejkogghpbhaa
open Go.Sx

abbrev ptr (b : Nat) : Value := .pointer (some ⟨b, 0, none⟩)
abbrev i64 (n : Int) : Value := .int .i64 n
noncomputable abbrev sk := strKeys (P := P) (k := 9) und.string

/-- a file in memory -/
structure FR where
  fb : Nat
  sv : Value
  bs : List UInt8
  syn : Nat
def FR.blocks (f : FR) : List Nat := f.fb :: f.sv.ownBlock.toList
structure FileAt (w : World) (f : FR) : Prop where
  blk : w.heap[f.fb]? = some (.cells #[f.sv, i64 f.syn] ty.disk_file (0, 0))
  own : Own w 5 1 f.sv f.bs.length (f.bs.map bv)
  syn : f.syn ≤ f.bs.length
  ne : f.sv.ownBlock ≠ some f.fb
theorem FileAt.keep {S : Nat → Prop} {w w' : World} {f : FR} (h : FileAt w f) (hc : Chg S w w') (hn : ∀ b ∈ f.blocks, ¬ S b) : FileAt w' f :=
  ⟨hc.keep h.blk (hn _ (by simp [FR.blocks])), h.own.keep hc (fun g hg => hn g (by simp [FR.blocks, hg])), h.syn, h.ne⟩
theorem FileAt.lt {w : World} {f : FR} (h : FileAt w f) : ∀ b ∈ f.blocks, b < w.heap.size := by
  intro b hb
  simp only [FR.blocks, List.mem_cons, Option.mem_toList] at hb
  rcases hb with rfl | hb
  · exact size_pos h.blk
  · exact h.own.lt hb

abbrev Files := List (ByteArray × FR)
def ents (L : Files) : List (ByteArray × Value) := L.map fun p => (p.1, ptr p.2.fb)
def used (L : Files) : Nat := (L.map fun p => p.2.bs.length).sum
def find (L : Files) (a : ByteArray) : Option FR := (L.find? fun p => decide (p.1 = a)).map (·.2)
def mayB (s : ByteArray) : Bool := decide (1 ≤ (s.size : Int)) && decide ((s.size : Int) ≤ 20)
/-- a disk in memory: its block, its room, its map's block, its files -/
structure DiskAt (w : World) (d room m : Nat) (L : Files) : Prop where
  blk : w.heap[d]? = some (.cells #[.map (some m), i64 room] ty.disk_Disk (0, 0))
  map : MapAt .string w m (ents L)
  dm : d ≠ m
  files : ∀ p ∈ L, FileAt w p.2
  apart : ∀ p ∈ L, ∀ b ∈ p.2.blocks, b ≠ d ∧ b ≠ m
  pair : L.Pairwise fun p q => ∀ b ∈ p.2.blocks, b ∉ q.2.blocks
  hroom : room ≤ 1000000
  fits : used L ≤ room
  names : ∀ p ∈ L, mayB p.1 = true
def foot (d m : Nat) (L : Files) (b : Nat) : Prop := b = d ∨ b = m ∨ ∃ p ∈ L, b ∈ p.2.blocks
theorem DiskAt.keep {S : Nat → Prop} {w w' : World} {d room m : Nat} {L : Files} (h : DiskAt w d room m L) (hc : Chg S w w') (hn : ∀ b, foot d m L b → ¬ S b) : DiskAt w' d room m L :=
  ⟨hc.keep h.blk (hn d (.inl rfl)), h.map.keep hc (hn m (.inr (.inl rfl))), h.dm, fun p hp => (h.files p hp).keep hc fun b hb => hn b (.inr (.inr ⟨p, hp, hb⟩)), h.apart, h.pair, h.hroom, h.fits, h.names⟩
theorem DiskAt.keep' {w w' : World} {d room m : Nat} {L : Files} (h : DiskAt w d room m L) (hc : Chg none' w w') : DiskAt w' d room m L := h.keep hc fun _ _ h => h
theorem DiskAt.lt {w : World} {d room m : Nat} {L : Files} (h : DiskAt w d room m L) {b : Nat} (hb : foot d m L b) : b < w.heap.size := by
  rcases hb with rfl | rfl | ⟨p, hp, hb⟩
  · exact size_pos h.blk
  · exact h.map.lt
  · exact (h.files p hp).lt b hb

theorem get_ents (L : Files) (a : ByteArray) : mget (ents L) a = (find L a).map fun f => ptr f.fb := by
  unfold mget ents find
  rw [List.find?_map]
  simp only [Option.map_map]
  rfl
def fptr (L : Files) (a : ByteArray) : Value := .pointer ((find L a).map fun f => ⟨f.fb, 0, none⟩)
theorem getD_fptr (L : Files) (a : ByteArray) : (mget (ents L) a).getD (.pointer none) = fptr L a := by
  rw [get_ents]; unfold fptr
  cases find L a <;> rfl
theorem find_mem {L : Files} {a : ByteArray} {f : FR} (h : find L a = some f) : (a, f) ∈ L := by
  unfold find at h
  rw [Option.map_eq_some_iff] at h
  obtain ⟨p, hp, rfl⟩ := h
  have h1 := List.find?_some hp
  have h2 := List.mem_of_find?_eq_some hp
  have : p.1 = a := by simpa using h1
  rw [← this]; exact h2

def upd (L : Files) (a : ByteArray) (f : FR) : Files := L.map fun p => if p.1 = a then (a, f) else p
def rem (L : Files) (a : ByteArray) : Files := L.filter fun p => decide (p.1 ≠ a)
theorem find_none {L : Files} {a : ByteArray} : find L a = none ↔ ∀ p ∈ L, p.1 ≠ a := by
  unfold find
  rw [Option.map_eq_none_iff, List.find?_eq_none]
  simp
theorem upd_self {L : Files} {a : ByteArray} {f : FR} (h : ∀ p ∈ L, p.1 ≠ a) : upd L a f = L := by
  unfold upd
  rw [List.map_congr_left (g := id) (fun p hp => by simp [h p hp])]
  simp
theorem rem_self {L : Files} {a : ByteArray} (h : ∀ p ∈ L, p.1 ≠ a) : rem L a = L := by
  unfold rem
  rw [List.filter_eq_self]
  intro p hp
  simpa using h p hp
theorem find_split {L : Files} {a : ByteArray} {f : FR} (hn : (L.map (·.1)).Nodup) (h : find L a = some f) :
    ∃ L1 L2, L = L1 ++ (a, f) :: L2 ∧ (∀ p ∈ L1, p.1 ≠ a) ∧ ∀ p ∈ L2, p.1 ≠ a := by
  obtain ⟨L1, L2, rfl⟩ := List.append_of_mem (find_mem h)
  refine ⟨L1, L2, rfl, ?_, ?_⟩
  · intro p hp hpa
    rw [List.map_append, List.nodup_append] at hn
    exact hn.2.2 p.1 (List.mem_map.2 ⟨p, hp, rfl⟩) a (by simp) hpa
  · intro p hp hpa
    rw [List.map_append, List.nodup_append] at hn
    have := hn.2.1
    rw [List.map_cons, List.nodup_cons] at this
    exact this.1 (List.mem_map.2 ⟨p, hp, hpa⟩)
theorem split_upd {L1 L2 : Files} {a : ByteArray} {f f' : FR} (h1 : ∀ p ∈ L1, p.1 ≠ a) (h2 : ∀ p ∈ L2, p.1 ≠ a) : upd (L1 ++ (a, f) :: L2) a f' = L1 ++ (a, f') :: L2 := by
  have e1 := upd_self (f := f') h1
  have e2 := upd_self (f := f') h2
  unfold upd at *
  rw [List.map_append, List.map_cons, e1, e2]
  simp
theorem split_rem {L1 L2 : Files} {a : ByteArray} {f : FR} (h1 : ∀ p ∈ L1, p.1 ≠ a) (h2 : ∀ p ∈ L2, p.1 ≠ a) : rem (L1 ++ (a, f) :: L2) a = L1 ++ L2 := by
  have e1 := rem_self h1
  have e2 := rem_self h2
  unfold rem at *
  rw [List.filter_append, List.filter_cons, e1, e2]
  simp
theorem used_upd {L : Files} {a : ByteArray} {f f' : FR} (hn : (L.map (·.1)).Nodup) (hf : find L a = some f) : used (upd L a f') + f.bs.length = used L + f'.bs.length := by
  obtain ⟨L1, L2, rfl, h1, h2⟩ := find_split hn hf
  rw [split_upd h1 h2]
  simp only [used, List.map_append, List.map_cons, List.sum_append, List.sum_cons]
  omega
theorem used_rem {L : Files} {a : ByteArray} {f : FR} (hn : (L.map (·.1)).Nodup) (hf : find L a = some f) : used (rem L a) + f.bs.length = used L := by
  obtain ⟨L1, L2, rfl, h1, h2⟩ := find_split hn hf
  rw [split_rem h1 h2]
  simp only [used, List.map_append, List.map_cons, List.sum_append, List.sum_cons]
  omega
theorem DiskAt.nodup {w : World} {d room m : Nat} {L : Files} (h : DiskAt w d room m L) : (L.map (·.1)).Nodup := by
  obtain ⟨_, _, _, _, _, _, hn⟩ := h.map
  simpa [ents, List.map_map, Function.comp_def] using hn

/-- one file is another one, in the same block -/
theorem DiskAt.upd {w w' : World} {d room m : Nat} {L : Files} (h : DiskAt w d room m L) {a : ByteArray} {f f' : FR} (hf : find L a = some f) (hfb : f'.fb = f.fb) (hF : FileAt w' f')
    (hc : Chg (fun b => b ∈ f.blocks) w w') (hnew : ∀ b ∈ f'.blocks, b ∈ f.blocks ∨ w.heap.size ≤ b) (hu : used (upd L a f') ≤ room) : DiskAt w' d room m (upd L a f') := by
  obtain ⟨L1, L2, rfl, h1, h2⟩ := find_split h.nodup hf
  rw [split_upd h1 h2] at hu ⊢
  have hfm : (a, f) ∈ L1 ++ (a, f) :: L2 := by simp
  have hpair := h.pair
  rw [List.pairwise_append, List.pairwise_cons] at hpair
  obtain ⟨hp1, ⟨hp2, hp3⟩, hp4⟩ := hpair
  -- the others' blocks are not its
  have o1 : ∀ p ∈ L1, ∀ b ∈ p.2.blocks, b ∉ f.blocks := fun p hp b hb => hp4 p hp (a, f) (by simp) b hb
  have o2 : ∀ p ∈ L2, ∀ b ∈ p.2.blocks, b ∉ f.blocks := fun p hp b hb hbf => hp2 p hp b hbf hb
  have other : ∀ p, p ∈ L1 ∨ p ∈ L2 → p ∈ L1 ++ (a, f) :: L2 := by intro p hp; rcases hp with hp | hp <;> simp [hp]
  have old : ∀ p, p ∈ L1 ∨ p ∈ L2 → ∀ b ∈ p.2.blocks, b ∉ f'.blocks := by
    intro p hp b hb hbf
    rcases hnew b hbf with hx | hx
    · rcases hp with hp | hp
      · exact o1 p hp b hb hx
      · exact o2 p hp b hb hx
    · have := (h.files p (other p hp)).lt b hb
      omega
  have hents : ents (L1 ++ (a, f') :: L2) = ents (L1 ++ (a, f) :: L2) := by simp [ents, hfb]
  refine ⟨hc.keep h.blk (fun hb => (h.apart _ hfm _ hb).1 rfl), ?_, h.dm, ?_, ?_, ?_, h.hroom, hu, ?_⟩
  · rw [hents]; exact h.map.keep hc (fun hb => (h.apart _ hfm _ hb).2 rfl)
  · intro p hp
    simp only [List.mem_append, List.mem_cons] at hp
    rcases hp with hp | rfl | hp
    · exact (h.files p (other p (.inl hp))).keep hc (o1 p hp)
    · exact hF
    · exact (h.files p (other p (.inr hp))).keep hc (o2 p hp)
  · intro p hp b hb
    simp only [List.mem_append, List.mem_cons] at hp
    rcases hp with hp | rfl | hp
    · exact h.apart p (other p (.inl hp)) b hb
    · rcases hnew b hb with hx | hx
      · exact h.apart _ hfm b hx
      · have h3 := h.lt (.inl rfl)
        have h4 := h.lt (.inr (.inl rfl))
        constructor <;> omega
    · exact h.apart p (other p (.inr hp)) b hb
  · rw [List.pairwise_append, List.pairwise_cons]
    refine ⟨hp1, ⟨fun p hp b hb hb2 => old p (.inr hp) b hb2 hb, hp3⟩, ?_⟩
    intro p hp q hq b hb
    rcases List.mem_cons.1 hq with rfl | hq
    · exact old p (.inl hp) b hb
    · exact hp4 p hp q (by simp [hq]) b hb
  · intro p hp
    simp only [List.mem_append, List.mem_cons] at hp
    rcases hp with hp | rfl | hp
    · exact h.names p (other p (.inl hp))
    · exact h.names (a, f) hfm
    · exact h.names p (other p (.inr hp))

/-- what a disk has: names, bytes, how many of them are synced -/
abbrev Ab := List (ByteArray × List UInt8 × Nat)
def ab (L : Files) : Ab := L.map fun p => (p.1, p.2.bs, p.2.syn)
def aget (D : Ab) (a : ByteArray) : Option (List UInt8 × Nat) := (D.find? fun p => decide (p.1 = a)).map (·.2)
def aset (D : Ab) (a : ByteArray) (x : List UInt8 × Nat) : Ab := D.map fun p => if p.1 = a then (a, x) else p
def arem (D : Ab) (a : ByteArray) : Ab := D.filter fun p => decide (p.1 ≠ a)
def aused (D : Ab) : Nat := (D.map fun p => p.2.1.length).sum
theorem aget_ab (L : Files) (a : ByteArray) : aget (ab L) a = (find L a).map fun f => (f.bs, f.syn) := by
  unfold aget ab find
  rw [List.find?_map]
  simp only [Option.map_map]
  rfl
theorem aset_ab (L : Files) (a : ByteArray) (f : FR) : ab (upd L a f) = aset (ab L) a (f.bs, f.syn) := by
  unfold aset ab upd
  rw [List.map_map, List.map_map]
  apply List.map_congr_left
  intro p _
  simp only [Function.comp]
  split <;> rfl
theorem arem_ab (L : Files) (a : ByteArray) : ab (rem L a) = arem (ab L) a := by
  unfold arem ab rem
  rw [List.filter_map]
  rfl
theorem aused_ab (L : Files) : used L = aused (ab L) := by
  unfold aused ab used
  rw [List.map_map]
  rfl
/-- A disk at block d, of so much room, with these files; F: its blocks. -/
def Disk (w : World) (d room : Nat) (D : Ab) (F : Nat → Prop) : Prop := ∃ m L, DiskAt w d room m L ∧ ab L = D ∧ ∀ b, F b ↔ foot d m L b
theorem Disk.keep {S F : Nat → Prop} {w w' : World} {d room : Nat} {D : Ab} (h : Disk w d room D F) (hc : Chg S w w') (hn : ∀ b, F b → ¬ S b) : Disk w' d room D F := by
  obtain ⟨m, L, h1, h2, h3⟩ := h
  exact ⟨m, L, h1.keep hc fun b hb => hn b ((h3 b).2 hb), h2, h3⟩
theorem Disk.keep' {F : Nat → Prop} {w w' : World} {d room : Nat} {D : Ab} (h : Disk w d room D F) (hc : Chg none' w w') : Disk w' d room D F := h.keep hc fun _ _ h => h
theorem Disk.lt {F : Nat → Prop} {w : World} {d room : Nat} {D : Ab} (h : Disk w d room D F) {b : Nat} (hb : F b) : b < w.heap.size := by
  obtain ⟨m, L, h1, h2, h3⟩ := h
  exact h1.lt ((h3 b).1 hb)
theorem Disk.fits {F : Nat → Prop} {w : World} {d room : Nat} {D : Ab} (h : Disk w d room D F) : aused D ≤ room ∧ room ≤ 1000000 := by
  obtain ⟨m, L, h1, rfl, h3⟩ := h
  rw [← aused_ab]; exact ⟨h1.fits, h1.hroom⟩
/-- what a disk's blocks are behind a step -/
def Moves (F F' : Nat → Prop) (w : World) : Prop := ∀ b, F' b → F b ∨ w.heap.size ≤ b
theorem foot_upd {d m : Nat} {L : Files} {a : ByteArray} {f f' : FR} {w : World} (hf : find L a = some f) (hnew : ∀ b ∈ f'.blocks, b ∈ f.blocks ∨ w.heap.size ≤ b) : ∀ b, foot d m (Proofs.Ytamejkogghpbhaa.upd L a f') b → foot d m L b ∨ w.heap.size ≤ b := by
  rintro b (rfl | rfl | ⟨p, hp, hb⟩)
  · exact .inl (.inl rfl)
  · exact .inl (.inr (.inl rfl))
  · unfold Proofs.Ytamejkogghpbhaa.upd at hp
    obtain ⟨q, hq, rfl⟩ := List.mem_map.1 hp
    split at hb
    · rcases hnew b hb with h | h
      · exact .inl (.inr (.inr ⟨_, find_mem hf, h⟩))
      · exact .inr h
    · exact .inl (.inr (.inr ⟨q, hq, hb⟩))

section
variable {w : World} {K : VCont} {d room m : Nat} {L : Files}
theorem may_spec (s : ByteArray) (hK : K (.bool (mayB s)) w) : xCall P nr.disk_may [.string s] w K := by
  refine disk_may_call ?_
  unfold disk_may_main
  unfold mayB at hK
  rw [xLen_string und.string]
  simp only [xs, xb]
  by_cases h : 1 ≤ (s.size : Int)
  · simp only [h, decide_true, xs, xb]
    rw [xLen_string und.string]
    simp only [xs, xb]
    simpa [h] using hK
  · simp only [h, decide_false, xs, xb]
    simpa [h] using hK
theorem of_spec (h : DiskAt w d room m L) (a : ByteArray) (hK : K (fptr L a) w) : xCall P nr.disk_Disk_of [ptr d, .string a] w K := by
  refine disk_Disk_of_call ?_
  unfold disk_Disk_of_main
  rw [xEq_ptr und.p_disk_Disk]
  simp only [Option.isNone_some, xs, Nat.zero_add]
  rw [cell_of_block h.blk]
  simp only [List.getElem?_toArray, List.getElem?_cons_zero]
  rw [xLookup_map (v := .string a) sk a und.m_string_p_disk_file inf.p_disk_file rfl h.map rfl, getD_fptr]
  exact hK
end
section
variable {w : World} {K : VCont} {d room : Nat} {D : Ab} {F : Nat → Prop}
theorem nil_branch {A B : Prop} (hK : A) : xIf (.bool true) A B := hK
theorem Sync_spec (h : Disk w d room D F) (a : ByteArray) (hN : aget D a = none → K (i64 5) w)
    (hK : ∀ x, aget D a = some x → ∀ w' F', Disk w' d room (aset D a (x.1, x.1.length)) F' → Chg F w w' → Moves F F' w → K (i64 0) w') : xCall P nr.disk_Disk_Sync [ptr d, .string a] w K := by
  obtain ⟨m, L, h1, rfl, h3⟩ := h
  refine disk_Disk_Sync_call ?_
  unfold disk_Disk_Sync_main
  refine of_spec h1 a ?_
  unfold fptr
  rw [xEq_ptr und.p_disk_file]
  cases hf : find L a with
  | none =>
    simp only [Option.map_none, Option.isNone_none, xs, xb]
    exact hN (by rw [aget_ab, hf]; rfl)
  | some f =>
    have hF := h1.files _ (find_mem hf)
    simp only [Option.map_some, Option.isNone_some, xs, xb, Nat.zero_add]
    rw [cell_of_block hF.blk]
    simp only [List.getElem?_toArray, List.getElem?_cons_zero]
    have hsl : ∃ a n c, f.sv = .slice a n c ∧ n = f.bs.length := by
      rcases hF.own.2 with ⟨h, h0⟩ | ⟨g, cap, cur, h, _⟩
      · exact ⟨_, _, _, h, h0.symm⟩
      · exact ⟨_, _, _, h, rfl⟩
    obtain ⟨sa, sn, sc, hs, hsn⟩ := hsl
    rw [hs, xLen_slice und.s_uint8]
    refine store_blk inf.int rfl rfl hF.blk (by simp) ?_
    intro w' hb hc hsz
    have hF' : FileAt w' { f with syn := f.bs.length } := by
      refine ⟨?_, hF.own.keep hc (fun g hg h => hF.ne (by rw [hg, h])), Nat.le_refl _, hF.ne⟩
      rw [hb]; simp [hsn]
    have hblk : ∀ b ∈ (FR.blocks { f with syn := f.bs.length }), b ∈ f.blocks ∨ w.heap.size ≤ b := fun b hb => .inl hb
    have hu : used (upd L a { f with syn := f.bs.length }) ≤ room := by
      have := used_upd h1.nodup hf (f' := { f with syn := f.bs.length })
      have := h1.fits
      simp at *
      omega
    have hd := h1.upd (f' := { f with syn := f.bs.length }) hf rfl hF' (hc.mono fun b _ hb => by rw [hb]; simp [FR.blocks]) hblk hu
    refine hK (f.bs, f.syn) (by rw [aget_ab, hf]; rfl) w' _ ⟨m, _, hd, aset_ab _ _ _, fun _ => Iff.rfl⟩ ?_ ?_
    · exact hc.mono fun b _ hb => (h3 b).2 (.inr (.inr ⟨_, find_mem hf, by rw [hb]; simp [FR.blocks]⟩))
    · intro b hb
      rcases foot_upd hf hblk b hb with h | h
      · exact .inl ((h3 b).2 h)
      · exact .inr h

/-! New, Clone, Read -/
theorem build_Disk (b : Nat) (n : Int) : xBuild P ty.disk_Disk [(0, .map (some b)), (1, .int .i64 n)] w K = K (.agg #[.map (some b), .int .i64 n]) w := by
  unfold xBuild
  exact xp_iff fun w' => by kernel_rfl
theorem New_bad (n : Int) (h : n < 0 ∨ 1000000 < n) (hK : K (.tuple #[.pointer none, i64 1]) w) : xCall P nr.disk_New [i64 n] w K := by
  refine disk_New_call ?_
  unfold disk_New_main
  simp only [xs, xb]
  by_cases h0 : n < 0
  · simp only [h0, decide_true, xs, xb, cond_true]
    exact hK
  · have h1 : 1000000 < n := by omega
    simp only [h0, h1, decide_false, decide_true, xs, xb, cond_false]
    exact hK
theorem New_good (n : Nat) (h : n ≤ 1000000) (hK : ∀ d w' F, Disk w' d n [] F → (∀ b, F b → w.heap.size ≤ b) → Chg none' w w' → K (.tuple #[ptr d, i64 0]) w') : xCall P nr.disk_New [i64 n] w K := by
  refine disk_New_call ?_
  unfold disk_New_main
  have h0 : ¬ (n : Int) < 0 := by omega
  have h1 : ¬ (1000000 : Int) < n := by omega
  simp only [h0, h1, decide_false, decide_true, xs, xb, cond_false]
  refine makeMap_step (E := Value.string) ?_
  intro m w1 hm hmap hc1 hs1
  rw [build_Disk]
  refine box_step ?_
  intro d w2 hd hblk hc2 hs2
  refine hK d w2 _ ⟨m, [], ⟨hblk, hmap.keep hc2 (fun h => h), by omega, by simp, by simp, List.Pairwise.nil, h, by simp [used], by simp⟩, rfl, fun _ => Iff.rfl⟩ ?_ (hc1.trans hc2)
  rintro b (rfl | rfl | ⟨p, hp, _⟩)
  · omega
  · omega
  · cases hp

theorem Clone_spec {v : Value} {l : List UInt8} (h : Rd w v (l.map bv)) (hl : l.length ≤ 1000000000) (hK : ∀ v' w', Own w' 5 1 v' l.length (l.map bv) → (∀ g, v'.ownBlock = some g → w.heap.size ≤ g) → Chg none' w w' → K v' w') :
    xCall P nr.slices_Clone_s_byte_byte [v] w K := by
  refine slices_Clone_s_byte_byte_call ?_
  unfold slices_Clone_s_byte_byte_main
  obtain ⟨a, cap, rfl, hcap, h⟩ := h
  rw [xEq_slice und.s_uint8]
  cases a with
  | none =>
    have : l = [] := by simpa using h
    subst this
    simp only [Option.isNone_none, xs, xb]
    exact hK _ _ (Own.nil w 5 1) (by simp [Value.ownBlock]) (Chg.refl _ _)
  | some g =>
    simp only [Option.isNone_some, xs, xb]
    refine buildSlice_step (vs := []) und.s_uint8 inf.uint8 rfl rfl rfl rfl rfl (by simp) (by omega) ?_
    intro v1 w1 ho1 hb1 hc1 hs1
    have hrd : Rd w1 (.slice (some g) (l.map bv).length cap) (l.map bv) := Rd.keep' ⟨some g, cap, rfl, hcap, h⟩ hc1
    obtain ⟨a', cap', he, _, hcell⟩ := hrd
    cases he
    refine xAppend (size := 1) (bytes := 1) und.s_uint8 inf.uint8 rfl rfl rfl rfl ho1 (m := (l.map bv).length) (by simp) hcell (bv_one l) ?_ ?_ ?_
    · simp [maxLen]; omega
    · simp; omega
    · intro v2 w2 ho2 hc2 hv2
      simp only [Nat.zero_add, List.nil_append, List.length_map] at ho2
      refine hK v2 w2 ho2 ?_ (hc1.then hc2 fun i hi hb => by rw [hb1] at hb; cases hb; omega)
      intro g2 hg2
      rcases hv2 with h | h
      · rw [h, hb1] at hg2; cases hg2; omega
      · rw [h] at hg2; cases hg2; omega
theorem sum_ge {L : Files} {p : ByteArray × FR} (hp : p ∈ L) : p.2.bs.length ≤ used L := by
  obtain ⟨L1, L2, rfl⟩ := List.append_of_mem hp
  simp only [used, List.map_append, List.map_cons, List.sum_append, List.sum_cons]
  omega
theorem Read_spec (h : Disk w d room D F) (a : ByteArray) (hN : aget D a = none → K (.tuple #[.slice none 0 0, i64 5]) w)
    (hK : ∀ x, aget D a = some x → ∀ v w', Own w' 5 1 v x.1.length (x.1.map bv) → (∀ g, v.ownBlock = some g → w.heap.size ≤ g) → Chg none' w w' → K (.tuple #[v, i64 0]) w') : xCall P nr.disk_Disk_Read [ptr d, .string a] w K := by
  obtain ⟨m, L, h1, rfl, h3⟩ := h
  refine disk_Disk_Read_call ?_
  unfold disk_Disk_Read_main
  refine of_spec h1 a ?_
  unfold fptr
  rw [xEq_ptr und.p_disk_file]
  cases hf : find L a with
  | none =>
    simp only [Option.map_none, Option.isNone_none, xs, xb]
    exact hN (by rw [aget_ab, hf]; rfl)
  | some f =>
    have hF := h1.files _ (find_mem hf)
    simp only [Option.map_some, Option.isNone_some, xs, xb, Nat.zero_add]
    rw [cell_of_block hF.blk]
    simp only [List.getElem?_toArray, List.getElem?_cons_zero]
    have := sum_ge (find_mem hf)
    have := h1.fits
    have := h1.hroom
    refine Clone_spec hF.own.rd (by simp at *; omega) ?_
    intro v' w' ho hg hc
    exact hK (f.bs, f.syn) (by rw [aget_ab, hf]; rfl) v' w' ho hg hc
def asyn (D : Ab) (a : ByteArray) : Nat := ((aget D a).map (·.2)).getD 0
theorem Synced_spec (h : Disk w d room D F) (a : ByteArray) (hK : K (i64 (asyn D a)) w) : xCall P nr.disk_Disk_Synced [ptr d, .string a] w K := by
  obtain ⟨m, L, h1, rfl, h3⟩ := h
  refine disk_Disk_Synced_call ?_
  unfold disk_Disk_Synced_main
  refine of_spec h1 a ?_
  unfold fptr
  unfold asyn at hK
  rw [aget_ab] at hK
  rw [xEq_ptr und.p_disk_file]
  cases hf : find L a with
  | none =>
    rw [hf] at hK
    simp only [Option.map_none, Option.isNone_none, xs, xb]
    exact hK
  | some f =>
    rw [hf] at hK
    simp only [Option.map_some, Option.isNone_some, xs, xb, Nat.zero_add]
    rw [cell_of_block (h1.files _ (find_mem hf)).blk]
    exact hK
end
end Go.Proofs.Ytamejkogghpbhaa
