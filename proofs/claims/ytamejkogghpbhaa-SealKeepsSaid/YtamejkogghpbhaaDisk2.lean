/- The disk: names, appending, renaming, removing, cutting. -/
import Derived.Test.YtamejkogghpbhaaDisk
import Derived.Test.YtamejkogghpbhaaSorted
set_option linter.unusedVariables false
set_option linter.unusedSimpArgs false
namespace Go.Proofs.Ytamejkogghpbhaa
open Go.Sx

/-! a file more, or another one; a file less -/
def put (L : Files) (a : ByteArray) (f : FR) : Files := if (find L a).isSome then upd L a f else L ++ [(a, f)]
def aput (D : Ab) (a : ByteArray) (x : List UInt8 × Nat) : Ab := if (aget D a).isSome then aset D a x else D ++ [(a, x)]
theorem aput_ab (L : Files) (a : ByteArray) (f : FR) : ab (put L a f) = aput (ab L) a (f.bs, f.syn) := by
  unfold put aput
  rw [aget_ab, Option.isSome_map]
  split
  · exact aset_ab L a f
  · simp [ab]
theorem ents_upd (L : Files) (a : ByteArray) (f : FR) : ents (upd L a f) = (ents L).map fun p => if p.1 = a then (a, ptr f.fb) else p := by
  unfold ents upd
  rw [List.map_map, List.map_map]
  apply List.map_congr_left
  intro p _
  simp only [Function.comp]
  split <;> rfl
theorem ents_put (L : Files) (a : ByteArray) (f : FR) : ents (put L a f) = ins (ents L) a (ptr f.fb) := by
  unfold put ins
  rw [get_ents, Option.isSome_map]
  split
  · exact ents_upd L a f
  · simp [ents]
theorem ents_rem (L : Files) (a : ByteArray) : ents (rem L a) = del (ents L) a := by
  unfold ents rem del
  rw [List.filter_map]
  rfl
theorem rem_sub (L : Files) (a : ByteArray) : (rem L a).Sublist L := List.filter_sublist
theorem used_sub {L L' : Files} (h : L'.Sublist L) : used L' ≤ used L := by
  unfold used
  induction h with
  | slnil => simp
  | cons a _ ih => simp; omega
  | cons_cons a _ ih => simp; omega
theorem DiskAt.rem {w w' : World} {d room m : Nat} {L : Files} (h : DiskAt w d room m L) {a : ByteArray} (hm : MapAt .string w' m (ents (rem L a))) (hc : Chg (· = m) w w') : DiskAt w' d room m (rem L a) := by
  have hs := rem_sub L a
  have hmem : ∀ p ∈ Proofs.Ytamejkogghpbhaa.rem L a, p ∈ L := fun p hp => hs.subset hp
  refine ⟨hc.keep h.blk (fun e => h.dm e), hm, h.dm, ?_, ?_, h.pair.sublist hs, h.hroom, Nat.le_trans (used_sub hs) h.fits, fun p hp => h.names p (hmem p hp)⟩
  · intro p hp
    exact (h.files p (hmem p hp)).keep hc fun b hb e => (h.apart p (hmem p hp) b hb).2 e
  · intro p hp
    exact h.apart p (hmem p hp)
theorem mem_put {L : Files} {a : ByteArray} {f : FR} {p : ByteArray × FR} (h : p ∈ put L a f) : p = (a, f) ∨ (p ∈ L ∧ p.1 ≠ a) := by
  unfold put at h
  split at h
  · unfold upd at h
    obtain ⟨q, hq, rfl⟩ := List.mem_map.1 h
    split
    · exact .inl rfl
    · rename_i hn; exact .inr ⟨hq, hn⟩
  · rename_i hn
    have hno : find L a = none := by simpa using hn
    rw [find_none] at hno
    rcases List.mem_append.1 h with h | h
    · exact .inr ⟨h, hno p h⟩
    · exact .inl (List.mem_singleton.1 h)
theorem DiskAt.put {S : Nat → Prop} {w w' : World} {d room m : Nat} {L : Files} (h : DiskAt w d room m L) {a : ByteArray} {f : FR} (hm : MapAt .string w' m (ents (put L a f))) (hc : Chg S w w')
    (hS : ∀ b, S b → b ≠ d ∧ ∀ p ∈ L, p.1 ≠ a → b ∉ p.2.blocks) (hF : FileAt w' f) (hf : ∀ b ∈ f.blocks, b ≠ d ∧ b ≠ m ∧ ∀ p ∈ L, p.1 ≠ a → b ∉ p.2.blocks)
    (hu : used (put L a f) ≤ room) (ha : mayB a = true) : DiskAt w' d room m (put L a f) := by
  refine ⟨hc.keep h.blk (fun e => (hS d e).1 rfl), hm, h.dm, ?_, ?_, ?_, h.hroom, hu, ?_⟩
  · intro p hp
    rcases mem_put hp with rfl | ⟨hp, hn⟩
    · exact hF
    · exact (h.files p hp).keep hc fun b hb e => (hS b e).2 p hp hn hb
  · intro p hp b hb
    rcases mem_put hp with rfl | ⟨hp, hn⟩
    · exact ⟨(hf b hb).1, (hf b hb).2.1⟩
    · exact h.apart p hp b hb
  · unfold Proofs.Ytamejkogghpbhaa.put
    split
    · rename_i hs
      obtain ⟨f0, hf0⟩ := Option.isSome_iff_exists.1 hs
      obtain ⟨L1, L2, rfl, h1, h2⟩ := find_split h.nodup hf0
      rw [split_upd h1 h2]
      have hp := h.pair
      rw [List.pairwise_append, List.pairwise_cons] at hp ⊢
      obtain ⟨p1, ⟨p2, p3⟩, p4⟩ := hp
      refine ⟨p1, ⟨fun p hp b hb hb2 => (hf b hb).2.2 p (by simp [hp]) (h2 p hp) hb2, p3⟩, ?_⟩
      intro p hp q hq b hb
      rcases List.mem_cons.1 hq with rfl | hq
      · exact fun hb2 => (hf b hb2).2.2 p (by simp [hp]) (h1 p hp) hb
      · exact p4 p hp q (by simp [hq]) b hb
    · rename_i hs
      have hno : find L a = none := by simpa using hs
      rw [find_none] at hno
      rw [List.pairwise_append]
      refine ⟨h.pair, List.pairwise_singleton _ _, ?_⟩
      intro p hp q hq b hb
      obtain rfl := List.mem_singleton.1 hq
      exact fun hb2 => (hf b hb2).2.2 p hp (hno p hp) hb
  · intro p hp
    rcases mem_put hp with rfl | ⟨hp, hn⟩
    · exact ha
    · exact h.names p hp
theorem foot_put {d m : Nat} {L : Files} {a : ByteArray} {f : FR} {b : Nat} (h : foot d m (put L a f) b) : foot d m L b ∨ b ∈ f.blocks := by
  rcases h with rfl | rfl | ⟨p, hp, hb⟩
  · exact .inl (.inl rfl)
  · exact .inl (.inr (.inl rfl))
  · rcases mem_put hp with rfl | ⟨hp, hn⟩
    · exact .inr hb
    · exact .inl (.inr (.inr ⟨p, hp, hb⟩))
theorem foot_rem {d m : Nat} {L : Files} {a : ByteArray} {b : Nat} (h : foot d m (rem L a) b) : foot d m L b := by
  rcases h with rfl | rfl | ⟨p, hp, hb⟩
  · exact .inl rfl
  · exact .inr (.inl rfl)
  · exact .inr (.inr ⟨p, (rem_sub L a).subset hp, hb⟩)

/-! names -/
section
variable {w : World} {K : VCont} {d room : Nat} {D : Ab} {F : Nat → Prop}
def names (D : Ab) : List ByteArray := srt (D.map (·.1))
theorem mayB_le {s : ByteArray} (h : mayB s = true) : 1 ≤ s.size ∧ s.size ≤ 20 := by
  unfold mayB at h
  simp at h
  omega
theorem keys_str {m : Nat} {l : List (ByteArray × Value)} (h : MapAt .string w m l) (hl : l.length ≤ 1000000) (hs : ∀ p ∈ l, p.1.size ≤ maxLen)
    (hK : ∀ v w', Own w' 9 1 v l.length ((srt (l.map (·.1))).map .string) → (∀ g, v.ownBlock = some g → w.heap.size ≤ g) → Chg none' w w' → K v w') :
    xCall P nr.maps_Keys_m_string_p_disk_file_string_p_disk_file [.map (some m)] w fun t w => xCall P nr.slices_Sorted_string [t] w K := by
  obtain ⟨D0, h1, h2, h3⟩ := owns_of (P := P) und.string h (by unfold maxLen; omega) hs
  refine xCall_ck (by kernel_rfl) ((callsIn_wide.1 (keys_maps_Keys_m_string_p_disk_file_string_p_disk_file (some m) w)).mono ?_)
  rintro e w1 ⟨rfl, rfl⟩
  refine ⟨_, rfl, ?_⟩
  refine xCall_ck (by kernel_rfl) ((callsIn_wide.1 (sorted_maps_Keys_m_string_p_disk_file_string_p_disk_file (H := Unit) m _ D0 R0 w h1 (by rw [h3]; unfold maxLen; omega) (by rw [h3]; omega))).mono ?_)
  rintro e w2 ⟨v, ss, rfl, hp, hrow, _, hb⟩
  refine ⟨v, rfl, ?_⟩
  obtain ⟨ho, hg⟩ := own_of_row hrow
  have hlen : ss.length = l.length := by rw [(hp.trans h2).length_eq, List.length_map]
  have hs2 : ss.mergeSort (fun x y => decide (x ≤ y)) = ((l.map (·.1)).map kbytes).mergeSort leB := by
    rw [List.map_map]
    exact mergeSort_of_perm (hp.trans h2)
  rw [hs2, hlen] at ho
  refine hK v w2 ?_ (fun g h => by have := hg g h; simp at this; omega) ((Chg.alloc w _ none').trans (chg_below hb))
  unfold srt
  rw [List.map_map]
  exact ho
theorem Names_spec (h : Disk w d room D F) (hl : D.length ≤ 1000000)
    (hK : ∀ v w', Own w' 9 1 v D.length ((names D).map .string) → (∀ g, v.ownBlock = some g → w.heap.size ≤ g) → Chg none' w w' → K v w') : xCall P nr.disk_Disk_Names [ptr d] w K := by
  obtain ⟨m, L, h1, rfl, h3⟩ := h
  refine disk_Disk_Names_call ?_
  unfold disk_Disk_Names_main
  rw [xEq_ptr und.p_disk_Disk]
  simp only [Option.isNone_some, xs, Nat.zero_add]
  rw [cell_of_block h1.blk]
  simp only [List.getElem?_toArray, List.getElem?_cons_zero]
  refine keys_str h1.map (by simpa [ents, ab] using hl) ?_ ?_
  · intro p hp
    simp only [ents, List.mem_map] at hp
    obtain ⟨q, hq, rfl⟩ := hp
    have := mayB_le (h1.names q hq)
    unfold maxLen; simp only; omega
  · intro v w' ho hg hc
    refine hK v w' ?_ hg hc
    simpa [ents, ab, names, List.map_map, Function.comp_def] using ho
end
end Go.Proofs.Ytamejkogghpbhaa
