import Derived.Test.YtamejkogghpbhaaMg14
section
/- The disk: cutting, appending, renaming, crashing. -/
set_option linter.unusedVariables false
set_option linter.unusedSimpArgs false
namespace Go.Proofs.Ytamejkogghpbhaa
open Go.Sx
theorem DiskAt.other {w : World} {d room m : Nat} {L : Files} (h : DiskAt w d room m L) {a : ByteArray} {f : FR} (hf : find L a = some f) {p : ByteArray × FR} (hp : p ∈ L) (hn : p.1 ≠ a) : ∀ b ∈ f.blocks, b ∉ p.2.blocks := by
  intro b hb
  obtain ⟨L1, L2, rfl, h1, h2⟩ := find_split h.nodup hf
  have hpr := h.pair
  rw [List.pairwise_append, List.pairwise_cons] at hpr
  obtain ⟨_, ⟨p2, _⟩, p4⟩ := hpr
  rcases List.mem_append.1 hp with hp | hp
  · exact fun hb2 => p4 p hp (a, f) (by simp) b hb2 hb
  · rcases List.mem_cons.1 hp with rfl | hp
    · exact absurd rfl hn
    · exact p2 p hp b hb
theorem used_put_le {L : Files} {a : ByteArray} {f : FR} (hn : (L.map (·.1)).Nodup) : used (put L a f) ≤ used L + f.bs.length := by
  unfold put
  split
  · rename_i hs
    obtain ⟨f0, hf0⟩ := Option.isSome_iff_exists.1 hs
    have := used_upd hn hf0 (f' := f)
    omega
  · simp [used]
theorem find_put (L : Files) (a : ByteArray) (f : FR) (hno : find L a = none) : find (put L a f) a = some f := by
  unfold put
  rw [hno]
  rw [find_none] at hno
  unfold find
  rw [if_neg (by simp), List.find?_append]
  have : L.find? (fun p => decide (p.1 = a)) = none := by rw [List.find?_eq_none]; intro p hp; simpa using hno p hp
  rw [this]
  simp
theorem find_rem {L : Files} {a : ByteArray} : find (rem L a) a = none := by
  rw [find_none]
  intro p hp
  unfold rem at hp
  simpa using (List.mem_filter.1 hp).2

section
variable {w : World} {K : VCont} {d room m : Nat} {L : Files}
/-- a file is cut: two stores -/
theorem cut_file (h : DiskAt w d room m L) {a : ByteArray} {f : FR} (hf : find L a = some f) {k : Nat} (hk : k ≤ f.bs.length)
    (hK : ∀ w' f', f'.bs = f.bs.take k → f'.syn = k → DiskAt w' d room m (upd L a f') → Chg (fun b => b ∈ f.blocks) w w' → (∀ b ∈ f'.blocks, b ∈ f.blocks) → K undef w') :
    xSlice P 22 f.sv none (some (i64 k)) (some (i64 k)) w fun t w => xStore P 22 (.pointer (some ⟨f.fb, 0, none⟩)) t w fun _ w => xStore P 3 (.pointer (some ⟨f.fb, 1, none⟩)) (i64 k) w K := by
  have hF := h.files _ (find_mem hf)
  refine cut_own und.s_uint8 inf.uint8 hF.own hk ?_
  intro v ho hv
  have hv1 : v.oneCell' = true := by
    rcases ho.2 with ⟨rfl, _⟩ | ⟨g, cap, cur, rfl, _⟩ <;> rfl
  refine store_blk inf.s_uint8 rfl hv1 hF.blk (by simp) ?_
  intro w1 hb1 hc1 hs1
  refine store_blk inf.int rfl rfl hb1 (by simp) ?_
  intro w2 hb2 hc2 hs2
  have hc := hc1.trans hc2
  have hn : v.ownBlock ≠ some f.fb := by rw [hv]; exact hF.ne
  refine hK w2 ⟨f.fb, v, f.bs.take k, k⟩ rfl rfl (h.upd hf rfl ⟨?_, ?_, ?_, hn⟩ (hc.mono fun b _ hb => by rw [hb]; simp [FR.blocks]) ?_ ?_) (hc.mono fun b _ hb => by rw [hb]; simp [FR.blocks]) ?_
  · rw [hb2]; simp
  · simp only [List.length_take]
    rw [Nat.min_eq_left hk]
    have := ho.keep hc (fun g hg h => hn (by rw [hg, h]))
    simpa [List.map_take] using this
  · show k ≤ (f.bs.take k).length
    rw [List.length_take]; omega
  · intro b hb; exact .inl (by simpa [FR.blocks, hv] using hb)
  · have := used_upd h.nodup hf (f' := ⟨f.fb, v, f.bs.take k, k⟩)
    have := h.fits
    simp only [List.length_take] at *
    omega
  · intro b hb; simpa [FR.blocks, hv] using hb
theorem push_spec (h : DiskAt w d room m L) {a : ByteArray} {f : FR} (hf : find L a = some f) {v : Value} {bs : List UInt8} (hr : Rd w v (bs.map bv)) (hu : used L + bs.length ≤ room)
    (hK : ∀ w' f', f'.fb = f.fb → f'.bs = f.bs ++ bs → f'.syn = f.syn → DiskAt w' d room m (upd L a f') → Chg (fun b => b ∈ f.blocks) w w' → (∀ b ∈ f'.blocks, b ∈ f.blocks ∨ w.heap.size ≤ b) → K (i64 0) w') :
    disk_Disk_Append_j0 K v (ptr f.fb) w := by
  have hF := h.files _ (find_mem hf)
  have hroom := h.hroom
  unfold disk_Disk_Append_j0
  simp only [xs, Nat.zero_add]
  rw [cell_of_block hF.blk]
  simp only [List.getElem?_toArray, List.getElem?_cons_zero]
  have hlen := sum_ge (find_mem hf)
  simp only at hlen
  -- what the append gives
  have fin : ∀ v2 w2, Own w2 5 1 v2 (f.bs.length + bs.length) (f.bs.map bv ++ bs.map bv) → Chg (fun b => f.sv.ownBlock = some b) w w2 → (v2.ownBlock = f.sv.ownBlock ∨ v2.ownBlock = some w.heap.size) →
      xStore P 22 (.pointer (some ⟨f.fb, 0, none⟩)) v2 w2 fun _ w => K (i64 0) w := by
    intro v2 w2 ho hc hv
    have hb2 := hc.keep hF.blk (fun e => hF.ne e)
    have hn : v2.ownBlock ≠ some f.fb := by
      rcases hv with h | h
      · rw [h]; exact hF.ne
      · rw [h]; have : f.fb < w.heap.size := size_pos hF.blk; intro e; have := Option.some.inj e; omega
    refine store_blk inf.s_uint8 rfl ?_ hb2 (by simp) ?_
    · rcases ho.2 with ⟨rfl, _⟩ | ⟨g, cap, cur, rfl, _⟩ <;> rfl
    intro w3 hb3 hc3 hs3
    have hcc : Chg (fun b => b ∈ f.blocks) w w3 := (hc.mono (S' := fun b => b ∈ f.blocks) fun b _ hb => by simp [FR.blocks, hb]).trans (hc3.mono fun b _ hb => by rw [hb]; simp [FR.blocks])
    have hnew : ∀ b ∈ FR.blocks ⟨f.fb, v2, f.bs ++ bs, f.syn⟩, b ∈ f.blocks ∨ w.heap.size ≤ b := by
      intro b hb
      simp only [FR.blocks, List.mem_cons, Option.mem_toList] at hb
      rcases hb with rfl | hb
      · exact .inl (by simp [FR.blocks])
      · rcases hv with h | h
        · rw [h] at hb; exact .inl (by simp [FR.blocks, hb])
        · rw [h] at hb; cases hb; exact .inr (Nat.le_refl _)
    refine hK w3 ⟨f.fb, v2, f.bs ++ bs, f.syn⟩ rfl rfl rfl (h.upd hf rfl ⟨?_, ?_, ?_, hn⟩ hcc hnew ?_) hcc hnew
    · rw [hb3]; simp
    · have := ho.keep hc3 (fun g hg h => hn (by rw [hg, h]))
      simpa using this
    · have : f.syn ≤ f.bs.length := hF.syn
      simp; omega
    · have := used_upd h.nodup hf (f' := ⟨f.fb, v2, f.bs ++ bs, f.syn⟩)
      simp only [List.length_append] at *
      omega
  obtain ⟨sa, cap, rfl, hcap, hr⟩ := hr
  cases sa with
  | none =>
    have : bs = [] := by simpa using hr
    subst this
    refine xAppend_none und.s_uint8 inf.uint8 hF.own ?_
    refine fin f.sv w ?_ (Chg.refl _ _) (.inl rfl)
    simpa using hF.own
  | some g =>
    refine xAppend (size := 1) (bytes := 1) und.s_uint8 inf.uint8 rfl rfl rfl rfl hF.own (m := (bs.map bv).length) (by simp) hr (bv_one bs) ?_ ?_ ?_
    · simp [maxLen]; omega
    · simp; omega
    · intro v2 w2 ho hc hv
      refine fin v2 w2 ?_ hc hv
      simpa using ho
end
section
variable {w : World} {K : VCont} {d room : Nat} {D : Ab} {F : Nat → Prop}
theorem Cut_spec (h : Disk w d room D F) (a : ByteArray) (n : Int) (hN : aget D a = none → K (i64 5) w) (hR : ∀ x, aget D a = some x → n < 0 ∨ (x.1.length : Int) < n → K (i64 3) w)
    (hK : ∀ x k, aget D a = some x → n = (k : Nat) → k ≤ x.1.length → ∀ w' F', Disk w' d room (aset D a (x.1.take k, k)) F' → Chg F w w' → Moves F F' w → K (i64 0) w') : xCall P nr.disk_Disk_Cut [ptr d, .string a, i64 n] w K := by
  obtain ⟨m, L, h1, rfl, h3⟩ := h
  refine disk_Disk_Cut_call ?_
  unfold disk_Disk_Cut_main
  refine of_spec h1 a ?_
  unfold fptr
  rw [xEq_ptr und.p_disk_file]
  cases hf : find L a with
  | none =>
    simp only [Option.map_none, Option.isNone_none, xs, xb]
    exact hN (by rw [aget_ab, hf]; rfl)
  | some f =>
    have hF := h1.files _ (find_mem hf)
    have hag : aget (ab L) a = some (f.bs, f.syn) := by rw [aget_ab, hf]; rfl
    simp only [Option.map_some, Option.isNone_some, xs, xb]
    by_cases h0 : n < 0
    · simp only [h0, decide_true, xs, xb, cond_true]
      exact hR _ hag (.inl h0)
    · simp only [h0, decide_false, xs, xb, Nat.zero_add]
      rw [cell_of_block hF.blk]
      simp only [List.getElem?_toArray, List.getElem?_cons_zero]
      refine len_own und.s_uint8 hF.own ?_
      simp only [xs, xb, cond_false]
      by_cases h1n : (f.bs.length : Int) < n
      · simp only [h1n, decide_true, xs, xb]
        exact hR _ hag (.inr h1n)
      · simp only [h1n, decide_false, xs, xb]
        rw [cell_of_block hF.blk]
        simp only [List.getElem?_toArray, List.getElem?_cons_zero]
        obtain ⟨k, rfl⟩ : ∃ k : Nat, n = k := ⟨n.toNat, by omega⟩
        refine cut_file h1 hf (k := k) (by omega) ?_
        intro w' f' hb hs hd hc hbl
        refine hK (f.bs, f.syn) k hag rfl (by simp; omega) w' _ ⟨m, _, hd, by rw [aset_ab, hb, hs], fun _ => Iff.rfl⟩ ?_ ?_
        · exact hc.mono fun b _ hb => (h3 b).2 (.inr (.inr ⟨_, find_mem hf, hb⟩))
        · intro b hb
          rcases foot_upd (w := w) hf (fun b hb => .inl (hbl b hb)) b hb with h | h
          · exact .inl ((h3 b).2 h)
          · exact .inr h
theorem Rename_spec (h : Disk w d room D F) (a c : ByteArray) (hN : aget D a = none → K (i64 5) w) (hR : ∀ x, aget D a = some x → mayB c = false → K (i64 1) w)
    (hK : ∀ x, aget D a = some x → mayB c = true → ∀ w' F', Disk w' d room (aput (arem D a) c x) F' → Chg F w w' → Moves F F' w → K (i64 0) w') : xCall P nr.disk_Disk_Rename [ptr d, .string a, .string c] w K := by
  obtain ⟨m, L, h1, rfl, h3⟩ := h
  refine disk_Disk_Rename_call ?_
  unfold disk_Disk_Rename_main
  refine of_spec h1 a ?_
  unfold fptr
  rw [xEq_ptr und.p_disk_file]
  cases hf : find L a with
  | none =>
    simp only [Option.map_none, Option.isNone_none, xs, xb]
    exact hN (by rw [aget_ab, hf]; rfl)
  | some f =>
    have hF := h1.files _ (find_mem hf)
    have hag : aget (ab L) a = some (f.bs, f.syn) := by rw [aget_ab, hf]; rfl
    simp only [Option.map_some, Option.isNone_some, xs, xb]
    refine may_spec c ?_
    cases hm : mayB c with
    | false =>
      simp only [xs, xb, Bool.not_false]
      exact hR _ hag hm
    | true =>
      simp only [xs, xb, Bool.not_true, Nat.zero_add]
      rw [cell_of_block h1.blk]
      simp only [List.getElem?_toArray, List.getElem?_cons_zero]
      refine xDelete_map sk a und.m_string_p_disk_file h1.map rfl ?_
      intro w1 hm1 hc1 hs1
      have hm1' : MapAt .string w1 m (ents (rem L a)) := by rw [ents_rem]; exact hm1
      have hd1 := h1.rem hm1' hc1
      rw [cell_of_block hd1.blk]
      simp only [List.getElem?_toArray, List.getElem?_cons_zero]
      refine xMapUpdate_map sk c _ und.m_string_p_disk_file hm1' rfl ?_
      intro w2 hm2 hc2 hs2
      have hF1 : FileAt w1 f := hF.keep hc1 fun b hb e => (h1.apart _ (find_mem hf) b hb).2 e
      have hF2 : FileAt w2 f := hF1.keep hc2 fun b hb e => (h1.apart _ (find_mem hf) b hb).2 e
      have hoth : ∀ p ∈ rem L a, ∀ b ∈ f.blocks, b ∉ p.2.blocks := by
        intro p hp b hb
        unfold rem at hp
        obtain ⟨hp1, hp2⟩ := List.mem_filter.1 hp
        exact h1.other hf hp1 (by simpa using hp2) b hb
      have hur := used_rem h1.nodup hf
      have hfits := h1.fits
      have hd2 := hd1.put (a := c) (f := f) (by rw [ents_put]; exact hm2) hc2 (fun b e => by
          subst e
          exact ⟨fun e => h1.dm e.symm, fun p hp _ hb => (hd1.apart p hp _ hb).2 rfl⟩) hF2
        (fun b hb => ⟨(h1.apart _ (find_mem hf) b hb).1, (h1.apart _ (find_mem hf) b hb).2, fun p hp _ => hoth p hp b hb⟩)
        (Nat.le_trans (used_put_le hd1.nodup) (by omega)) hm
      refine hK _ hag hm w2 _ ⟨m, _, hd2, by rw [aput_ab, arem_ab], fun _ => Iff.rfl⟩ ?_ ?_
      · exact (hc1.trans hc2).mono fun b _ hb => (h3 b).2 (.inr (.inl hb))
      · intro b hb
        rcases foot_put hb with hb | hb
        · exact .inl ((h3 b).2 (foot_rem hb))
        · exact .inl ((h3 b).2 (.inr (.inr ⟨_, find_mem hf, hb⟩)))
def aold (D : Ab) (a : ByteArray) : List UInt8 × Nat := (aget D a).getD ([], 0)
theorem build_file : xBuild P 85 [] w K = K (.agg #[.slice none 0 0, i64 0]) w := by
  unfold xBuild
  exact xp_iff fun w' => by kernel_rfl
theorem Append_spec (h : Disk w d room D F) (hl : D.length ≤ 1000000) (a : ByteArray) {v : Value} {bs : List UInt8} (hr : Rd w v (bs.map bv)) (hbs : bs.length ≤ 1000000)
    (hA : mayB a = false → K (i64 1) w) (hR : mayB a = true → room < aused D + bs.length → ∀ w', Chg none' w w' → K (i64 4) w')
    (hK : mayB a = true → aused D + bs.length ≤ room → ∀ w' F', Disk w' d room (aput D a ((aold D a).1 ++ bs, (aold D a).2)) F' → Chg F w w' → Moves F F' w → K (i64 0) w') : xCall P nr.disk_Disk_Append [ptr d, .string a, v] w K := by
  refine disk_Disk_Append_call ?_
  unfold disk_Disk_Append_main
  rw [xEq_ptr und.p_disk_Disk]
  simp only [Option.isNone_some, xs]
  refine may_spec a ?_
  cases hm : mayB a with
  | false =>
    simp only [xs, xb, Bool.not_false]
    exact hA hm
  | true =>
    simp only [xs, xb, Bool.not_true, Nat.zero_add]
    have h := h.keep' (Chg.drew w none')
    have hr := hr.keep' (Chg.drew w none')
    have hlen : ∀ (w : World) (K : VCont), K (i64 bs.length) w → xLen P .pure #[22] v w K := by
      intro w K hK
      obtain ⟨sa, cap, rfl, _⟩ := hr
      rw [xLen_slice und.s_uint8]
      simpa using hK
    refine hlen _ _ ?_
    have hd := h
    obtain ⟨m, L, h1, rfl, h3⟩ := hd
    rw [cell_of_block h1.blk]
    simp only [List.getElem?_toArray, List.getElem?_cons_succ, List.getElem?_cons_zero]
    refine ⟨trivial, ?_⟩
    refine Used_spec h hl ?_
    intro w1 hc1
    have hcc : Chg none' w w1 := (Chg.drew w none').trans hc1
    have h1 := h1.keep' hc1
    have hr := hr.keep' hc1
    have hfit := h1.fits
    have hroom := h1.hroom
    rw [aused_ab] at hfit
    rw [cell_of_block h1.blk]
    simp only [List.getElem?_toArray, List.getElem?_cons_succ, List.getElem?_cons_zero, xs, xb, true_and, and_self]
    rw [wrap_i64 (by omega) (by omega)]
    by_cases hfull : room < aused (ab L) + bs.length
    · have : (room : Int) - (aused (ab L) : Int) < (bs.length : Int) := by omega
      simp only [this, decide_true, xs, xb]
      exact hR hm hfull w1 hcc
    · have : ¬ (room : Int) - (aused (ab L) : Int) < (bs.length : Int) := by omega
      simp only [this, decide_false, xs, xb]
      rw [cell_of_block h1.blk]
      simp only [List.getElem?_toArray, List.getElem?_cons_zero]
      rw [xLookup_map (v := .string a) sk a und.m_string_p_disk_file inf.p_disk_file rfl h1.map rfl, getD_fptr]
      unfold fptr
      rw [xEq_ptr und.p_disk_file]
      have hsz : w.heap.size ≤ w1.heap.size := hcc.size
      have hK := hK hm (by omega)
      cases hf : find L a with
      | some f =>
        have hag : aget (ab L) a = some (f.bs, f.syn) := by rw [aget_ab, hf]; rfl
        simp only [Option.map_some, Option.isNone_some, xs, xb]
        refine push_spec h1 hf hr (by rw [aused_ab]; omega) ?_
        intro w2 f' e1 e2 e3 hd hc hb
        refine hK w2 _ ⟨m, _, hd, ?_, fun _ => Iff.rfl⟩ ?_ ?_
        · rw [aset_ab, e2, e3]; unfold aput aold; rw [hag]; rfl
        · exact hcc.of_none.trans (hc.mono fun b _ hb => (h3 b).2 (.inr (.inr ⟨_, find_mem hf, hb⟩)))
        · intro b hb'
          rcases foot_upd (w := w1) hf hb b hb' with h | h
          · exact .inl ((h3 b).2 h)
          · exact .inr (by omega)
      | none =>
        have hag : aget (ab L) a = none := by rw [aget_ab, hf]; rfl
        simp only [Option.map_none, Option.isNone_none, xs, xb]
        rw [build_file]
        refine box_step ?_
        intro fb w2 hfb hb2 hc2 hs2
        have h2 := h1.keep' hc2
        rw [cell_of_block h2.blk]
        simp only [List.getElem?_toArray, List.getElem?_cons_zero]
        refine xMapUpdate_map sk a _ und.m_string_p_disk_file h2.map rfl ?_
        intro w3 hm3 hc3 hs3
        have hdl : d < w1.heap.size := h1.lt (.inl rfl)
        have hml : m < w1.heap.size := h1.lt (.inr (.inl rfl))
        let f : FR := ⟨fb, .slice none 0 0, [], 0⟩
        have hF : FileAt w3 f := ⟨hc3.keep hb2 (by show ¬ fb = m; omega), Own.nil _ _ _, Nat.le_refl _, by simp [f, Value.ownBlock]⟩
        have hfblk : ∀ b ∈ f.blocks, b = fb := by intro b hb; simpa [f, FR.blocks, Value.ownBlock] using hb
        have hu3 : used (put L a f) ≤ used L := by have := used_put_le (f := f) (a := a) h1.nodup; simpa [f] using this
        have h3' := h2.put (a := a) (f := f) (by rw [ents_put]; exact hm3) hc3 (fun b e => by
            subst e
            exact ⟨fun e => h1.dm e.symm, fun p hp _ hb => (h1.apart p hp _ hb).2 rfl⟩) hF
          (fun b hb => by
            have := hfblk b hb
            refine ⟨by omega, by omega, fun p hp _ hb => ?_⟩
            have := (h1.files p hp).lt b hb
            omega)
          (Nat.le_trans hu3 h1.fits) hm
        have hr3 : Rd w3 v (bs.map bv) := by
          refine (hr.keep' hc2).keep hc3 ?_
          intro g n c hv hn e
          obtain ⟨sa, cap, hv', _, hcell⟩ := hr
          rw [hv] at hv'
          cases hv'
          -- the map's block is no block of cells
          have h0 : ∃ u, (bs.map bv)[0]? = some u := by
            cases hb0 : bs.map bv with
            | nil => rw [hb0] at hn; simp at hn
            | cons u l => exact ⟨u, rfl⟩
          obtain ⟨u, hu⟩ := h0
          have hcl := hcell 0 u hu
          obtain ⟨es, ck, hmb, _⟩ := h1.map
          have hgb : (g.add 0).block = m := by unfold Addr.add; split <;> exact e
          simp only [World.cell?, hgb, hmb] at hcl
          cases hcl
        refine push_spec h3' (find_put L a f hf) hr3 (by have := aused_ab L; omega) ?_
        intro w4 f' e1 e2 e3 hd hc hb
        have hup : upd (put L a f) a f' = put L a f' := by
          unfold put
          rw [hf]
          simp only [Option.isSome_none, Bool.false_eq_true, if_false]
          rw [find_none] at hf
          have := split_upd (L1 := L) (L2 := []) (a := a) (f := f) (f' := f') hf (by simp)
          exact this
        rw [hup] at hd
        refine hK w4 _ ⟨m, _, hd, ?_, fun _ => Iff.rfl⟩ ?_ ?_
        · rw [aput_ab, e2, e3]; unfold aold; rw [hag]; rfl
        · refine hcc.of_none.trans ((hc2.of_none.then hc3 fun b _ hb => (h3 b).2 (.inr (.inl hb))).then hc fun b hb hb' => ?_)
          have := hfblk b hb'
          omega
        · intro b hb'
          rcases foot_put hb' with hb' | hb'
          · exact .inl ((h3 b).2 hb')
          · rcases hb b hb' with h | h
            · have := hfblk b h; exact .inr (by omega)
            · exact .inr (by omega)
end
end Go.Proofs.Ytamejkogghpbhaa
end
