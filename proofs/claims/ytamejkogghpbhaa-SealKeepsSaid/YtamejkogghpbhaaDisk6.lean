/- The disk: copies. -/
import Derived.Test.YtamejkogghpbhaaDisk5
set_option linter.unusedVariables false
set_option linter.unusedSimpArgs false
namespace Go.Proofs.Ytamejkogghpbhaa
open Go.Sx
theorem sum_of_subset {β : Type} (f : β → Nat) : ∀ (l s : List β), l.Nodup → (∀ a ∈ l, a ∈ s) → (l.map f).sum ≤ (s.map f).sum
  | [], _, _, _ => by simp
  | a :: l, s, hn, hs => by
    obtain ⟨s1, s2, rfl⟩ := List.append_of_mem (hs a (by simp))
    rw [List.nodup_cons] at hn
    have := sum_of_subset f l (s1 ++ s2) hn.2 fun b hb => by
      have h1 := hs b (by simp [hb])
      have h2 : b ≠ a := fun e => hn.1 (e ▸ hb)
      simp only [List.mem_append, List.mem_cons] at h1 ⊢
      rcases h1 with h | h | h
      · exact .inl h
      · exact absurd h h2
      · exact .inr h
    simp only [List.map_append, List.map_cons, List.sum_append, List.sum_cons] at this ⊢
    omega
theorem nodup_of_map {β γ : Type} (f : β → γ) {l : List β} (h : (l.map f).Nodup) : l.Nodup := by
  rw [List.Nodup, List.pairwise_map] at h
  exact h.imp fun {a b} h e => h (by rw [e])
theorem build_file2 {w : World} {K : VCont} (v : Value) (hv : ∃ a n c, v = .slice a n c) (n : Int) : xBuild P 85 [(0, v), (1, .int .i64 n)] w K = K (.agg #[v, .int .i64 n]) w := by
  obtain ⟨a, m, c, rfl⟩ := hv
  unfold xBuild
  exact xp_iff fun w' => by kernel_rfl
theorem own_slice {w : World} {e size n : Nat} {v : Value} {xs : List Value} (h : Own w e size v n xs) : ∃ a m c, v = .slice a m c := by
  rcases h.2 with ⟨rfl, _⟩ | ⟨g, cap, cur, rfl, _⟩ <;> exact ⟨_, _, _, rfl⟩
section
variable {w : World} {K : VCont} {d room : Nat} {D : Ab} {F : Nat → Prop}
theorem Copy_spec (h : Disk w d room D F)
    (hK : ∀ c w' D' F', Disk w' c room D' F' → D'.Perm D → (∀ b, F' b → w.heap.size ≤ b) → Chg none' w w' → K (ptr c) w') : xCall P nr.disk_Disk_Copy [ptr d] w K := by
  have hnd := h.nodup
  obtain ⟨m, L, h1, rfl, h3⟩ := h
  refine disk_Disk_Copy_call ?_
  unfold disk_Disk_Copy_main
  rw [xEq_ptr und.p_disk_Disk]
  simp only [Option.isNone_some, xs]
  refine makeMap_step (E := Value.string) ?_
  intro m2 w1 hm2 hmap2 hc1 hs1
  have h1a := h1.keep' hc1
  simp only [cell_of_block h1a.blk, Nat.zero_add, List.getElem?_toArray, List.getElem?_cons_zero, List.getElem?_cons_succ]
  rw [build_Disk]
  refine box_step ?_
  intro c w2 hc hcb hc2 hs2
  have h1b := h1a.keep' hc2
  simp only [cell_of_block h1b.blk, List.getElem?_toArray, List.getElem?_cons_zero, List.getElem?_cons_succ]
  refine range_step und.m_string_p_disk_file h1b.map ?_
  intro r w3 hr hit hc3 hs3
  have h1c := h1b.keep' hc3
  have hm3 : MapAt Value.string w3 m2 [] := hmap2.keep (hc2.trans hc3) (fun h => h)
  have hdl : d < w.heap.size := h1.lt (.inl rfl)
  have hml : m < w.heap.size := h1.lt (.inr (.inl rfl))
  have hfl : ∀ p ∈ L, ∀ b ∈ p.2.blocks, b < w.heap.size := fun p hp => (h1.files p hp).lt
  have hcopy0 : DiskAt w3 c room m2 [] := ⟨hc3.keep hcb (fun h => h), hm3, by omega, by simp, by simp, List.Pairwise.nil, h1.hroom, by simp [used], by simp⟩
  have hc0 : Chg none' w w3 := (hc1.trans hc2).trans hc3
  refine Lp.gen (fun n s w' => ∃ dn L2, n + dn.length = L.length ∧ s = [] ∧ IterAt Value.string w' r m (ents L) dn ∧ DiskAt w' d room m L ∧ DiskAt w' c room m2 L2 ∧ L2.map (·.1) = dn ∧ (∀ p ∈ ab L2, p ∈ ab L) ∧ (∀ p ∈ L2, ∀ b ∈ p.2.blocks, w.heap.size ≤ b ∧ b ≠ r) ∧ Chg none' w w')
    L.length ⟨[], [], rfl, rfl, hit, h1c, hcopy0, rfl, by simp [ab], by simp, hc0⟩ ?_
  rintro n s w4 ⟨dn, L2, hn4, rfl, hit4, hd4, hcp4, hk4, hab4, hbl4, hcw4⟩ X hX
  unfold disk_Disk_Copy_l1
  refine iter_step sk hit4 ?_ ?_
  · intro hall
    unfold disk_Disk_Copy_j0
    refine hK c w4 _ _ ⟨m2, L2, hcp4, rfl, fun _ => Iff.rfl⟩ ?_ ?_ hcw4
    · have n2 : ((ab L2).map (·.1)).Nodup := by have := hcp4.nodup; simpa [ab, List.map_map, Function.comp_def] using this
      refine (List.perm_ext_iff_of_nodup (nodup_of_map _ n2) (nodup_of_map _ hnd)).2 fun p => ⟨hab4 p, fun hp => ?_⟩
      have h5 : p.1 ∈ dn := by
        obtain ⟨q, hq, rfl⟩ := List.mem_map.1 hp
        exact hall (q.1, ptr q.2.fb) (List.mem_map.2 ⟨q, hq, rfl⟩)
      rw [← hk4] at h5
      obtain ⟨q, hq, hqp⟩ := List.mem_map.1 h5
      have h6 : (q.1, q.2.bs, q.2.syn) ∈ ab L2 := List.mem_map.2 ⟨q, hq, rfl⟩
      have h7 := aget_mem hnd (hab4 _ h6)
      have h8 := aget_mem hnd hp
      simp only [hqp] at h7
      rw [h8] at h7
      have : (q.1, q.2.bs, q.2.syn) = p := Prod.ext hqp (Option.some.inj h7).symm
      rw [← this]; exact h6
    · rintro b (rfl | rfl | ⟨p, hp, hb⟩)
      · omega
      · omega
      · exact (hbl4 p hp b hb).1
  · intro a v w5 hav hnd5 hit5 hc5 hs5
    have hra : ∀ b, foot d m L b → ¬ b = r := by
      rintro b (rfl | rfl | ⟨p, hp, hb⟩)
      · omega
      · omega
      · have := hfl p hp b hb; omega
    have hd5 := hd4.keep hc5 hra
    have hrb : ∀ b, foot c m2 L2 b → ¬ b = r := by
      rintro b (rfl | rfl | ⟨p, hp, hb⟩)
      · omega
      · omega
      · exact (hbl4 p hp b hb).2
    have hcp5 := hcp4.keep hc5 hrb
    have hcw5 : Chg none' w w5 := hcw4.then hc5 fun b hb hb' => by omega
    obtain ⟨p, hp, hpe⟩ := List.mem_map.1 hav
    simp only [Prod.mk.injEq] at hpe
    obtain ⟨rfl, rfl⟩ := hpe
    have hd5' := hd5.keep' (Chg.drew w5 none')
    have hcp5' := hcp5.keep' (Chg.drew w5 none')
    have hF := hd5'.files p hp
    have hsyn := hF.syn
    simp only [xs, Nat.zero_add, cell_of_block hcp5'.blk, cell_of_block hF.blk, List.getElem?_toArray, List.getElem?_cons_zero, List.getElem?_cons_succ, true_and]
    have hlen := sum_ge hp
    have hfit := h1.fits
    have hroom := h1.hroom
    refine Clone_spec hF.own.rd (by omega) ?_
    intro v6 w6 ho6 hg6 hc6
    have hcp6 := hcp5'.keep' hc6
    have hd6 := hd5'.keep' hc6
    have hF6 := hd6.files p hp
    simp only [xs, Nat.zero_add, cell_of_block hcp6.blk, cell_of_block hF6.blk, List.getElem?_toArray, List.getElem?_cons_zero, List.getElem?_cons_succ, true_and, and_self]
    rw [build_file2 v6 (own_slice ho6)]
    refine box_step ?_
    intro fb w7 hfb hb7 hc7 hs7
    have hcp7 := hcp6.keep' hc7
    have hd7 := hd6.keep' hc7
    simp only [xs, Nat.zero_add, cell_of_block hcp7.blk, List.getElem?_toArray, List.getElem?_cons_zero, List.getElem?_cons_succ, true_and, and_self]
    refine xMapUpdate_map sk p.1 _ und.m_string_p_disk_file hcp7.map rfl ?_
    intro w8 hm8 hc8 hs8
    have hno : find L2 p.1 = none := by
      rw [find_none]
      intro q hq e
      exact hnd5 (by rw [← hk4, ← e]; exact List.mem_map.2 ⟨q, hq, rfl⟩)
    have s5 : w.heap.size ≤ w5.heap.size := hcw5.size
    have s6 : w5.heap.size ≤ w6.heap.size := hc6.size
    have s7 : w6.heap.size ≤ w7.heap.size := hc7.size
    have hm2l : m2 < w5.heap.size := hcp5.lt (.inr (.inl rfl))
    have hcl : c < w5.heap.size := hcp5.lt (.inl rfl)
    have hrl : r < w5.heap.size := hit5.lt
    have hg6' : ∀ g, v6.ownBlock = some g → w5.heap.size ≤ g := hg6
    have hv6 : v6.ownBlock ≠ some fb := fun e => by have := ho6.lt e; omega
    let f : FR := ⟨fb, v6, p.2.bs, p.2.syn⟩
    have hfb5 : ∀ b ∈ f.blocks, w5.heap.size ≤ b := by
      intro b hb
      simp only [f, FR.blocks, List.mem_cons, Option.mem_toList] at hb
      rcases hb with rfl | hb
      · omega
      · exact hg6' b hb
    have hF8 : FileAt w8 f := by
      refine ⟨hc8.keep hb7 (by show ¬ fb = m2; omega), ?_, hsyn, hv6⟩
      refine (ho6.keep' hc7).keep hc8 fun g hg e => ?_
      have := hg6' g hg
      omega
    have hnew : put L2 p.1 f = L2 ++ [(p.1, f)] := by unfold put; rw [hno]; rfl
    have hab8 : ∀ q ∈ ab (L2 ++ [(p.1, f)]), q ∈ ab L := by
      intro q hq
      simp only [ab, List.map_append, List.map_cons, List.map_nil, List.mem_append, List.mem_singleton] at hq
      rcases hq with hq | rfl
      · exact hab4 q hq
      · exact List.mem_map.2 ⟨p, hp, rfl⟩
    have hkn : ((L2 ++ [(p.1, f)]).map (·.1)).Nodup := by
      rw [List.map_append, List.nodup_append]
      refine ⟨hcp4.nodup, by simp, ?_⟩
      intro x hx y hy e
      simp at hy
      subst hy; subst e
      exact hnd5 (hk4 ▸ hx)
    have hu8 : used (L2 ++ [(p.1, f)]) ≤ room := by
      have n2 : (ab (L2 ++ [(p.1, f)])).Nodup := nodup_of_map (·.1) (by simpa [ab, List.map_map, Function.comp_def] using hkn)
      have := sum_of_subset (fun p => p.2.1.length) _ _ n2 hab8
      have e1 := aused_ab (L2 ++ [(p.1, f)])
      have e2 := aused_ab L
      unfold aused at e1 e2
      omega
    have hcp8 := hcp7.put (a := p.1) (f := f) (by rw [ents_put]; exact hm8) hc8 (fun b e => by
        subst e
        exact ⟨fun e => hcp7.dm e.symm, fun q hq _ hb => (hcp7.apart q hq _ hb).2 rfl⟩) hF8
      (fun b hb => by
        have := hfb5 b hb
        refine ⟨by omega, by omega, fun q hq _ hb' => ?_⟩
        have := (hcp5.files q hq).lt b hb'
        omega)
      (by rw [hnew]; exact hu8) (h1.names p hp)
    rw [hnew] at hcp8
    have hc58 : Chg (· = m2) w5 w8 := (((Chg.drew w5 none').trans hc6).trans hc7).of_none.trans hc8
    have hit8 : IterAt Value.string w8 r m (ents L) (dn ++ [p.1]) := hit5.keep hc58 (by omega) (by omega)
    have hl8 := hit8.length
    simp only [List.length_append, List.length_cons, List.length_nil, ents, List.length_map] at hl8
    refine hX (n - 1) _ _ ⟨dn ++ [p.1], _, by simp; omega, rfl, hit8, hd5.keep hc58 ?_, hcp8, by simp [hk4], hab8, ?_, hcw5.then hc58 fun b hb e => by omega⟩ ?_
    · rintro b (rfl | rfl | ⟨q, hq, hb⟩)
      · omega
      · omega
      · have := hfl q hq b hb; omega
    · intro q hq b hb
      simp only [List.mem_append, List.mem_singleton] at hq
      rcases hq with hq | rfl
      · exact hbl4 q hq b hb
      · have := hfb5 b hb
        constructor <;> omega
    · omega
end
end Go.Proofs.Ytamejkogghpbhaa
