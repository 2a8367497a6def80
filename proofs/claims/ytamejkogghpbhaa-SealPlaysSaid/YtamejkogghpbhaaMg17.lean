import Derived.Test.YtamejkogghpbhaaMg15
import Derived.Test.YtamejkogghpbhaaMg16
import Derived.Test.YtamejkogghpbhaaMg10
import Derived.Test.YtamejkogghpbhaaMg9
section
/- The disk: crashes and copies. -/
set_option linter.unusedVariables false
set_option linter.unusedSimpArgs false
namespace Go.Proofs.Ytamejkogghpbhaa
open Go.Sx
theorem names_nodup {D : Ab} (hn : (D.map (·.1)).Nodup) : (names D).Nodup := (srt_perm _).nodup_iff.2 hn
/-- what a crash leaves of a file -/
def cr (keep : Int) (x : List UInt8 × Nat) : List UInt8 × Nat :=
  let n := x.2 + min (max keep 0).toNat (x.1.length - x.2)
  (x.1.take n, n)
def acrash (keep : Int) (D : Ab) : Ab := D.map fun p => (p.1, cr keep p.2)
noncomputable local instance (a : ByteArray) (ks : List ByteArray) : Decidable (a ∈ ks) := Classical.propDecidable _
noncomputable def acr (keep : Int) (ks : List ByteArray) (D : Ab) : Ab := D.map fun p => if p.1 ∈ ks then (p.1, cr keep p.2) else p
theorem aget_acr {keep : Int} {ks : List ByteArray} {D : Ab} {a : ByteArray} (h : a ∉ ks) : aget (acr keep ks D) a = aget D a := by
  unfold aget acr
  induction D with
  | nil => rfl
  | cons p D ih =>
    rw [List.map_cons, List.find?_cons, List.find?_cons]
    by_cases hp : p.1 = a
    · have : p.1 ∉ ks := hp ▸ h
      rw [if_neg this]
      simp [hp]
    · have : (if p.1 ∈ ks then (p.1, cr keep p.2) else p).1 = p.1 := by split <;> rfl
      simp only [this, hp, decide_false]
      exact ih
theorem acr_step {keep : Int} {ks : List ByteArray} {D : Ab} {a : ByteArray} {x : List UInt8 × Nat} (hn : (D.map (·.1)).Nodup) (ha : a ∉ ks) (hx : aget D a = some x) : aset (acr keep ks D) a (cr keep x) = acr keep (ks ++ [a]) D := by
  unfold aset acr
  rw [List.map_map]
  apply List.map_congr_left
  intro p hp
  simp only [Function.comp]
  have h1 : (if p.1 ∈ ks then (p.1, cr keep p.2) else p).1 = p.1 := by split <;> rfl
  rw [h1]
  by_cases hpa : p.1 = a
  · have h2 := aget_mem hn hp
    rw [hpa, hx] at h2
    simp only [Option.some.injEq] at h2
    simp [hpa, ← h2]
  · simp [hpa]
theorem acr_all {keep : Int} {D : Ab} : acr keep (names D) D = acrash keep D := by
  unfold acr acrash
  apply List.map_congr_left
  intro p hp
  have : p.1 ∈ names D := mem_srt.2 (List.mem_map.2 ⟨p, hp, rfl⟩)
  simp [this]
theorem acr_nil {keep : Int} {D : Ab} : acr keep [] D = D := by simp [acr]
section
variable {w : World} {K : VCont} {d room : Nat} {D : Ab} {F : Nat → Prop}
theorem Crash_spec (h : Disk w d room D F) (hl : D.length ≤ 1000000) (keep : Int) (hk : -9223372036854775808 ≤ keep ∧ keep ≤ 9223372036854775807)
    (hK : ∀ w' F', Disk w' d room (acrash keep D) F' → Chg F w w' → Moves F F' w → K (.tuple #[]) w') : xCall P nr.disk_Disk_Crash [ptr d, i64 keep] w K := by
  refine disk_Disk_Crash_call ?_
  unfold disk_Disk_Crash_main
  refine Names_spec h hl ?_
  intro v w1 ho hg hc
  refine len_own und.s_string ho ?_
  have h' := h.keep' hc
  have hnd := h.nodup
  refine Lp.intro (fun s w' => ∃ i F', i ≤ D.length ∧ s = [i64 i] ∧ Disk w' d room (acr keep ((names D).take i) D) F' ∧ Chg F w w' ∧ Moves F F' w ∧ Own w' 9 1 v D.length ((names D).map .string))
    (fun s w' => match s with | [.int _ i] => D.length - i.toNat | _ => 0) ⟨0, F, by omega, by simp, by rw [List.take_zero, acr_nil]; exact h', hc.of_none, fun b hb => .inl hb, ho⟩ ?_
  rintro s w2 ⟨i, F', hi, rfl, hd, hcw, hmv, ho2⟩ X hX
  unfold disk_Disk_Crash_l0
  simp only [List.getD_cons_zero, xs, xb]
  by_cases hlt : i < D.length
  · have hlt' : (i : Int) < (D.length : Int) := by omega
    simp only [hlt', decide_true, xs, xb]
    have hin : i < (names D).length := by rw [names_length]; exact hlt
    refine index_own und.s_string inf.string rfl ho2 (k := i) (x := .string (names D)[i]) (by simp [hin]) ?_
    obtain ⟨m, L, h1, he, h3⟩ := hd
    have hnt : (names D)[i] ∉ (names D).take i := by
      intro hm
      obtain ⟨j, hj, hje⟩ := List.getElem_of_mem hm
      rw [List.getElem_take] at hje
      have hj' : j < i := by simp at hj; omega
      exact absurd ((List.nodup_iff_pairwise_ne.1 (names_nodup hnd) |> List.pairwise_iff_getElem.1) j i (by omega) hin hj') (fun hne => hne hje)
    obtain ⟨x, hx⟩ := mem_names.1 (List.getElem_mem hin)
    have hx' : aget (ab L) (names D)[i] = some x := by rw [he, aget_acr hnt, hx]
    have hx2 := hx'
    rw [aget_ab, Option.map_eq_some_iff] at hx2
    obtain ⟨f, hf, rfl⟩ := hx2
    have h1' := h1.keep' (Chg.drew w2 none')
    have hF := h1'.files _ (find_mem hf)
    simp only [xs, Nat.zero_add]
    rw [cell_of_block h1.blk]
    simp only [List.getElem?_toArray, List.getElem?_cons_zero]
    rw [xLookup_map (v := .string (names D)[i]) sk (names D)[i] und.m_string_p_disk_file inf.p_disk_file rfl h1.map rfl, getD_fptr]
    unfold fptr
    rw [hf]
    simp only [Option.map_some, xs, xb, Nat.zero_add]
    simp only [cell_of_block hF.blk, List.getElem?_toArray, List.getElem?_cons_zero, List.getElem?_cons_succ, true_and]
    refine len_own und.s_uint8 hF.own ?_
    simp only [xs, xb, Nat.zero_add]
    have hsyn := hF.syn
    have hfl := sum_ge (find_mem hf)
    have hfit := h1.fits
    have hroom := h1.hroom
    simp only at hsyn hfl
    have e1 : IntKind.i64.wrap ((f.bs.length : Int) - (f.syn : Int)) = ((f.bs.length - f.syn : Nat) : Int) := by rw [wrap_i64 (by omega) (by omega)]; omega
    have e2 : IntKind.i64.wrap ((f.syn : Int) + min (max keep 0) ((f.bs.length - f.syn : Nat) : Int)) = (((cr keep (f.bs, f.syn)).2 : Nat) : Int) := by
      unfold cr
      simp only
      rw [wrap_i64 (by omega) (by omega)]
      omega
    rw [e1, e2]
    have hcrl : (cr keep (f.bs, f.syn)).2 ≤ f.bs.length := by unfold cr; simp only; omega
    refine cut_file h1' hf hcrl ?_
    intro w3 f' hb hs hd3 hc3 hbl
    have hid : ∀ b, foot d m L b → F b ∨ w.heap.size ≤ b := fun b hb => hmv b ((h3 b).2 hb)
    have hcc : Chg F w w3 := hcw.then ((Chg.drew w2 _).trans hc3) fun b hb hb' => by
      rcases hid b (.inr (.inr ⟨_, find_mem hf, hb'⟩)) with h | h
      · exact h
      · omega
    have ho3 : Own w3 9 1 v D.length ((names D).map .string) := by
      refine (ho2.keep' (Chg.drew w2 none')).keep hc3 fun g hg' hgb => ?_
      -- a block of names is no block of bytes
      rcases ho2.2 with ⟨rfl, h0⟩ | ⟨g', cap, cur, rfl, hgb2, _⟩
      · omega
      · simp [Value.ownBlock] at hg'
        subst hg'
        simp only [FR.blocks, List.mem_cons, Option.mem_toList] at hgb
        rcases hgb with rfl | hgb
        · have := hF.blk
          rw [show w2.drew.heap = w2.heap from rfl, hgb2] at this
          cases this
        · rcases hF.own.2 with ⟨h, _⟩ | ⟨g2, cap2, cur2, h, hb2, _⟩
          · rw [show f.sv = .slice none 0 0 from h] at hgb; cases hgb
          · rw [show f.sv = _ from h] at hgb
            simp [Value.ownBlock] at hgb
            subst hgb
            rw [show w2.drew.heap = w2.heap from rfl, hgb2] at hb2
            cases hb2
    rw [wrap_i64 (by omega) (by omega)]
    refine hX _ _ ⟨i + 1, _, by omega, by simp, ⟨m, _, hd3, ?_, fun _ => Iff.rfl⟩, hcc, ?_, ho3⟩ ?_
    · rw [aset_ab, he, hb, hs, List.take_add_one, List.getElem?_eq_getElem hin]
      exact acr_step (x := (f.bs, f.syn)) hnd hnt hx
    · intro b hb'
      rcases foot_upd (w := w2) hf (fun b hb => .inl (hbl b hb)) b hb' with h | h
      · exact hid b h
      · have := hcw.size; exact .inr (by omega)
    · simp only; omega
  · have hlt' : ¬ (i : Int) < (D.length : Int) := by omega
    have hi' : i = D.length := by omega
    simp only [hlt', decide_false, xs, xb]
    subst hi'
    rw [List.take_of_length_le (by simp [names_length]), acr_all] at hd
    exact hK w2 F' hd hcw hmv
end
end Go.Proofs.Ytamejkogghpbhaa
end
section
/- The disk: copies. -/
set_option linter.unusedVariables false
set_option linter.unusedSimpArgs false
namespace Go.Proofs.Ytamejkogghpbhaa
open Go.Sx
theorem sum_of_subset {β : Type} (f : β → Nat) : ∀ (l s : List β), l.Nodup → (∀ a ∈ l, a ∈ s) → (l.map f).sum ≤ (s.map f).sum
  | [], _, _, _ => by simp
  | a :: l, s, hn, hs => by
    obtain ⟨s1, s2, rfl⟩ := List.append_of_mem (hs a (by simp))
    rw [List.nodup_cons] at hn
    have := sum_of_subset f l (s1 ++ s2) hn.2 fun b hb => by
      have h1 := hs b (by simp [hb])
      have h2 : b ≠ a := fun e => hn.1 (e ▸ hb)
      simp only [List.mem_append, List.mem_cons] at h1 ⊢
      rcases h1 with h | h | h
      · exact .inl h
      · exact absurd h h2
      · exact .inr h
    simp only [List.map_append, List.map_cons, List.sum_append, List.sum_cons] at this ⊢
    omega
theorem nodup_of_map {β γ : Type} (f : β → γ) {l : List β} (h : (l.map f).Nodup) : l.Nodup := by
  rw [List.Nodup, List.pairwise_map] at h
  exact h.imp fun {a b} h e => h (by rw [e])
theorem build_file2 {w : World} {K : VCont} (v : Value) (hv : ∃ a n c, v = .slice a n c) (n : Int) : xBuild P 85 [(0, v), (1, .int .i64 n)] w K = K (.agg #[v, .int .i64 n]) w := by
  obtain ⟨a, m, c, rfl⟩ := hv
  unfold xBuild
  exact xp_iff fun w' => by kernel_rfl
theorem own_slice {w : World} {e size n : Nat} {v : Value} {xs : List Value} (h : Own w e size v n xs) : ∃ a m c, v = .slice a m c := by
  rcases h.2 with ⟨rfl, _⟩ | ⟨g, cap, cur, rfl, _⟩ <;> exact ⟨_, _, _, rfl⟩
section
variable {w : World} {K : VCont} {d room : Nat} {D : Ab} {F : Nat → Prop}
theorem Copy_spec (h : Disk w d room D F)
    (hK : ∀ c w' D' F', Disk w' c room D' F' → D'.Perm D → (∀ b, F' b → w.heap.size ≤ b) → Chg none' w w' → K (ptr c) w') : xCall P nr.disk_Disk_Copy [ptr d] w K := by
  have hnd := h.nodup
  obtain ⟨m, L, h1, rfl, h3⟩ := h
  refine disk_Disk_Copy_call ?_
  unfold disk_Disk_Copy_main
  rw [xEq_ptr und.p_disk_Disk]
  simp only [Option.isNone_some, xs]
  refine makeMap_step (E := Value.string) ?_
  intro m2 w1 hm2 hmap2 hc1 hs1
  have h1a := h1.keep' hc1
  simp only [cell_of_block h1a.blk, Nat.zero_add, List.getElem?_toArray, List.getElem?_cons_zero, List.getElem?_cons_succ]
  rw [build_Disk]
  refine box_step ?_
  intro c w2 hc hcb hc2 hs2
  have h1b := h1a.keep' hc2
  simp only [cell_of_block h1b.blk, List.getElem?_toArray, List.getElem?_cons_zero, List.getElem?_cons_succ]
  refine range_step und.m_string_p_disk_file h1b.map ?_
  intro r w3 hr hit hc3 hs3
  have h1c := h1b.keep' hc3
  have hm3 : MapAt Value.string w3 m2 [] := hmap2.keep (hc2.trans hc3) (fun h => h)
  have hdl : d < w.heap.size := h1.lt (.inl rfl)
  have hml : m < w.heap.size := h1.lt (.inr (.inl rfl))
  have hfl : ∀ p ∈ L, ∀ b ∈ p.2.blocks, b < w.heap.size := fun p hp => (h1.files p hp).lt
  have hcopy0 : DiskAt w3 c room m2 [] := ⟨hc3.keep hcb (fun h => h), hm3, by omega, by simp, by simp, List.Pairwise.nil, h1.hroom, by simp [used], by simp⟩
  have hc0 : Chg none' w w3 := (hc1.trans hc2).trans hc3
  refine Lp.gen (fun n s w' => ∃ dn L2, n + dn.length = L.length ∧ s = [] ∧ IterAt Value.string w' r m (ents L) dn ∧ DiskAt w' d room m L ∧ DiskAt w' c room m2 L2 ∧ L2.map (·.1) = dn ∧ (∀ p ∈ ab L2, p ∈ ab L) ∧ (∀ p ∈ L2, ∀ b ∈ p.2.blocks, w.heap.size ≤ b ∧ b ≠ r) ∧ Chg none' w w')
    L.length ⟨[], [], rfl, rfl, hit, h1c, hcopy0, rfl, by simp [ab], by simp, hc0⟩ ?_
  rintro n s w4 ⟨dn, L2, hn4, rfl, hit4, hd4, hcp4, hk4, hab4, hbl4, hcw4⟩ X hX
  unfold disk_Disk_Copy_l1
  refine iter_step sk hit4 ?_ ?_
  · intro hall
    unfold disk_Disk_Copy_j0
    refine hK c w4 _ _ ⟨m2, L2, hcp4, rfl, fun _ => Iff.rfl⟩ ?_ ?_ hcw4
    · have n2 : ((ab L2).map (·.1)).Nodup := by have := hcp4.nodup; simpa [ab, List.map_map, Function.comp_def] using this
      refine (List.perm_ext_iff_of_nodup (nodup_of_map _ n2) (nodup_of_map _ hnd)).2 fun p => ⟨hab4 p, fun hp => ?_⟩
      have h5 : p.1 ∈ dn := by
        obtain ⟨q, hq, rfl⟩ := List.mem_map.1 hp
        exact hall (q.1, ptr q.2.fb) (List.mem_map.2 ⟨q, hq, rfl⟩)
      rw [← hk4] at h5
      obtain ⟨q, hq, hqp⟩ := List.mem_map.1 h5
      have h6 : (q.1, q.2.bs, q.2.syn) ∈ ab L2 := List.mem_map.2 ⟨q, hq, rfl⟩
      have h7 := aget_mem hnd (hab4 _ h6)
      have h8 := aget_mem hnd hp
      simp only [hqp] at h7
      rw [h8] at h7
      have : (q.1, q.2.bs, q.2.syn) = p := Prod.ext hqp (Option.some.inj h7).symm
      rw [← this]; exact h6
    · rintro b (rfl | rfl | ⟨p, hp, hb⟩)
      · omega
      · omega
      · exact (hbl4 p hp b hb).1
  · intro a v w5 hav hnd5 hit5 hc5 hs5
    have hra : ∀ b, foot d m L b → ¬ b = r := by
      rintro b (rfl | rfl | ⟨p, hp, hb⟩)
      · omega
      · omega
      · have := hfl p hp b hb; omega
    have hd5 := hd4.keep hc5 hra
    have hrb : ∀ b, foot c m2 L2 b → ¬ b = r := by
      rintro b (rfl | rfl | ⟨p, hp, hb⟩)
      · omega
      · omega
      · exact (hbl4 p hp b hb).2
    have hcp5 := hcp4.keep hc5 hrb
    have hcw5 : Chg none' w w5 := hcw4.then hc5 fun b hb hb' => by omega
    obtain ⟨p, hp, hpe⟩ := List.mem_map.1 hav
    simp only [Prod.mk.injEq] at hpe
    obtain ⟨rfl, rfl⟩ := hpe
    have hd5' := hd5.keep' (Chg.drew w5 none')
    have hcp5' := hcp5.keep' (Chg.drew w5 none')
    have hF := hd5'.files p hp
    have hsyn := hF.syn
    simp only [xs, Nat.zero_add, cell_of_block hcp5'.blk, cell_of_block hF.blk, List.getElem?_toArray, List.getElem?_cons_zero, List.getElem?_cons_succ, true_and]
    have hlen := sum_ge hp
    have hfit := h1.fits
    have hroom := h1.hroom
    refine Clone_spec hF.own.rd (by omega) ?_
    intro v6 w6 ho6 hg6 hc6
    have hcp6 := hcp5'.keep' hc6
    have hd6 := hd5'.keep' hc6
    have hF6 := hd6.files p hp
    simp only [xs, Nat.zero_add, cell_of_block hcp6.blk, cell_of_block hF6.blk, List.getElem?_toArray, List.getElem?_cons_zero, List.getElem?_cons_succ, true_and, and_self]
    rw [build_file2 v6 (own_slice ho6)]
    refine box_step ?_
    intro fb w7 hfb hb7 hc7 hs7
    have hcp7 := hcp6.keep' hc7
    have hd7 := hd6.keep' hc7
    simp only [xs, Nat.zero_add, cell_of_block hcp7.blk, List.getElem?_toArray, List.getElem?_cons_zero, List.getElem?_cons_succ, true_and, and_self]
    refine xMapUpdate_map sk p.1 _ und.m_string_p_disk_file hcp7.map rfl ?_
    intro w8 hm8 hc8 hs8
    have hno : find L2 p.1 = none := by
      rw [find_none]
      intro q hq e
      exact hnd5 (by rw [← hk4, ← e]; exact List.mem_map.2 ⟨q, hq, rfl⟩)
    have s5 : w.heap.size ≤ w5.heap.size := hcw5.size
    have s6 : w5.heap.size ≤ w6.heap.size := hc6.size
    have s7 : w6.heap.size ≤ w7.heap.size := hc7.size
    have hm2l : m2 < w5.heap.size := hcp5.lt (.inr (.inl rfl))
    have hcl : c < w5.heap.size := hcp5.lt (.inl rfl)
    have hrl : r < w5.heap.size := hit5.lt
    have hg6' : ∀ g, v6.ownBlock = some g → w5.heap.size ≤ g := hg6
    have hv6 : v6.ownBlock ≠ some fb := fun e => by have := ho6.lt e; omega
    let f : FR := ⟨fb, v6, p.2.bs, p.2.syn⟩
    have hfb5 : ∀ b ∈ f.blocks, w5.heap.size ≤ b := by
      intro b hb
      simp only [f, FR.blocks, List.mem_cons, Option.mem_toList] at hb
      rcases hb with rfl | hb
      · omega
      · exact hg6' b hb
    have hF8 : FileAt w8 f := by
      refine ⟨hc8.keep hb7 (by show ¬ fb = m2; omega), ?_, hsyn, hv6⟩
      refine (ho6.keep' hc7).keep hc8 fun g hg e => ?_
      have := hg6' g hg
      omega
    have hnew : put L2 p.1 f = L2 ++ [(p.1, f)] := by unfold put; rw [hno]; rfl
    have hab8 : ∀ q ∈ ab (L2 ++ [(p.1, f)]), q ∈ ab L := by
      intro q hq
      simp only [ab, List.map_append, List.map_cons, List.map_nil, List.mem_append, List.mem_singleton] at hq
      rcases hq with hq | rfl
      · exact hab4 q hq
      · exact List.mem_map.2 ⟨p, hp, rfl⟩
    have hkn : ((L2 ++ [(p.1, f)]).map (·.1)).Nodup := by
      rw [List.map_append, List.nodup_append]
      refine ⟨hcp4.nodup, by simp, ?_⟩
      intro x hx y hy e
      simp at hy
      subst hy; subst e
      exact hnd5 (hk4 ▸ hx)
    have hu8 : used (L2 ++ [(p.1, f)]) ≤ room := by
      have n2 : (ab (L2 ++ [(p.1, f)])).Nodup := nodup_of_map (·.1) (by simpa [ab, List.map_map, Function.comp_def] using hkn)
      have := sum_of_subset (fun p => p.2.1.length) _ _ n2 hab8
      have e1 := aused_ab (L2 ++ [(p.1, f)])
      have e2 := aused_ab L
      unfold aused at e1 e2
      omega
    have hcp8 := hcp7.put (a := p.1) (f := f) (by rw [ents_put]; exact hm8) hc8 (fun b e => by
        subst e
        exact ⟨fun e => hcp7.dm e.symm, fun q hq _ hb => (hcp7.apart q hq _ hb).2 rfl⟩) hF8
      (fun b hb => by
        have := hfb5 b hb
        refine ⟨by omega, by omega, fun q hq _ hb' => ?_⟩
        have := (hcp5.files q hq).lt b hb'
        omega)
      (by rw [hnew]; exact hu8) (h1.names p hp)
    rw [hnew] at hcp8
    have hc58 : Chg (· = m2) w5 w8 := (((Chg.drew w5 none').trans hc6).trans hc7).of_none.trans hc8
    have hit8 : IterAt Value.string w8 r m (ents L) (dn ++ [p.1]) := hit5.keep hc58 (by omega) (by omega)
    have hl8 := hit8.length
    simp only [List.length_append, List.length_cons, List.length_nil, ents, List.length_map] at hl8
    refine hX (n - 1) _ _ ⟨dn ++ [p.1], _, by simp; omega, rfl, hit8, hd5.keep hc58 ?_, hcp8, by simp [hk4], hab8, ?_, hcw5.then hc58 fun b hb e => by omega⟩ ?_
    · rintro b (rfl | rfl | ⟨q, hq, hb⟩)
      · omega
      · omega
      · have := hfl q hq b hb; omega
    · intro q hq b hb
      simp only [List.mem_append, List.mem_singleton] at hq
      rcases hq with hq | rfl
      · exact hbl4 q hq b hb
      · have := hfb5 b hb
        constructor <;> omega
    · omega
end
end Go.Proofs.Ytamejkogghpbhaa
end
section
/- Laws of the list that a disk is. -/
set_option linter.unusedVariables false
set_option linter.unusedSimpArgs false
namespace Go.Proofs.Ytamejkogghpbhaa
open Go.Sx
abbrev Nd (D : Ab) : Prop := (D.map (·.1)).Nodup
theorem aget_cons (p : ByteArray × List UInt8 × Nat) (D : Ab) (a : ByteArray) : aget (p :: D) a = if p.1 = a then some p.2 else aget D a := by
  unfold aget
  rw [List.find?_cons]
  by_cases h : p.1 = a <;> simp [h]
theorem aget_nil (a : ByteArray) : aget [] a = none := rfl
theorem aget_append (D E : Ab) (a : ByteArray) : aget (D ++ E) a = (aget D a).or (aget E a) := by
  unfold aget
  rw [List.find?_append]
  cases List.find? (fun p => decide (p.1 = a)) D <;> simp
theorem aset_cons (p : ByteArray × List UInt8 × Nat) (D : Ab) (a : ByteArray) (x : List UInt8 × Nat) : aset (p :: D) a x = (if p.1 = a then (a, x) else p) :: aset D a x := rfl
theorem aget_aset (D : Ab) (a b : ByteArray) (x : List UInt8 × Nat) : aget (aset D a x) b = if a = b then (aget D b).map fun _ => x else aget D b := by
  induction D with
  | nil => simp [aset, aget]
  | cons p D ih =>
    rw [aset_cons, aget_cons, aget_cons, ih]
    by_cases h1 : p.1 = a
    · by_cases h2 : a = b
      · simp [h1, h2]
      · have : ¬ p.1 = b := fun e => h2 (h1 ▸ e)
        simp [h1, h2]
    · by_cases h2 : p.1 = b
      · have : ¬ a = b := fun e => h1 (e ▸ h2)
        have h3 : ¬ b = a := fun e => this e.symm
        simp [h1, h2, h3, this]
      · simp [h1, h2]
theorem aget_aput (D : Ab) (a b : ByteArray) (x : List UInt8 × Nat) : aget (aput D a x) b = if a = b then some x else aget D b := by
  unfold aput
  split
  · rename_i h
    rw [aget_aset]
    by_cases hab : a = b
    · subst hab
      obtain ⟨y, hy⟩ := Option.isSome_iff_exists.1 h
      simp [hy]
    · simp [hab]
  · rename_i h
    have hn : aget D a = none := by simpa using h
    rw [aget_append, aget_cons, aget_nil]
    by_cases hab : a = b
    · subst hab; simp [hn]
    · simp [hab]
theorem aget_arem (D : Ab) (a b : ByteArray) : aget (arem D a) b = if a = b then none else aget D b := by
  unfold arem
  induction D with
  | nil => simp [aget]
  | cons p D ih =>
    rw [List.filter_cons]
    by_cases h1 : p.1 = a
    · rw [if_neg (by simp [h1]), ih, aget_cons]
      by_cases h2 : a = b
      · simp [h2]
      · have : ¬ p.1 = b := fun e => h2 (h1 ▸ e)
        simp [h2, this]
    · rw [if_pos (by simp [h1]), aget_cons, aget_cons, ih]
      by_cases h2 : p.1 = b
      · have : ¬ a = b := fun e => h1 (e ▸ h2)
        simp [h2, this]
      · simp [h2]
theorem aset_names (D : Ab) (a : ByteArray) (x : List UInt8 × Nat) : (aset D a x).map (·.1) = D.map (·.1) := by
  unfold aset
  rw [List.map_map]
  apply List.map_congr_left
  intro p _
  simp only [Function.comp]
  split
  · rename_i h; exact h.symm
  · rfl
theorem aset_length (D : Ab) (a : ByteArray) (x : List UInt8 × Nat) : (aset D a x).length = D.length := by simp [aset]
theorem aput_length (D : Ab) (a : ByteArray) (x : List UInt8 × Nat) : (aput D a x).length = if (aget D a).isSome then D.length else D.length + 1 := by
  unfold aput
  split <;> simp [aset_length]
theorem Nd.aset {D : Ab} (h : Nd D) (a : ByteArray) (x : List UInt8 × Nat) : Nd (aset D a x) := by unfold Nd; rw [aset_names]; exact h
theorem Nd.aput {D : Ab} (h : Nd D) (a : ByteArray) (x : List UInt8 × Nat) : Nd (aput D a x) := by
  unfold Proofs.Ytamejkogghpbhaa.aput
  split
  · exact h.aset a x
  · rename_i hs
    have hn : aget D a = none := by simpa using hs
    unfold Nd
    rw [List.map_append, List.nodup_append]
    refine ⟨h, by simp, ?_⟩
    intro y hy z hz e
    simp at hz
    subst hz; subst e
    obtain ⟨p, hp, hpe⟩ := List.mem_map.1 hy
    exact aget_none.1 hn p hp hpe
theorem Nd.arem {D : Ab} (h : Nd D) (a : ByteArray) : Nd (arem D a) := h.sublist ((List.filter_sublist).map _)
theorem ab_split {D : Ab} (hn : Nd D) {a : ByteArray} {x : List UInt8 × Nat} (h : aget D a = some x) : ∃ D1 D2, D = D1 ++ (a, x) :: D2 ∧ (∀ p ∈ D1, p.1 ≠ a) ∧ ∀ p ∈ D2, p.1 ≠ a := by
  obtain ⟨D1, D2, rfl⟩ := List.append_of_mem (aget_some_mem h)
  refine ⟨D1, D2, rfl, ?_, ?_⟩
  · intro p hp hpa
    unfold Nd at hn
    rw [List.map_append, List.nodup_append] at hn
    exact hn.2.2 p.1 (List.mem_map.2 ⟨p, hp, rfl⟩) a (by simp) hpa
  · intro p hp hpa
    unfold Nd at hn
    rw [List.map_append, List.nodup_append] at hn
    have := hn.2.1
    rw [List.map_cons, List.nodup_cons] at this
    exact this.1 (List.mem_map.2 ⟨p, hp, hpa⟩)
theorem arem_split {D1 D2 : Ab} {a : ByteArray} {x : List UInt8 × Nat} (h1 : ∀ p ∈ D1, p.1 ≠ a) (h2 : ∀ p ∈ D2, p.1 ≠ a) : arem (D1 ++ (a, x) :: D2) a = D1 ++ D2 := by
  have f : ∀ E : Ab, (∀ p ∈ E, p.1 ≠ a) → arem E a = E := fun E hE => by unfold arem; rw [List.filter_eq_self]; intro p hp; simpa using hE p hp
  have e1 := f D1 h1
  have e2 := f D2 h2
  unfold arem at *
  rw [List.filter_append, List.filter_cons, e1, e2]
  simp
theorem aset_split {D1 D2 : Ab} {a : ByteArray} {x y : List UInt8 × Nat} (h1 : ∀ p ∈ D1, p.1 ≠ a) (h2 : ∀ p ∈ D2, p.1 ≠ a) : aset (D1 ++ (a, x) :: D2) a y = D1 ++ (a, y) :: D2 := by
  have f : ∀ E : Ab, (∀ p ∈ E, p.1 ≠ a) → aset E a y = E := fun E hE => by
    unfold aset
    exact (List.map_congr_left (g := id) fun p hp => by simp [hE p hp]).trans (by simp)
  have e1 := f D1 h1
  have e2 := f D2 h2
  unfold aset at *
  rw [List.map_append, List.map_cons, e1, e2]
  simp
theorem arem_len {D : Ab} (hn : Nd D) {a : ByteArray} {x : List UInt8 × Nat} (h : aget D a = some x) : (arem D a).length + 1 = D.length ∧ aused (arem D a) + x.1.length = aused D := by
  obtain ⟨D1, D2, rfl, h1, h2⟩ := ab_split hn h
  rw [arem_split h1 h2]
  simp only [aused, List.map_append, List.map_cons, List.sum_append, List.sum_cons, List.length_append, List.length_cons]
  omega
theorem aused_aset {D : Ab} (hn : Nd D) {a : ByteArray} {x y : List UInt8 × Nat} (h : aget D a = some x) : aused (aset D a y) + x.1.length = aused D + y.1.length := by
  obtain ⟨D1, D2, rfl, h1, h2⟩ := ab_split hn h
  rw [aset_split h1 h2]
  simp only [aused, List.map_append, List.map_cons, List.sum_append, List.sum_cons]
  omega
theorem aused_aput {D : Ab} (hn : Nd D) (a : ByteArray) (y : List UInt8 × Nat) : aused (aput D a y) + (aold D a).1.length = aused D + y.1.length := by
  unfold aput aold
  split
  · rename_i h
    obtain ⟨x, hx⟩ := Option.isSome_iff_exists.1 h
    have := aused_aset hn hx (y := y)
    rw [hx]; simpa using this
  · rename_i h
    have hx : aget D a = none := by simpa using h
    rw [hx]
    simp [aused]
end Go.Proofs.Ytamejkogghpbhaa
end
section
/- Printed by wip/gen/gen.py: the shallow texts of some functions. -/
set_option linter.unusedVariables false
namespace Go.Proofs.Ytamejkogghpbhaa
open Go.Sx

/-! sojourn/sojournlaw5.told: function 12 -/
def law5_told_main (R : VCont) (w : World) : Prop :=
  xCall P nr.disk_New [(Value.int IntKind.i64 20)] w fun t1 w =>
  xExtract t1 0 w fun t2 w =>
  xExtract t1 1 w fun t3 w =>
  xEq P .neq 3 false true t3 (Value.int IntKind.i64 0) w fun t4 w =>
  xWhen t4 false (fun K => K t2 w) w fun t5 w =>
  xWhen t4 false (fun K => xEq P .eql 23 false true t5 (Value.pointer none) w K) w fun t6 w =>
  xPick t4 (Value.bool true) t6 w fun t7 w =>
  xIf t7
  (R (Value.bool false) w)
  (xBuildSlice P 22 5 [(0, (Value.int IntKind.u8 97)), (1, (Value.int IntKind.u8 98)), (2, (Value.int IntKind.u8 99)), (3, (Value.int IntKind.u8 100)), (4, (Value.int IntKind.u8 101))] w fun t8 w =>
  xConvK P .more 22 22 t8 w fun t9 w =>
  xCall P nr.disk_Disk_Append [t2, (Value.string { data := #[97] }), t9] w fun t10 w =>
  xCall P nr.disk_Disk_Sync [t2, (Value.string { data := #[97] })] w fun t11 w =>
  xBuildSlice P 22 3 [(0, (Value.int IntKind.u8 120)), (1, (Value.int IntKind.u8 121)), (2, (Value.int IntKind.u8 122))] w fun t12 w =>
  xConvK P .more 22 22 t12 w fun t13 w =>
  xCall P nr.disk_Disk_Append [t2, (Value.string { data := #[97] }), t13] w fun t14 w =>
  xCall P nr.disk_Disk_Copy [t2] w fun t15 w =>
  xCall P nr.disk_Disk_Crash [t2, (Value.int IntKind.i64 1)] w fun t16 w =>
  xCall P nr.disk_Disk_Read [t2, (Value.string { data := #[97] })] w fun t17 w =>
  xExtract t17 0 w fun t18 w =>
  xExtract t17 1 w fun t19 w =>
  xEq P .eql 3 false true t10 (Value.int IntKind.i64 0) w fun t20 w =>
  xWhen t20 true (fun K => K t11 w) w fun t21 w =>
  xWhen t20 true (fun K => xEq P .eql 3 false true t21 (Value.int IntKind.i64 0) w K) w fun t22 w =>
  xPick t20 t22 (Value.bool false) w fun t23 w =>
  xWhen t23 true (fun K => K t19 w) w fun t24 w =>
  xWhen t23 true (fun K => xEq P .eql 3 false true t24 (Value.int IntKind.i64 0) w K) w fun t25 w =>
  xPick t23 t25 (Value.bool false) w fun t26 w =>
  xWhen t26 true (fun K => K t18 w) w fun t27 w =>
  xWhen t26 true (fun K => xConvK P .read 22 9 t27 w K) w fun t28 w =>
  xWhen t26 true (fun K => xEq P .eql 9 false true t28 (Value.string { data := #[97, 98, 99, 100, 101, 120] }) w K) w fun t29 w =>
  xPick t26 t29 (Value.bool false) w fun t30 w =>
  xWhen t30 true (fun K => K t2 w) w fun t31 w =>
  xWhen t30 true (fun K => xCall P nr.disk_Disk_Synced [t31, (Value.string { data := #[97] })] w K) w fun t32 w =>
  xWhen t30 true (fun K => xEq P .eql 3 false true t32 (Value.int IntKind.i64 6) w K) w fun t33 w =>
  xPick t30 t33 (Value.bool false) w fun t34 w =>
  xWhen t34 true (fun K => K t15 w) w fun t35 w =>
  xWhen t34 true (fun K => xCall P nr.disk_Disk_Used [t35] w K) w fun t36 w =>
  xWhen t34 true (fun K => xEq P .eql 3 false true t36 (Value.int IntKind.i64 8) w K) w fun t37 w =>
  xPick t34 t37 (Value.bool false) w fun t38 w =>
  xWhen t38 true (fun K => K t2 w) w fun t39 w =>
  xWhen t38 true (fun K => xMakeSlice P 22 (Value.int IntKind.i64 15) (Value.int IntKind.i64 15) w K) w fun t40 w =>
  xWhen t38 true (fun K => xCall P nr.disk_Disk_Append [t39, (Value.string { data := #[97] }), t40] w K) w fun t41 w =>
  xWhen t38 true (fun K => xEq P .eql 3 false true t41 (Value.int IntKind.i64 4) w K) w fun t42 w =>
  xPick t38 t42 (Value.bool false) w fun t43 w =>
  xWhen t43 true (fun K => K t2 w) w fun t44 w =>
  xWhen t43 true (fun K => xCall P nr.disk_Disk_Rename [t44, (Value.string { data := #[97] }), (Value.string { data := #[98] })] w K) w fun t45 w =>
  xWhen t43 true (fun K => xEq P .eql 3 false true t45 (Value.int IntKind.i64 0) w K) w fun t46 w =>
  xPick t43 t46 (Value.bool false) w fun t47 w =>
  xWhen t47 true (fun K => K t2 w) w fun t48 w =>
  xWhen t47 true (fun K => xCall P nr.disk_Disk_Sync [t48, (Value.string { data := #[97] })] w K) w fun t49 w =>
  xWhen t47 true (fun K => xEq P .eql 3 false true t49 (Value.int IntKind.i64 5) w K) w fun t50 w =>
  xPick t47 t50 (Value.bool false) w fun t51 w =>
  xWhen t51 true (fun K => K t2 w) w fun t52 w =>
  xWhen t51 true (fun K => xCall P nr.disk_Disk_Names [t52] w K) w fun t53 w =>
  xWhen t51 true (fun K => xLen P .pure #[34] t53 w K) w fun t54 w =>
  xWhen t51 true (fun K => xEq P .eql 3 false true t54 (Value.int IntKind.i64 1) w K) w fun t55 w =>
  xPick t51 t55 (Value.bool false) w fun t56 w =>
  xWhen t56 true (fun K => K t2 w) w fun t57 w =>
  xWhen t56 true (fun K => xCall P nr.disk_Disk_Remove [t57, (Value.string { data := #[98] })] w K) w fun t58 w =>
  xWhen t56 true (fun K => xEq P .eql 3 false true t58 (Value.int IntKind.i64 0) w K) w fun t59 w =>
  xPick t56 t59 (Value.bool false) w fun t60 w =>
  xWhen t60 true (fun K => K t2 w) w fun t61 w =>
  xWhen t60 true (fun K => xCall P nr.disk_Disk_Used [t61] w K) w fun t62 w =>
  xWhen t60 true (fun K => xEq P .eql 3 false true t62 (Value.int IntKind.i64 0) w K) w fun t63 w =>
  xPick t60 t63 (Value.bool false) w fun t64 w =>
  R t64 w)
theorem law5_told_ok {R : VCont} {w : World} (h : law5_told_main R w) : Calls P nr.law5_told [].toArray w (Ret R) :=
  calls_of_sx (P := P) (fn := Try.f12) (Os := (fun _ => .no)) (Es := []) (args := []) mixed (by kernel_rfl) (by kernel_rfl) (by kernel_rfl) (by kernel_rfl) (by kernel_rfl) (by kernel_rfl) (by kernel_rfl)
    (Eq.mp (show law5_told_main R w = sxh P (fun _ => .no) [] [] 0 (bodyOf Try.f12) (retQ P Try.f12.results.toList R) (envOf []) w by kernel_rfl) h)
theorem law5_told_call {R : VCont} {w : World} (h : law5_told_main R w) : xCall P nr.law5_told [] w R :=
  xCall_of (P := P) (fn := Try.f12) (by kernel_rfl) (by kernel_rfl) (by kernel_rfl) (law5_told_ok h)

end Go.Proofs.Ytamejkogghpbhaa
end
section
/- The laws of layer 5: what 'told' does; DiskStays. -/
set_option linter.unusedVariables false
set_option linter.unusedSimpArgs false
namespace Go.Proofs.Ytamejkogghpbhaa
open Go.Sx
/-- a disk that has come since w0, and nothing that was there at w0 has turned -/
structure DI (w0 w : World) (d room : Nat) (D : Ab) (F : Nat → Prop) : Prop where
  disk : Disk w d room D F
  new : ∀ b, F b → w0.heap.size ≤ b
  chg : Chg none' w0 w
theorem DI.keep' {w0 w w' : World} {d room : Nat} {D : Ab} {F : Nat → Prop} (h : DI w0 w d room D F) (hc : Chg none' w w') : DI w0 w' d room D F := ⟨h.disk.keep' hc, h.new, h.chg.trans hc⟩
theorem DI.eq {w0 w : World} {d room : Nat} {D D' : Ab} {F : Nat → Prop} (h : DI w0 w d room D F) (e : D = D') : DI w0 w d room D' F := e ▸ h
theorem DI.step {w0 w w' : World} {d room : Nat} {D D' : Ab} {F F' : Nat → Prop} (h : DI w0 w d room D F) (hd : Disk w' d room D' F') (hc : Chg F w w') (hm : Moves F F' w) : DI w0 w' d room D' F' := by
  have hs := h.chg.size
  refine ⟨hd, fun b hb => ?_, h.chg.then hc fun b hb hF => ?_⟩
  · rcases hm b hb with h1 | h1
    · exact h.new b h1
    · omega
  · have := h.new b hF; omega
theorem freeze_cell (w : World) (a b : Addr) (n : Nat) : (w.freeze a n).cell? b = w.cell? b := by
  unfold World.freeze
  split
  · rfl
  · unfold World.cell?
    simp only [Array.getElem?_modify]
    by_cases h : a.block = b.block
    · rw [if_pos h]
      cases w.heap[b.block]? with
      | none => rfl
      | some o => cases o <;> rfl
    · rw [if_neg h]
theorem freeze_chg (w : World) (a : Addr) (n : Nat) : Chg (· = a.block) w (w.freeze a n) := by
  unfold World.freeze
  split
  · exact Chg.refl _ _
  · exact ⟨rfl, rfl, rfl, by simp, fun b _ hb => by simp only [Array.getElem?_modify]; rw [if_neg fun h => hb h.symm]⟩
/-- a slice of bytes, converted to its own type: its block gets a mark -/
theorem conv_bytes {w : World} {K : VCont} (g : Addr) (n c : Nat) (hK : ∀ w', (∀ a, w'.cell? a = w.cell? a) → Chg (· = g.block) w w' → K (.slice (some g) n c) w') : xConvK P .more 22 22 (.slice (some g) n c) w K := by
  have h : ∃ w', (convert 22 22 (.slice (some g) n c)).run P w = .ok (.slice (some g) n c) w' ∧ (∀ a, w'.cell? a = w.cell? a) ∧ Chg (· = g.block) w w' := by
    cases hs : w.shape? g.block with
    | none => exact ⟨w, by simp [convert, run_underlying (P := P) und.s_uint8, run_underlying (P := P) und.uint8, markStringish, hs], fun _ => rfl, Chg.refl _ _⟩
    | some p => exact ⟨w.freeze { block := g.block, off := p.2 } 1, by simp [convert, run_underlying (P := P) und.s_uint8, run_underlying (P := P) und.uint8, markStringish, hs], fun b => freeze_cell _ _ _ _, freeze_chg w { block := g.block, off := p.2 } 1⟩
  obtain ⟨w', hr, h1, h2⟩ := h
  unfold xConvK
  rw [xv_iff hr]
  exact hK w' h1 h2
/-- bytes that are written out -/
theorem lit_bytes {w : World} {K : VCont} {n : Nat} {ps : List (Nat × Value)} (l : List UInt8) (hn : l.length = n) (hps : ps = ((l.map bv).zipIdx 0).map fun p => (p.2, p.1)) (hbig : n ≤ 16777216)
    (hK : ∀ v w', Rd w' v (l.map bv) → Chg none' w w' → K v w') : xBuildSlice P 22 n ps w fun t w => xConvK P .more 22 22 t w K := by
  refine buildSlice_step und.s_uint8 inf.uint8 rfl rfl rfl (by simpa using hn) hps (bv_one l) hbig ?_
  intro v w' ho hb hc hs
  have hr := ho.rd
  have hr' := hr
  obtain ⟨a, cap, rfl, hl, hcell⟩ := hr
  cases a with
  | none => cases hb
  | some g =>
    refine conv_bytes g _ _ ?_
    intro w2 h1 h2
    have hgb : g.block = w.heap.size := by simpa [Value.ownBlock] using hb
    refine hK _ _ ⟨some g, cap, rfl, hl, fun i u hu => (h1 _).trans (hcell i u hu)⟩ (hc.then h2 fun b hb hbg => by omega)
theorem told_spec {w : World} {K : VCont} (hK : ∀ w', Chg none' w w' → K (.bool true) w') : xCall P nr.law5_told [] w K := by
  refine law5_told_call ?_
  unfold law5_told_main
  refine New_good 20 (by omega) ?_
  intro d w1 F1 h1 hn1 hc1
  have h : DI w w1 d 20 [] F1 := ⟨h1, hn1, hc1⟩
  simp only [xs, xb, decide_true, Bool.not_true]
  rw [xEq_ptr und.p_disk_Disk]
  simp only [xs, xb, Option.isNone_some, cond_false]
  refine lit_bytes [97, 98, 99, 100, 101] rfl (by kernel_rfl) (by omega) ?_
  intro v2 w2 hr2 hc2
  have h := h.keep' hc2
  refine Append_spec h.disk (by simp) _ hr2 (by simp) (fun e => absurd e (by decide)) ?_ ?_
  · intro _ hx; exact absurd hx (by decide)
  intro _ _ w3 F3 hd3 hc3 hm3
  have h := (h.step hd3 hc3 hm3).eq (D' := [(⟨#[97]⟩, [97, 98, 99, 100, 101], 0)]) (by kernel_rfl)
  refine Sync_spec h.disk _ (fun e => absurd e (by decide)) ?_
  intro x4 hx4 w4 F4 hd4 hc4 hm4
  cases hx4
  have h := (h.step hd4 hc4 hm4).eq (D' := [(⟨#[97]⟩, [97, 98, 99, 100, 101], 5)]) (by kernel_rfl)
  refine lit_bytes [120, 121, 122] rfl (by kernel_rfl) (by omega) ?_
  intro v5 w5 hr5 hc5
  have h := h.keep' hc5
  refine Append_spec h.disk (by simp) _ hr5 (by simp) (fun e => absurd e (by decide)) ?_ ?_
  · intro _ hx; exact absurd hx (by decide)
  intro _ _ w6 F6 hd6 hc6 hm6
  have h := (h.step hd6 hc6 hm6).eq (D' := [(⟨#[97]⟩, [97, 98, 99, 100, 101, 120, 121, 122], 5)]) (by kernel_rfl)
  refine Copy_spec h.disk ?_
  intro c w7 D7 F7 hd7 hp7 hn7 hc7
  have hD7 := List.perm_singleton.1 hp7
  subst hD7
  have h := h.keep' hc7
  -- the copy's blocks are not the disk's
  have hcF : ∀ b, F7 b → ¬ F6 b := fun b hb hb6 => by have := hn7 b hb; have := hd6.lt hb6; omega
  refine Crash_spec h.disk (by simp) 1 (by omega) ?_
  intro w8 F8 hd8 hc8 hm8
  have hcp := hd7.keep hc8 hcF
  have hcF8 : ∀ b, F7 b → ¬ F8 b := fun b hb hb8 => by
    rcases hm8 b hb8 with h | h
    · exact hcF b hb h
    · have := hd7.lt hb; omega
  have h := (h.step hd8 hc8 hm8).eq (D' := [(⟨#[97]⟩, [97, 98, 99, 100, 101, 120], 6)]) (by kernel_rfl)
  refine Read_spec h.disk _ (fun e => absurd e (by decide)) ?_
  intro x9 hx9 v9 w9 ho9 hg9 hc9
  cases hx9
  have h := h.keep' hc9
  have hcp := hcp.keep' hc9
  simp only [xs, xb, xd]
  rw [bytes_string und.s_uint8 und.uint8 und.string ho9.rd]
  rw [xEq_str]
  have e9 : decide ((⟨[97, 98, 99, 100, 101, 120].toArray⟩ : ByteArray) = ⟨#[97, 98, 99, 100, 101, 120]⟩) = true := by decide
  simp only [e9, xs, xb, xd]
  refine Synced_spec h.disk _ ?_
  have e10 : ((asyn [((⟨#[97]⟩ : ByteArray), [(97 : UInt8), 98, 99, 100, 101, 120], 6)] ⟨#[97]⟩ : Nat) : Int) = 6 := by kernel_rfl
  rw [e10]
  simp only [xs, xb, xd]
  refine Used_spec hcp (by simp) ?_
  intro w11 hc11
  have h := h.keep' hc11
  have e11 : ((aused [((⟨#[97]⟩ : ByteArray), [(97 : UInt8), 98, 99, 100, 101, 120, 121, 122], 5)] : Nat) : Int) = 8 := by kernel_rfl
  rw [e11]
  simp only [xs, xb, xd]
  refine make_step (n := 15) (size := 1) und.s_uint8 inf.uint8 rfl rfl (by omega) (by decide) (by decide) ?_
  intro v12 w12 ho12 hb12 hc12
  have h := h.keep' hc12
  have em : (madeCells (Value.int .u8 0).cells (15 * 1)).toList = (List.replicate 15 (0 : UInt8)).map bv := by kernel_rfl
  have ho12 : Rd w12 v12 ((List.replicate 15 (0 : UInt8)).map bv) := em ▸ ho12.rd
  refine Append_spec h.disk (by simp) _ ho12 (by simp) (fun e => absurd e (by decide)) ?_ ?_
  case refine_2 => intro _ hx; exact absurd hx (by decide)
  intro _ _ w13 hc13
  have h := h.keep' hc13
  simp only [xs, xb, xd]
  refine Rename_spec h.disk _ _ (fun e => absurd e (by decide)) (fun _ _ e => absurd e (by decide)) ?_
  intro x14 hx14 _ w14 F14 hd14 hc14 hm14
  cases hx14
  have h := (h.step hd14 hc14 hm14).eq (D' := [(⟨#[98]⟩, [97, 98, 99, 100, 101, 120], 6)]) (by kernel_rfl)
  simp only [xs, xb, xd]
  refine Sync_spec h.disk _ ?_ (fun x e => nomatch (show (none : Option (List UInt8 × Nat)) = some x from e))
  intro _
  simp only [xs, xb, xd]
  refine Names_spec h.disk (by simp) ?_
  intro v15 w15 ho15 hg15 hc15
  have h := h.keep' hc15
  refine len_own und.s_string ho15 ?_
  have e15 : (([((⟨#[98]⟩ : ByteArray), [(97 : UInt8), 98, 99, 100, 101, 120], 6)].length : Nat) : Int) = 1 := by kernel_rfl
  rw [e15]
  simp only [xs, xb, xd]
  refine Remove_spec h.disk _ (fun e => absurd e (by decide)) ?_
  intro x16 hx16 w16 F16 hd16 hc16 hm16
  have h := (h.step hd16 hc16 hm16).eq (D' := []) (by kernel_rfl)
  simp only [xs, xb, xd]
  refine Used_spec h.disk (by simp) ?_
  intro w17 hc17
  have h := h.keep' hc17
  have e17 : ((aused [] : Nat) : Int) = 0 := by kernel_rfl
  rw [e17]
  simp only [xs, xb, xd]
  exact hK _ h.chg
end Go.Proofs.Ytamejkogghpbhaa
end
section
/- The disk, side by side with others: its contracts. -/
set_option linter.unusedVariables false
set_option linter.unusedSimpArgs false
namespace Go.Proofs.Ytamejkogghpbhaa
open Go.Sx
def DiskA (d room : Nat) (D : Ab) : Asn where
  holds w F := Disk w d room D F
  keep := fun h hc hn => h.keep hc hn
  lt := fun h hb => h.lt hb
def adel (D : Ab) (a : ByteArray) : Ab × Int := match aget D a with | none => (D, 5) | some _ => (arem D a, 0)
def async (D : Ab) (a : ByteArray) : Ab × Int := match aget D a with | none => (D, 5) | some x => (aset D a (x.1, x.1.length), 0)
def acut (D : Ab) (a : ByteArray) (n : Int) : Ab × Int := match aget D a with
  | none => (D, 5)
  | some x => if n < 0 ∨ (x.1.length : Int) < n then (D, 3) else (aset D a (x.1.take n.toNat, n.toNat), 0)
def aren (D : Ab) (a c : ByteArray) : Ab × Int := match aget D a with
  | none => (D, 5)
  | some x => if mayB c then (aput (arem D a) c x, 0) else (D, 1)
def aapp (room : Nat) (D : Ab) (a : ByteArray) (bs : List UInt8) : Ab × Int :=
  if mayB a then if room < aused D + bs.length then (D, 4) else (aput D a ((aold D a).1 ++ bs, (aold D a).2), 0) else (D, 1)
section
variable {w : World} {K : VCont} {d room : Nat} {D : Ab} {l : List Asn}
theorem Used_hp (h : Hp w (DiskA d room D :: l)) (hl : D.length ≤ 1000000) (hK : ∀ w', Hp w' (DiskA d room D :: l) → K (i64 (aused D)) w') : xCall P nr.disk_Disk_Used [ptr d] w K := by
  obtain ⟨F, hF, fr⟩ := h.frame1
  exact Used_spec (show Disk w d room D F from hF) hl fun w' hc => hK w' (h.keep' hc)
theorem Names_hp (h : Hp w (DiskA d room D :: l)) (hl : D.length ≤ 1000000) (hK : ∀ v w', Hp w' (SlA ty.string 1 v D.length ((names D).map .string) :: DiskA d room D :: l) → K v w') : xCall P nr.disk_Disk_Names [ptr d] w K := by
  obtain ⟨F, hF, fr⟩ := h.frame1
  exact Names_spec (show Disk w d room D F from hF) hl fun v w' ho hb hc => hK v w' (h.new (A := SlA ty.string 1 v _ _) (F := fun b => v.ownBlock = some b) ⟨ho, fun _ => Iff.rfl⟩ (fun b e => hb b e) hc)
theorem Read_hp (h : Hp w (DiskA d room D :: l)) (a : ByteArray) (hN : aget D a = none → K (.tuple #[.slice none 0 0, i64 5]) w)
    (hK : ∀ x, aget D a = some x → ∀ v w', Hp w' (SlA ty.uint8 1 v x.1.length (x.1.map bv) :: DiskA d room D :: l) → K (.tuple #[v, i64 0]) w') : xCall P nr.disk_Disk_Read [ptr d, .string a] w K := by
  obtain ⟨F, hF, fr⟩ := h.frame1
  exact Read_spec (show Disk w d room D F from hF) a hN fun x hx v w' ho hb hc => hK x hx v w' (h.new (A := SlA ty.uint8 1 v _ _) (F := fun b => v.ownBlock = some b) ⟨ho, fun _ => Iff.rfl⟩ (fun b e => hb b e) hc)
theorem Synced_hp (h : Hp w (DiskA d room D :: l)) (a : ByteArray) (hK : K (i64 (asyn D a)) w) : xCall P nr.disk_Disk_Synced [ptr d, .string a] w K := by
  obtain ⟨F, hF, fr⟩ := h.frame1
  exact Synced_spec (show Disk w d room D F from hF) a hK
theorem Remove_hp (h : Hp w (DiskA d room D :: l)) (a : ByteArray) (hK : ∀ w', Hp w' (DiskA d room (adel D a).1 :: l) → K (i64 (adel D a).2) w') : xCall P nr.disk_Disk_Remove [ptr d, .string a] w K := by
  obtain ⟨F, hF, fr⟩ := h.frame1
  refine Remove_spec (show Disk w d room D F from hF) a ?_ ?_
  · intro hn; unfold adel at hK; rw [hn] at hK; exact hK w h
  · intro x hx w' F' hd hc hm
    unfold adel at hK; rw [hx] at hK
    exact hK w' (fr w' F' (DiskA d room _) hd hc hm)
theorem Sync_hp (h : Hp w (DiskA d room D :: l)) (a : ByteArray) (hK : ∀ w', Hp w' (DiskA d room (async D a).1 :: l) → K (i64 (async D a).2) w') : xCall P nr.disk_Disk_Sync [ptr d, .string a] w K := by
  obtain ⟨F, hF, fr⟩ := h.frame1
  refine Sync_spec (show Disk w d room D F from hF) a ?_ ?_
  · intro hn; unfold async at hK; rw [hn] at hK; exact hK w h
  · intro x hx w' F' hd hc hm
    unfold async at hK; rw [hx] at hK
    exact hK w' (fr w' F' (DiskA d room _) hd hc hm)
theorem Cut_hp (h : Hp w (DiskA d room D :: l)) (a : ByteArray) (n : Int) (hK : ∀ w', Hp w' (DiskA d room (acut D a n).1 :: l) → K (i64 (acut D a n).2) w') : xCall P nr.disk_Disk_Cut [ptr d, .string a, i64 n] w K := by
  obtain ⟨F, hF, fr⟩ := h.frame1
  refine Cut_spec (show Disk w d room D F from hF) a n ?_ ?_ ?_
  · intro hn; unfold acut at hK; rw [hn] at hK; exact hK w h
  · intro x hx hr; unfold acut at hK; rw [hx] at hK; simp only [hr, if_true] at hK; exact hK w h
  · intro x k hx hn hk w' F' hd hc hm
    unfold acut at hK; rw [hx] at hK
    have : ¬ (n < 0 ∨ (x.1.length : Int) < n) := by omega
    simp only [this, if_false] at hK
    refine hK w' (fr w' F' (DiskA d room _) ?_ hc hm)
    rw [hn]; exact hd
theorem Rename_hp (h : Hp w (DiskA d room D :: l)) (a c : ByteArray) (hK : ∀ w', Hp w' (DiskA d room (aren D a c).1 :: l) → K (i64 (aren D a c).2) w') : xCall P nr.disk_Disk_Rename [ptr d, .string a, .string c] w K := by
  obtain ⟨F, hF, fr⟩ := h.frame1
  refine Rename_spec (show Disk w d room D F from hF) a c ?_ ?_ ?_
  · intro hn; unfold aren at hK; rw [hn] at hK; exact hK w h
  · intro x hx hr; unfold aren at hK; rw [hx] at hK; simp only [hr] at hK; exact hK w h
  · intro x hx hr w' F' hd hc hm
    unfold aren at hK; rw [hx] at hK; simp only [hr, if_true] at hK
    exact hK w' (fr w' F' (DiskA d room _) hd hc hm)
theorem Append_hp (h : Hp w (DiskA d room D :: l)) (hl : D.length ≤ 1000000) (a : ByteArray) {v : Value} {bs : List UInt8} (hr : Rd w v (bs.map bv)) (hbs : bs.length ≤ 1000000)
    (hK : ∀ w', Hp w' (DiskA d room (aapp room D a bs).1 :: l) → K (i64 (aapp room D a bs).2) w') : xCall P nr.disk_Disk_Append [ptr d, .string a, v] w K := by
  obtain ⟨F, hF, fr⟩ := h.frame1
  refine Append_spec (show Disk w d room D F from hF) hl a hr hbs ?_ ?_ ?_
  · intro hn; unfold aapp at hK; rw [hn] at hK; exact hK w h
  · intro hm hr w' hc; unfold aapp at hK; simp only [hm, hr, if_true] at hK; exact hK w' (h.keep' hc)
  · intro hm hr w' F' hd hc hmv
    unfold aapp at hK; simp only [hm, if_true] at hK
    rw [if_neg (by omega)] at hK
    exact hK w' (fr w' F' (DiskA d room _) hd hc hmv)
theorem Crash_hp (h : Hp w (DiskA d room D :: l)) (hl : D.length ≤ 1000000) (keep : Int) (hk : -9223372036854775808 ≤ keep ∧ keep ≤ 9223372036854775807)
    (hK : ∀ w', Hp w' (DiskA d room (acrash keep D) :: l) → K (.tuple #[]) w') : xCall P nr.disk_Disk_Crash [ptr d, i64 keep] w K := by
  obtain ⟨F, hF, fr⟩ := h.frame1
  exact Crash_spec (show Disk w d room D F from hF) hl keep hk fun w' F' hd hc hm => hK w' (fr w' F' (DiskA d room _) hd hc hm)
theorem Copy_hp (h : Hp w (DiskA d room D :: l)) (hK : ∀ c D' w', D'.Perm D → Hp w' (DiskA c room D' :: DiskA d room D :: l) → K (ptr c) w') : xCall P nr.disk_Disk_Copy [ptr d] w K := by
  obtain ⟨F, hF, fr⟩ := h.frame1
  refine Copy_spec (show Disk w d room D F from hF) ?_
  intro c w' D' F' hd hp hn hc
  exact hK c D' w' hp (h.new (A := DiskA c room D') (F := F') hd hn hc)
theorem New_hp (h : Hp w l) (n : Nat) (hn : n ≤ 1000000) (hK : ∀ d w', Hp w' (DiskA d n [] :: l) → K (.tuple #[ptr d, i64 0]) w') : xCall P nr.disk_New [i64 n] w K := by
  refine New_good n hn ?_
  intro d w' F hd hF hc
  exact hK d w' (h.new (A := DiskA d n []) (F := F) hd hF hc)
theorem told5_hp (h : Hp w l) (hK : ∀ w', Hp w' l → K (.bool true) w') : xCall P nr.law5_told [] w K := told_spec fun w' hc => hK w' (h.keep' hc)
end
end Go.Proofs.Ytamejkogghpbhaa
end
