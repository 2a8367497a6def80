/- The laws of layer 5: what 'told' does; DiskStays. -/
import Derived.Test.YtamejkogghpbhaaDisk6
import Derived.Test.YtamejkogghpbhaaTxtTold5
set_option linter.unusedVariables false
set_option linter.unusedSimpArgs false
namespace Go.Proofs.Ytamejkogghpbhaa
open Go.Sx
/-- a disk that has come since w0, and nothing that was there at w0 has turned -/
structure DI (w0 w : World) (d room : Nat) (D : Ab) (F : Nat → Prop) : Prop where
  disk : Disk w d room D F
  new : ∀ b, F b → w0.heap.size ≤ b
  chg : Chg none' w0 w
theorem DI.keep' {w0 w w' : World} {d room : Nat} {D : Ab} {F : Nat → Prop} (h : DI w0 w d room D F) (hc : Chg none' w w') : DI w0 w' d room D F := ⟨h.disk.keep' hc, h.new, h.chg.trans hc⟩
theorem DI.eq {w0 w : World} {d room : Nat} {D D' : Ab} {F : Nat → Prop} (h : DI w0 w d room D F) (e : D = D') : DI w0 w d room D' F := e ▸ h
theorem DI.step {w0 w w' : World} {d room : Nat} {D D' : Ab} {F F' : Nat → Prop} (h : DI w0 w d room D F) (hd : Disk w' d room D' F') (hc : Chg F w w') (hm : Moves F F' w) : DI w0 w' d room D' F' := by
  have hs := h.chg.size
  refine ⟨hd, fun b hb => ?_, h.chg.then hc fun b hb hF => ?_⟩
  · rcases hm b hb with h1 | h1
    · exact h.new b h1
    · omega
  · have := h.new b hF; omega
theorem freeze_cell (w : World) (a b : Addr) (n : Nat) : (w.freeze a n).cell? b = w.cell? b := by
  unfold World.freeze
  split
  · rfl
  · unfold World.cell?
    simp only [Array.getElem?_modify]
    by_cases h : a.block = b.block
    · rw [if_pos h]
      cases w.heap[b.block]? with
      | none => rfl
      | some o => cases o <;> rfl
    · rw [if_neg h]
theorem freeze_chg (w : World) (a : Addr) (n : Nat) : Chg (· = a.block) w (w.freeze a n) := by
  unfold World.freeze
  split
  · exact Chg.refl _ _
  · exact ⟨rfl, rfl, rfl, by simp, fun b _ hb => by simp only [Array.getElem?_modify]; rw [if_neg fun h => hb h.symm]⟩
/-- a slice of bytes, converted to its own type: its block gets a mark -/
theorem conv_bytes {w : World} {K : VCont} (g : Addr) (n c : Nat) (hK : ∀ w', (∀ a, w'.cell? a = w.cell? a) → Chg (· = g.block) w w' → K (.slice (some g) n c) w') : xConvK P .more 22 22 (.slice (some g) n c) w K := by
  have h : ∃ w', (convert 22 22 (.slice (some g) n c)).run P w = .ok (.slice (some g) n c) w' ∧ (∀ a, w'.cell? a = w.cell? a) ∧ Chg (· = g.block) w w' := by
    cases hs : w.shape? g.block with
    | none => exact ⟨w, by simp [convert, run_underlying (P := P) und.s_uint8, run_underlying (P := P) und.uint8, markStringish, hs], fun _ => rfl, Chg.refl _ _⟩
    | some p => exact ⟨w.freeze { block := g.block, off := p.2 } 1, by simp [convert, run_underlying (P := P) und.s_uint8, run_underlying (P := P) und.uint8, markStringish, hs], fun b => freeze_cell _ _ _ _, freeze_chg w { block := g.block, off := p.2 } 1⟩
  obtain ⟨w', hr, h1, h2⟩ := h
  unfold xConvK
  rw [xv_iff hr]
  exact hK w' h1 h2
/-- bytes that are written out -/
theorem lit_bytes {w : World} {K : VCont} {n : Nat} {ps : List (Nat × Value)} (l : List UInt8) (hn : l.length = n) (hps : ps = ((l.map bv).zipIdx 0).map fun p => (p.2, p.1)) (hbig : n ≤ 16777216)
    (hK : ∀ v w', Rd w' v (l.map bv) → Chg none' w w' → K v w') : xBuildSlice P 22 n ps w fun t w => xConvK P .more 22 22 t w K := by
  refine buildSlice_step und.s_uint8 inf.uint8 rfl rfl rfl (by simpa using hn) hps (bv_one l) hbig ?_
  intro v w' ho hb hc hs
  have hr := ho.rd
  have hr' := hr
  obtain ⟨a, cap, rfl, hl, hcell⟩ := hr
  cases a with
  | none => cases hb
  | some g =>
    refine conv_bytes g _ _ ?_
    intro w2 h1 h2
    have hgb : g.block = w.heap.size := by simpa [Value.ownBlock] using hb
    refine hK _ _ ⟨some g, cap, rfl, hl, fun i u hu => (h1 _).trans (hcell i u hu)⟩ (hc.then h2 fun b hb hbg => by omega)
theorem told_spec {w : World} {K : VCont} (hK : ∀ w', Chg none' w w' → K (.bool true) w') : xCall P nr.law5_told [] w K := by
  refine law5_told_call ?_
  unfold law5_told_main
  refine New_good 20 (by omega) ?_
  intro d w1 F1 h1 hn1 hc1
  have h : DI w w1 d 20 [] F1 := ⟨h1, hn1, hc1⟩
  simp only [xs, xb, decide_true, Bool.not_true]
  rw [xEq_ptr und.p_disk_Disk]
  simp only [xs, xb, Option.isNone_some, cond_false]
  refine lit_bytes [97, 98, 99, 100, 101] rfl (by kernel_rfl) (by omega) ?_
  intro v2 w2 hr2 hc2
  have h := h.keep' hc2
  refine Append_spec h.disk (by simp) _ hr2 (by simp) (fun e => absurd e (by decide)) ?_ ?_
  · intro _ hx; exact absurd hx (by decide)
  intro _ _ w3 F3 hd3 hc3 hm3
  have h := (h.step hd3 hc3 hm3).eq (D' := [(⟨#[97]⟩, [97, 98, 99, 100, 101], 0)]) (by kernel_rfl)
  refine Sync_spec h.disk _ (fun e => absurd e (by decide)) ?_
  intro x4 hx4 w4 F4 hd4 hc4 hm4
  cases hx4
  have h := (h.step hd4 hc4 hm4).eq (D' := [(⟨#[97]⟩, [97, 98, 99, 100, 101], 5)]) (by kernel_rfl)
  refine lit_bytes [120, 121, 122] rfl (by kernel_rfl) (by omega) ?_
  intro v5 w5 hr5 hc5
  have h := h.keep' hc5
  refine Append_spec h.disk (by simp) _ hr5 (by simp) (fun e => absurd e (by decide)) ?_ ?_
  · intro _ hx; exact absurd hx (by decide)
  intro _ _ w6 F6 hd6 hc6 hm6
  have h := (h.step hd6 hc6 hm6).eq (D' := [(⟨#[97]⟩, [97, 98, 99, 100, 101, 120, 121, 122], 5)]) (by kernel_rfl)
  refine Copy_spec h.disk ?_
  intro c w7 D7 F7 hd7 hp7 hn7 hc7
  have hD7 := List.perm_singleton.1 hp7
  subst hD7
  have h := h.keep' hc7
  -- the copy's blocks are not the disk's
  have hcF : ∀ b, F7 b → ¬ F6 b := fun b hb hb6 => by have := hn7 b hb; have := hd6.lt hb6; omega
  refine Crash_spec h.disk (by simp) 1 (by omega) ?_
  intro w8 F8 hd8 hc8 hm8
  have hcp := hd7.keep hc8 hcF
  have hcF8 : ∀ b, F7 b → ¬ F8 b := fun b hb hb8 => by
    rcases hm8 b hb8 with h | h
    · exact hcF b hb h
    · have := hd7.lt hb; omega
  have h := (h.step hd8 hc8 hm8).eq (D' := [(⟨#[97]⟩, [97, 98, 99, 100, 101, 120], 6)]) (by kernel_rfl)
  refine Read_spec h.disk _ (fun e => absurd e (by decide)) ?_
  intro x9 hx9 v9 w9 ho9 hg9 hc9
  cases hx9
  have h := h.keep' hc9
  have hcp := hcp.keep' hc9
  simp only [xs, xb, xd]
  rw [bytes_string und.s_uint8 und.uint8 und.string ho9.rd]
  rw [xEq_str]
  have e9 : decide ((⟨[97, 98, 99, 100, 101, 120].toArray⟩ : ByteArray) = ⟨#[97, 98, 99, 100, 101, 120]⟩) = true := by decide
  simp only [e9, xs, xb, xd]
  refine Synced_spec h.disk _ ?_
  have e10 : ((asyn [((⟨#[97]⟩ : ByteArray), [(97 : UInt8), 98, 99, 100, 101, 120], 6)] ⟨#[97]⟩ : Nat) : Int) = 6 := by kernel_rfl
  rw [e10]
  simp only [xs, xb, xd]
  refine Used_spec hcp (by simp) ?_
  intro w11 hc11
  have h := h.keep' hc11
  have e11 : ((aused [((⟨#[97]⟩ : ByteArray), [(97 : UInt8), 98, 99, 100, 101, 120, 121, 122], 5)] : Nat) : Int) = 8 := by kernel_rfl
  rw [e11]
  simp only [xs, xb, xd]
  refine make_step (n := 15) (size := 1) und.s_uint8 inf.uint8 rfl rfl (by omega) (by decide) (by decide) ?_
  intro v12 w12 ho12 hb12 hc12
  have h := h.keep' hc12
  have em : (madeCells (Value.int .u8 0).cells (15 * 1)).toList = (List.replicate 15 (0 : UInt8)).map bv := by kernel_rfl
  have ho12 : Rd w12 v12 ((List.replicate 15 (0 : UInt8)).map bv) := em ▸ ho12.rd
  refine Append_spec h.disk (by simp) _ ho12 (by simp) (fun e => absurd e (by decide)) ?_ ?_
  case refine_2 => intro _ hx; exact absurd hx (by decide)
  intro _ _ w13 hc13
  have h := h.keep' hc13
  simp only [xs, xb, xd]
  refine Rename_spec h.disk _ _ (fun e => absurd e (by decide)) (fun _ _ e => absurd e (by decide)) ?_
  intro x14 hx14 _ w14 F14 hd14 hc14 hm14
  cases hx14
  have h := (h.step hd14 hc14 hm14).eq (D' := [(⟨#[98]⟩, [97, 98, 99, 100, 101, 120], 6)]) (by kernel_rfl)
  simp only [xs, xb, xd]
  refine Sync_spec h.disk _ ?_ (fun x e => nomatch (show (none : Option (List UInt8 × Nat)) = some x from e))
  intro _
  simp only [xs, xb, xd]
  refine Names_spec h.disk (by simp) ?_
  intro v15 w15 ho15 hg15 hc15
  have h := h.keep' hc15
  refine len_own und.s_string ho15 ?_
  have e15 : (([((⟨#[98]⟩ : ByteArray), [(97 : UInt8), 98, 99, 100, 101, 120], 6)].length : Nat) : Int) = 1 := by kernel_rfl
  rw [e15]
  simp only [xs, xb, xd]
  refine Remove_spec h.disk _ (fun e => absurd e (by decide)) ?_
  intro x16 hx16 w16 F16 hd16 hc16 hm16
  have h := (h.step hd16 hc16 hm16).eq (D' := []) (by kernel_rfl)
  simp only [xs, xb, xd]
  refine Used_spec h.disk (by simp) ?_
  intro w17 hc17
  have h := h.keep' hc17
  have e17 : ((aused [] : Nat) : Int) = 0 := by kernel_rfl
  rw [e17]
  simp only [xs, xb, xd]
  exact hK _ h.chg
end Go.Proofs.Ytamejkogghpbhaa
