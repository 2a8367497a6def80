/- Assertions that own blocks, side by side: a list of them holds of a world if each holds of blocks of its own. -/
import Derived.Test.YtamejkogghpbhaaMulti
set_option linter.unusedVariables false
set_option linter.unusedSimpArgs false
namespace Go.Sx
open Go
/-- An assertion over a world and the blocks that it owns. -/
structure Asn where
  holds : World → (Nat → Prop) → Prop
  keep : ∀ {w w' : World} {S F : Nat → Prop}, holds w F → Chg S w w' → (∀ b, F b → ¬ S b) → holds w' F
  lt : ∀ {w : World} {F : Nat → Prop} {b : Nat}, holds w F → F b → b < w.heap.size

def Sep : List Asn → World → (Nat → Prop) → Prop
  | [], _, _ => True
  | A :: l, w, F => ∃ F1, A.holds w F1 ∧ (∀ b, F1 b → F b) ∧ Sep l w fun b => F b ∧ ¬ F1 b
def Hp (w : World) (l : List Asn) : Prop := Sep l w fun _ => True
def Moves (F F' : Nat → Prop) (w : World) : Prop := ∀ b, F' b → F b ∨ w.heap.size ≤ b

theorem Sep.mono {w : World} : ∀ {l : List Asn} {F G : Nat → Prop}, (∀ b, F b → G b) → Sep l w F → Sep l w G
  | [], _, _, _, _ => trivial
  | A :: l, F, G, hs, ⟨F1, h1, h2, h3⟩ => ⟨F1, h1, fun b hb => hs b (h2 b hb), h3.mono fun b ⟨ha, hb⟩ => ⟨hs b ha, hb⟩⟩
theorem Sep.keep {w w' : World} {S : Nat → Prop} (hc : Chg S w w') : ∀ {l : List Asn} {F : Nat → Prop}, (∀ b, b < w.heap.size → F b → ¬ S b) → Sep l w F → Sep l w' F
  | [], _, _, _ => trivial
  | A :: l, F, hS, ⟨F1, h1, h2, h3⟩ => ⟨F1, A.keep h1 hc fun b hb => hS b (A.lt h1 hb) (h2 b hb), h2, h3.keep hc fun b hlt hb => hS b hlt hb.1⟩
/-- the blocks may be taken to be old ones -/
theorem Sep.lt {w : World} : ∀ {l : List Asn} {F : Nat → Prop}, Sep l w F → Sep l w fun b => F b ∧ b < w.heap.size
  | [], _, _ => trivial
  | A :: l, F, ⟨F1, h1, h2, h3⟩ => ⟨F1, h1, fun b hb => ⟨h2 b hb, A.lt h1 hb⟩, h3.lt.mono fun b ⟨⟨ha, hb⟩, hc⟩ => ⟨⟨ha, hc⟩, hb⟩⟩
theorem Sep.append {w : World} : ∀ {l m : List Asn} {F : Nat → Prop}, Sep (l ++ m) w F → ∃ F1, Sep l w F1 ∧ (∀ b, F1 b → F b) ∧ Sep m w fun b => F b ∧ ¬ F1 b
  | [], m, F, h => ⟨fun _ => False, trivial, fun _ h => h.elim, h.mono fun b hb => ⟨hb, fun h => h⟩⟩
  | A :: l, m, F, ⟨F1, h1, h2, h3⟩ => by
    obtain ⟨F2, k1, k2, k3⟩ := Sep.append h3
    refine ⟨fun b => F1 b ∨ F2 b, ⟨F1, h1, fun b hb => .inl hb, ?_⟩, ?_, ?_⟩
    · refine k1.mono fun b hb => ⟨.inr hb, (k2 b hb).2⟩
    · rintro b (hb | hb)
      · exact h2 b hb
      · exact (k2 b hb).1
    · exact k3.mono fun b ⟨⟨ha, hb⟩, hc⟩ => ⟨ha, fun h => h.elim hb hc⟩
theorem Sep.join {w : World} : ∀ {l m : List Asn} {F G : Nat → Prop}, Sep l w F → Sep m w G → (∀ b, F b → ¬ G b) → Sep (l ++ m) w fun b => F b ∨ G b
  | [], m, F, G, _, k, _ => k.mono fun b hb => .inr hb
  | A :: l, m, F, G, ⟨F1, h1, h2, h3⟩, k, hd => ⟨F1, h1, fun b hb => .inl (h2 b hb), (Sep.join h3 k fun b hb => hd b hb.1).mono fun b hb => by
      rcases hb with hb | hb
      · exact ⟨.inl hb.1, hb.2⟩
      · exact ⟨.inr hb, fun h => hd b (h2 b h) hb⟩⟩
theorem Sep.perm {w : World} {l m : List Asn} (h : l.Perm m) : ∀ {F : Nat → Prop}, Sep l w F → Sep m w F := by
  induction h with
  | nil => exact fun h => h
  | cons A _ ih => rintro F ⟨F1, h1, h2, h3⟩; exact ⟨F1, h1, h2, ih h3⟩
  | swap A B l =>
    rintro F ⟨F1, h1, h2, F2, k1, k2, k3⟩
    exact ⟨F2, k1, fun b hb => (k2 b hb).1, F1, h1, fun b hb => ⟨h2 b hb, fun h => (k2 b h).2 hb⟩, k3.mono fun b ⟨⟨ha, hb⟩, hc⟩ => ⟨⟨ha, hc⟩, hb⟩⟩
  | trans _ _ ih1 ih2 => exact fun h => ih2 (ih1 h)
theorem Hp.perm {w : World} {l m : List Asn} (h : Hp w l) (hp : l.Perm m) : Hp w m := Sep.perm hp h
theorem Hp.nil (w : World) : Hp w [] := trivial
theorem Hp.keep' {w w' : World} {l : List Asn} (h : Hp w l) (hc : Chg none' w w') : Hp w' l := Sep.keep hc (fun _ _ _ h => h) h
theorem Hp.drew {w : World} {l : List Asn} (h : Hp w l) : Hp w.drew l := h.keep' (Chg.drew _ _)
theorem Hp.tail {w : World} {A : Asn} {l : List Asn} (h : Hp w (A :: l)) : Hp w l := by
  obtain ⟨F1, h1, h2, h3⟩ := h; exact h3.mono fun _ _ => trivial
theorem Hp.head {w : World} {A : Asn} {l : List Asn} (h : Hp w (A :: l)) : ∃ F, A.holds w F := by
  obtain ⟨F1, h1, h2, h3⟩ := h; exact ⟨F1, h1⟩
/-- a step on some of them: the others stay -/
theorem Hp.frame {w : World} {L l : List Asn} (h : Hp w (L ++ l)) : ∃ F, Sep L w F ∧ ∀ w' F' L', Sep L' w' F' → Chg F w w' → Moves F F' w → Hp w' (L' ++ l) := by
  obtain ⟨F, h1, h2, h3⟩ := Sep.append h
  refine ⟨F, h1, fun w' F' L' hL hc hm => ?_⟩
  have h4 : Sep l w' fun b => (True ∧ ¬ F b) ∧ b < w.heap.size := h3.lt.keep hc fun b _ hb => hb.1.2
  refine (Sep.join hL h4 fun b hb hx => ?_).mono fun _ _ => trivial
  rcases hm b hb with h5 | h5
  · exact hx.1.2 h5
  · have := hx.2; omega
theorem Hp.frame1 {w : World} {A : Asn} {l : List Asn} (h : Hp w (A :: l)) : ∃ F, A.holds w F ∧ ∀ w' F' (B : Asn), B.holds w' F' → Chg F w w' → Moves F F' w → Hp w' (B :: l) := by
  obtain ⟨F, ⟨F1, h1, h2, _⟩, h3⟩ := Hp.frame (L := [A]) h
  refine ⟨F1, h1, fun w' F' B hB hc hm => ?_⟩
  exact h3 w' F' [B] ⟨F', hB, fun _ h => h, trivial⟩ (hc.mono fun b _ hb => h2 b hb) fun b hb => (hm b hb).imp (h2 b) id
/-- something new -/
theorem Hp.new {w w' : World} {A : Asn} {l : List Asn} {F : Nat → Prop} (h : Hp w l) (hA : A.holds w' F) (hF : ∀ b, F b → w.heap.size ≤ b) (hc : Chg none' w w') : Hp w' (A :: l) := by
  obtain ⟨F0, _, h3⟩ := Hp.frame (L := []) h
  exact h3 w' F [A] ⟨F, hA, fun _ h => h, trivial⟩ hc.of_none fun b hb => .inr (hF b hb)

/-! putting together, taking apart -/
def StarA (L : List Asn) : Asn where
  holds w F := Sep L w F ∧ ∀ b, F b → b < w.heap.size
  keep := fun h hc hn => ⟨h.1.keep hc fun b _ hb => hn b hb, fun b hb => Nat.lt_of_lt_of_le (h.2 b hb) hc.size⟩
  lt := fun h hb => h.2 _ hb
def ExA {α : Type} (f : α → Asn) : Asn where
  holds w F := ∃ x, (f x).holds w F
  keep := fun ⟨x, h⟩ hc hn => ⟨x, (f x).keep h hc hn⟩
  lt := fun ⟨x, h⟩ hb => (f x).lt h hb
/-- an assertion under a fact -/
def AndA (p : Prop) (A : Asn) : Asn where
  holds w F := p ∧ A.holds w F
  keep := fun h hc hn => ⟨h.1, A.keep h.2 hc hn⟩
  lt := fun h hb => A.lt h.2 hb
theorem Hp.star {w : World} {L l : List Asn} : Hp w (StarA L :: l) ↔ Hp w (L ++ l) := by
  constructor
  · rintro ⟨F1, ⟨h1, _⟩, _, h3⟩
    exact (Sep.join h1 h3 fun b hb hx => hx.2 hb).mono fun _ _ => trivial
  · intro h
    obtain ⟨F, h1, h2, h3⟩ := Sep.append h
    exact ⟨_, ⟨h1.lt, fun b hb => hb.2⟩, fun _ _ => trivial, h3.lt.mono fun b hb => ⟨trivial, fun hx => hb.1.2 hx.1⟩⟩
theorem Hp.ex {w : World} {α : Type} {f : α → Asn} {l : List Asn} : Hp w (ExA f :: l) ↔ ∃ x, Hp w (f x :: l) := by
  constructor
  · rintro ⟨F1, ⟨x, h1⟩, h2⟩; exact ⟨x, F1, h1, h2⟩
  · rintro ⟨x, F1, h1, h2⟩; exact ⟨F1, ⟨x, h1⟩, h2⟩
theorem Hp.and {w : World} {p : Prop} {A : Asn} {l : List Asn} : Hp w (AndA p A :: l) ↔ p ∧ Hp w (A :: l) := by
  constructor
  · rintro ⟨F1, ⟨hp, h1⟩, h2⟩; exact ⟨hp, F1, h1, h2⟩
  · rintro ⟨hp, F1, h1, h2⟩; exact ⟨F1, ⟨hp, h1⟩, h2⟩
section
variable {w : World} {A B C D E G I J : Asn} {l : List Asn}
theorem Hp.star0 : Hp w (StarA [] :: l) ↔ Hp w l := Hp.star
theorem Hp.star1 : Hp w (StarA [A] :: l) ↔ Hp w (A :: l) := Hp.star
theorem Hp.star2 : Hp w (StarA [A, B] :: l) ↔ Hp w (A :: B :: l) := Hp.star
theorem Hp.star3 : Hp w (StarA [A, B, C] :: l) ↔ Hp w (A :: B :: C :: l) := Hp.star
theorem Hp.star4 : Hp w (StarA [A, B, C, D] :: l) ↔ Hp w (A :: B :: C :: D :: l) := Hp.star
theorem Hp.star5 : Hp w (StarA [A, B, C, D, E] :: l) ↔ Hp w (A :: B :: C :: D :: E :: l) := Hp.star
theorem Hp.star6 : Hp w (StarA [A, B, C, D, E, G] :: l) ↔ Hp w (A :: B :: C :: D :: E :: G :: l) := Hp.star
theorem Hp.star7 : Hp w (StarA [A, B, C, D, E, G, I] :: l) ↔ Hp w (A :: B :: C :: D :: E :: G :: I :: l) := Hp.star
theorem Hp.star8 : Hp w (StarA [A, B, C, D, E, G, I, J] :: l) ↔ Hp w (A :: B :: C :: D :: E :: G :: I :: J :: l) := Hp.star
/-- one of them to the front -/
theorem Hp.pick1 (h : Hp w (A :: B :: l)) : Hp w (B :: A :: l) := h.perm (.swap _ _ _)
theorem Hp.pick2 (h : Hp w (A :: B :: C :: l)) : Hp w (C :: A :: B :: l) := h.perm (List.perm_append_comm (l₁ := [A, B]) (l₂ := [C]) |>.append_right l)
theorem Hp.pick3 (h : Hp w (A :: B :: C :: D :: l)) : Hp w (D :: A :: B :: C :: l) := h.perm (List.perm_append_comm (l₁ := [A, B, C]) (l₂ := [D]) |>.append_right l)
theorem Hp.pick4 (h : Hp w (A :: B :: C :: D :: E :: l)) : Hp w (E :: A :: B :: C :: D :: l) := h.perm (List.perm_append_comm (l₁ := [A, B, C, D]) (l₂ := [E]) |>.append_right l)
theorem Hp.pick5 (h : Hp w (A :: B :: C :: D :: E :: G :: l)) : Hp w (G :: A :: B :: C :: D :: E :: l) := h.perm (List.perm_append_comm (l₁ := [A, B, C, D, E]) (l₂ := [G]) |>.append_right l)
theorem Hp.pick6 (h : Hp w (A :: B :: C :: D :: E :: G :: I :: l)) : Hp w (I :: A :: B :: C :: D :: E :: G :: l) := h.perm (List.perm_append_comm (l₁ := [A, B, C, D, E, G]) (l₂ := [I]) |>.append_right l)
theorem Hp.pick7 (h : Hp w (A :: B :: C :: D :: E :: G :: I :: J :: l)) : Hp w (J :: A :: B :: C :: D :: E :: G :: I :: l) := h.perm (List.perm_append_comm (l₁ := [A, B, C, D, E, G, I]) (l₂ := [J]) |>.append_right l)
/-- the first one back to its place -/
theorem Hp.put2 (h : Hp w (C :: A :: B :: l)) : Hp w (A :: B :: C :: l) := h.perm (List.perm_append_comm (l₁ := [C]) (l₂ := [A, B]) |>.append_right l)
theorem Hp.put3 (h : Hp w (D :: A :: B :: C :: l)) : Hp w (A :: B :: C :: D :: l) := h.perm (List.perm_append_comm (l₁ := [D]) (l₂ := [A, B, C]) |>.append_right l)
theorem Hp.put4 (h : Hp w (E :: A :: B :: C :: D :: l)) : Hp w (A :: B :: C :: D :: E :: l) := h.perm (List.perm_append_comm (l₁ := [E]) (l₂ := [A, B, C, D]) |>.append_right l)
theorem Hp.put5 (h : Hp w (G :: A :: B :: C :: D :: E :: l)) : Hp w (A :: B :: C :: D :: E :: G :: l) := h.perm (List.perm_append_comm (l₁ := [G]) (l₂ := [A, B, C, D, E]) |>.append_right l)
theorem Hp.put6 (h : Hp w (I :: A :: B :: C :: D :: E :: G :: l)) : Hp w (A :: B :: C :: D :: E :: G :: I :: l) := h.perm (List.perm_append_comm (l₁ := [I]) (l₂ := [A, B, C, D, E, G]) |>.append_right l)
end

/-! what there is: blocks, slices, maps -/
def BlkA (b T : Nat) (cs : List Value) : Asn where
  holds w F := w.heap[b]? = some (.cells cs.toArray T (0, 0)) ∧ ∀ x, F x ↔ x = b
  keep := fun h hc hn => ⟨hc.keep h.1 (hn b ((h.2 b).2 rfl)), h.2⟩
  lt := fun h hb => by rw [(h.2 _).1 hb]; exact size_pos h.1
/-- a slice that owns its block -/
def SlA (e size : Nat) (v : Value) (n : Nat) (xs : List Value) : Asn where
  holds w F := Own w e size v n xs ∧ ∀ b, F b ↔ v.ownBlock = some b
  keep := fun h hc hn => ⟨h.1.keep hc fun g hg => hn g ((h.2 g).2 hg), h.2⟩
  lt := fun h hb => h.1.lt ((h.2 _).1 hb)
/-- a slice whose elements can be read, with its block -/
def RdA (v : Value) (xs : List Value) : Asn where
  holds w F := Rd w v xs ∧ ∀ b, F b ↔ (xs ≠ [] ∧ v.ownBlock = some b)
  keep := fun h hc hn => ⟨h.1.keep hc fun g n c e h0 => by
    subst e
    refine hn _ ((h.2 _).2 ⟨?_, rfl⟩)
    obtain ⟨a, cap, e, _⟩ := h.1
    cases e
    intro e; subst e; simp at h0, h.2⟩
  lt := fun {w F b} h hb => by
    obtain ⟨hx, hb⟩ := (h.2 _).1 hb
    obtain ⟨a, cap, e, hl, hc⟩ := h.1
    cases a with
    | none => exact absurd hc hx
    | some g =>
      subst e
      cases xs with
      | nil => exact absurd rfl hx
      | cons x xs =>
        have := hc 0 x rfl
        have h0 : (g.add 0).block = g.block := by unfold Addr.add; split <;> rfl
        have hlt := World.block_lt_of_cell? w (g.add 0) this
        have : g.block = b := by simpa [Value.ownBlock] using hb
        rw [h0] at hlt; omega
def MapA {α : Type} (E : α → Value) (m : Nat) (l : List (α × Value)) : Asn where
  holds w F := MapAt E w m l ∧ ∀ b, F b ↔ b = m
  keep := fun h hc hn => ⟨h.1.keep hc (hn m ((h.2 m).2 rfl)), h.2⟩
  lt := fun h hb => by rw [(h.2 _).1 hb]; exact h.1.lt
/-- all that was there at W is as it was -/
def InpA (W : World) : Asn where
  holds w F := RowKit.Below W.heap.size W w ∧ ∀ b, F b ↔ b < W.heap.size
  keep := fun {w w' S F} h hc hn => ⟨h.1.trans ⟨hc.os, hc.tape, hc.output, hc.size, fun b hb => hc.block b (Nat.lt_of_lt_of_le hb h.1.size) (hn b ((h.2 b).2 hb))⟩, h.2⟩
  lt := fun h hb => Nat.lt_of_lt_of_le ((h.2 _).1 hb) h.1.size
theorem Hp.inp (W : World) : Hp W [InpA W] := ⟨fun b => b < W.heap.size, ⟨⟨rfl, rfl, rfl, Nat.le_refl _, fun _ _ => rfl⟩, fun _ => Iff.rfl⟩, fun _ _ => trivial, trivial⟩
end Go.Sx
