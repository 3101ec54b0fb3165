/-
  Part of the proof: an evaluator of the model's code, proved sound, and its run (PeMerge).
-/
import Derived.Test.YtpidolpoemlpjaaGreatPeSilent
set_option linter.unusedVariables false
set_option linter.unusedSimpArgs false
set_option linter.unnecessarySimpa false
set_option linter.unusedSectionVars false
namespace Go.PE

/-- The relation, by a function that tells the blocks. -/
structure RelG (τ : Nat → Value) (B : Base) (ι : Emb) (g : Nat → Option Blk) (n : Nat) (w : World) : Prop where
  kept : Kept B w
  dom : ∀ id l, ι id = some l → id < maxIds ∧ (id < n ∨ B.top ≤ id)
  small : n ≤ B.top ∧ B.top ≤ maxIds
  cells : ∀ id l cs, ι id = some l → g id = some (.cells cs) → BlkOk τ ι w l cs
  map : ∀ id l es, ι id = some l → g id = some (.map es) → MapOk τ ι w l es
  apart : ∀ id id' l l', id ≠ id' → ι id = some l → ι id' = some l' → (g id).isSome = true → (g id').isSome = true → Apart l l'
  own : ∀ id l, ι id = some l → (g id).isSome = true → ∀ x, l.o ≤ x → x < l.o + l.ext → B.w0.heap.size ≤ l.b ∨ B.O l.b x

section
variable {τ : Nat → Value} {B : Base} {ι : Emb} {h : Hp} {w : World}
theorem Rel.toG (r : Rel τ B ι h w) : RelG τ B ι h.get h.next w := ⟨r.kept, r.dom, r.small, r.cells, r.map, r.apart, r.own⟩
theorem RelG.toRel (r : RelG τ B ι h.get h.next w) : Rel τ B ι h w := ⟨r.kept, r.dom, r.small, r.cells, r.map, r.apart, r.own⟩

def Own (ι : Emb) (hu : Hp) (k x : Nat) : Prop := ∃ id l, ι id = some l ∧ (hu.get id).isSome = true ∧ l.b = k ∧ l.o ≤ x ∧ x < l.o + l.ext

theorem Kept.refl (w : World) (O : Nat → Nat → Prop) (top : Nat) : Kept ⟨w, O, top⟩ w :=
  ⟨rfl, rfl, rfl, Nat.le_refl _, fun _ _ _ => rfl, fun _ _ _ _ => rfl, fun _ _ _ => rfl⟩

theorem RelG.live_block {g : Nat → Option Blk} {n id : Nat} {l : Loc} (r : RelG τ B ι g n w) (hid : ι id = some l) (hl : (g id).isSome = true) : l.b < w.heap.size := by
  obtain ⟨b, hb⟩ := Option.isSome_iff_exists.1 hl
  cases b with
  | cells cs => exact (r.cells id l cs hid hb).1
  | map es =>
    obtain ⟨_, _, ents, c, h1, _⟩ := r.map id l es hid hb
    exact (Array.getElem?_eq_some_iff.1 h1).1

theorem RelG.enter {g : Nat → Option Blk} {n top : Nat} {hu : Hp} (r : RelG τ B ι g n w)
    (hsub : ∀ id l b, ι id = some l → hu.get id = some b → g id = some b) (hdom : ∀ id l, ι id = some l → id < hu.next ∨ top ≤ id) (h1 : hu.next ≤ top) (h2 : top ≤ maxIds) :
    Rel τ ⟨w, Own ι hu, top⟩ ι hu w := by
  have hlive : ∀ id l, ι id = some l → (hu.get id).isSome = true → (g id).isSome = true := by
    intro id l hid hl
    obtain ⟨b, hb⟩ := Option.isSome_iff_exists.1 hl
    rw [hsub id l b hid hb]; rfl
  exact ⟨Kept.refl _ _ _, fun id l hid => ⟨(r.dom id l hid).1, hdom id l hid⟩, ⟨h1, h2⟩, fun id l cs hid hc => r.cells id l cs hid (hsub id l _ hid hc),
    fun id l es hid hc => r.map id l es hid (hsub id l _ hid hc), fun a b la lb hne ha hb h3 h4 => r.apart a b la lb hne ha hb (hlive a la ha h3) (hlive b lb hb h4),
    fun id l hid hl x x1 x2 => .inr ⟨id, l, hid, hl, rfl, x1, x2⟩⟩

theorem RelG.bok {Z : Zed} {g : Nat → Option Blk} {n top : Nat} {hu : Hp} (r : RelG τ B ι g n w) (hB : BOk Z B)
    (hsub : ∀ id l b, ι id = some l → hu.get id = some b → g id = some b) : BOk Z ⟨w, Own ι hu, top⟩ := by
  intro k x v hz
  obtain ⟨h1, h2, h3⟩ := hB k x v hz
  refine ⟨Nat.lt_of_lt_of_le h1 r.kept.size, ?_, (r.kept.cell k x h1 h2).trans h3⟩
  rintro ⟨id, l, hid, hl, rfl, y1, y2⟩
  obtain ⟨b, hb⟩ := Option.isSome_iff_exists.1 hl
  rcases r.own id l hid (by rw [hsub id l b hid hb]; rfl) x y1 y2 with h4 | h4
  · omega
  · exact h2 h4

theorem RelG.leave {g g2 : Nat → Option Blk} {n m top : Nat} {hu h2 : Hp} {ι' : Emb} {w' : World} (r : RelG τ B ι g n w)
    (hsub : ∀ id l b, ι id = some l → hu.get id = some b → g id = some b) (q : Rel τ ⟨w, Own ι hu, top⟩ ι' h2 w') (e : Ext ι hu ι' h2)
    (hm : n ≤ m) (hm2 : h2.next ≤ m) (hm3 : m ≤ B.top)
    (hg : ∀ id l, ι' id = some l → g2 id = h2.get id ∨ (ι id = some l ∧ hu.get id = none ∧ g2 id = g id)) : RelG τ B ι' g2 m w' := by
  have hlive : ∀ id l, ι id = some l → (hu.get id).isSome = true → (g id).isSome = true := by
    intro id l hid hl
    obtain ⟨b, hb⟩ := Option.isSome_iff_exists.1 hl
    rw [hsub id l b hid hb]; rfl
  -- no owner holds a place of an old block that the call did not see
  have hno : ∀ id l x, ι id = some l → hu.get id = none → (g id).isSome = true → l.o ≤ x → x < l.o + l.ext → ¬ Own ι hu l.b x := by
    rintro id l x hid hn hl x1 x2 ⟨id0, l0, hid0, hl0, hb0, y1, y2⟩
    have hne : id0 ≠ id := by intro e; subst e; rw [hn] at hl0; simp at hl0
    exact r.apart id0 id l0 l hne hid0 hid (hlive id0 l0 hid0 hl0) hl hb0 x y1 y2 x1 x2
  have hkO : ∀ k x, k < B.w0.heap.size → ¬ B.O k x → ¬ Own ι hu k x := by
    rintro k x hk hnO ⟨id0, l0, hid0, hl0, rfl, y1, y2⟩
    rcases r.own id0 l0 hid0 (hlive id0 l0 hid0 hl0) x y1 y2 with h1 | h1
    · omega
    · exact hnO h1
  have hsz := r.kept.size
  refine ⟨⟨q.kept.os.trans r.kept.os, q.kept.tape.trans r.kept.tape, q.kept.output.trans r.kept.output, Nat.le_trans hsz q.kept.size, ?_, ?_, ?_⟩, ?_, ⟨hm3, r.small.2⟩, ?_, ?_, ?_, ?_⟩
  · intro k hk hnO
    rw [q.kept.blk k (Nat.lt_of_lt_of_le hk hsz) (fun x => hkO k x hk (hnO x))]
    exact r.kept.blk k hk hnO
  · intro k x hk hnO
    rw [q.kept.cell k x (Nat.lt_of_lt_of_le hk hsz) (hkO k x hk hnO)]
    exact r.kept.cell k x hk hnO
  · intro k x hk
    rw [q.kept.frz k x (Nat.lt_of_lt_of_le hk hsz)]
    exact r.kept.frz k x hk
  · intro id l hid
    have hs := r.small
    rcases e.2.2 id l hid with h1 | h1
    · have := r.dom id l h1; omega
    · omega
  · intro id l cs hid hc
    rcases hg id l hid with h1 | ⟨h1, h3, h4⟩
    · exact q.cells id l cs hid (h1 ▸ hc)
    · rw [h4] at hc
      have hk := r.cells id l cs h1 hc
      have hcell : ∀ x, x < l.ext → w'.cell? (l.at x) = w.cell? (l.at x) ∧ w'.frozen? (l.at x) = w.frozen? (l.at x) := by
        intro x hx
        exact ⟨q.kept.cell l.b (l.o + x) hk.1 (hno id l _ h1 h3 (by rw [hc]; rfl) (by omega) (by omega)), q.kept.frz l.b (l.o + x) hk.1⟩
      refine ⟨Nat.lt_of_lt_of_le hk.1 q.kept.size, hk.2.1, fun x hx => ?_, fun x a ha => ?_⟩
      · rw [(hcell x hx).1, (hcell x hx).2]; exact hk.2.2.1 x hx
      · have hlt : x < l.ext := by have := (List.getElem?_eq_some_iff.1 ha).1; have := hk.2.1; omega
        rw [(hcell x hlt).1]
        obtain ⟨v, v1, v2, v3⟩ := hk.2.2.2 x a ha
        exact ⟨v, v1, v2.mono e.1, v3⟩
  · intro id l es hid hc
    rcases hg id l hid with h1 | ⟨h1, h3, h4⟩
    · exact q.map id l es hid (h1 ▸ hc)
    · rw [h4] at hc
      obtain ⟨k0, k1, ents, c, k2, k3, k4⟩ := r.map id l es h1 hc
      have hlb := (Array.getElem?_eq_some_iff.1 k2).1
      have hnone : ∀ x, ¬ Own ι hu l.b x := by
        rintro x ⟨id0, l0, hid0, hl0, hb0, y1, y2⟩
        have hg0 := hlive id0 l0 hid0 hl0
        have hne : id0 ≠ id := by intro e; subst e; rw [h3] at hl0; simp at hl0
        obtain ⟨b, hb⟩ := Option.isSome_iff_exists.1 hg0
        cases b with
        | cells cs =>
          have := ((r.cells id0 l0 cs hid0 hb).2.2.1 (x - l0.o) (by omega)).1
          unfold Loc.at World.cell? at this
          dsimp only at this
          rw [hb0, k2] at this
          simp at this
        | map es0 =>
          obtain ⟨j0, j1, _⟩ := r.map id0 l0 es0 hid0 hb
          exact r.apart id0 id l0 l hne hid0 h1 hg0 (by rw [hc]; rfl) hb0 0 (by omega) (by omega) (by omega) (by omega)
      refine ⟨k0, k1, ents, c, ?_, k3, fun i en a x1 x2 => ⟨(k4 i en a x1 x2).1.mono e.1, (k4 i en a x1 x2).2.mono e.1⟩⟩
      rw [q.kept.blk l.b hlb hnone]; exact k2
  · have mixed : ∀ a b la lb, ι' a = some la → (h2.get a).isSome = true → ι b = some lb → hu.get b = none → (g b).isSome = true → Apart la lb := by
      intro a b la lb ha hla hb hn hlb eb x x1 x2 x3 x4
      rcases q.own a la ha hla x x1 x2 with h1 | h1
      · have := r.live_block hb hlb
        have h1' : w.heap.size ≤ la.b := h1
        omega
      · exact hno b lb x hb hn hlb x3 x4 (eb ▸ h1)
    intro a b la lb hne ha hb hla hlb
    rcases hg a la ha with a1 | ⟨a1, a2, a3⟩
    · rw [a1] at hla
      rcases hg b lb hb with b1 | ⟨b1, b2, b3⟩
      · rw [b1] at hlb
        exact q.apart a b la lb hne ha hb hla hlb
      · rw [b3] at hlb
        exact mixed a b la lb ha hla b1 b2 hlb
    · rw [a3] at hla
      rcases hg b lb hb with b1 | ⟨b1, b2, b3⟩
      · rw [b1] at hlb
        exact fun eb x x1 x2 x3 x4 => mixed b a lb la hb hlb a1 a2 hla eb.symm x x3 x4 x1 x2
      · rw [b3] at hlb
        exact r.apart a b la lb hne a1 b1 hla hlb
  · intro id l hid hl x x1 x2
    rcases hg id l hid with h1 | ⟨h1, h3, h4⟩
    · rw [h1] at hl
      rcases q.own id l hid hl x x1 x2 with h5 | ⟨id0, l0, hid0, hl0, hb0, y1, y2⟩
      · have h5' : w.heap.size ≤ l.b := h5
        left; omega
      · rw [← hb0]; exact r.own id0 l0 hid0 (hlive id0 l0 hid0 hl0) x y1 y2
    · rw [h4] at hl; exact r.own id l h1 hl x x1 x2
end
end Go.PE
