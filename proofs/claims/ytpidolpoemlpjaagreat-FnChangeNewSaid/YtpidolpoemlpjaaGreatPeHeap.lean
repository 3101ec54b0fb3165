/-
  Part of the proof: an evaluator of the model's code, proved sound, and its run (PeHeap).
-/
import Derived.Test.YtpidolpoemlpjaaGreatPeSound
set_option linter.unusedVariables false
set_option linter.unusedSimpArgs false
set_option linter.unnecessarySimpa false
set_option linter.unusedSectionVars false
namespace Go.PE
open Go.RowKit (Below)
section
variable {τ : Nat → Value} {B : Base} {ι : Emb} {h : Hp} {w : World}

theorem cell?_heap {w w' : World} (hh : w'.heap = w.heap) (a : Addr) : w'.cell? a = w.cell? a := by unfold World.cell?; rw [hh]
theorem frozen?_heap {w w' : World} (hh : w'.heap = w.heap) (a : Addr) : w'.frozen? a = w.frozen? a := by unfold World.frozen?; rw [hh]

/-- Only a count of the world may have moved. -/
structure Same (w w' : World) : Prop where
  heap : w'.heap = w.heap
  os : w'.os = w.os
  tape : w'.tape = w.tape
  output : w'.output = w.output
theorem Same.refl (w : World) : Same w w := ⟨rfl, rfl, rfl, rfl⟩

theorem Kept.same {w w' : World} (k : Kept B w) (s : Same w w') : Kept B w' where
  os := s.os.trans k.os
  tape := s.tape.trans k.tape
  output := s.output.trans k.output
  size := by rw [s.heap]; exact k.size
  blk := fun i h1 h2 => by rw [s.heap]; exact k.blk i h1 h2
  cell := fun i x h1 h2 => by rw [cell?_heap s.heap]; exact k.cell i x h1 h2
  frz := fun i x h1 => by rw [frozen?_heap s.heap]; exact k.frz i x h1
theorem BlkOk.same {w w' : World} {l : Loc} {cs : List AV} (k : BlkOk τ ι w l cs) (s : Same w w') : BlkOk τ ι w' l cs :=
  ⟨by rw [s.heap]; exact k.1, k.2.1, fun x hx => by rw [cell?_heap s.heap, frozen?_heap s.heap]; exact k.2.2.1 x hx, fun x a ha => by rw [cell?_heap s.heap]; exact k.2.2.2 x a ha⟩
theorem MapOk.same {w w' : World} {l : Loc} {es : List (AV × AV)} (k : MapOk τ ι w l es) (s : Same w w') : MapOk τ ι w' l es := by
  unfold MapOk; rw [s.heap]; exact k
theorem Rel.same {w w' : World} (r : Rel τ B ι h w) (s : Same w w') : Rel τ B ι h w' where
  kept := r.kept.same s
  dom := r.dom
  small := r.small
  cells := fun id l cs h1 h2 => (r.cells id l cs h1 h2).same s
  map := fun id l es h1 h2 => (r.map id l es h1 h2).same s
  apart := r.apart
  own := r.own
/-- The abstract heap's mark of the least written number does not matter. -/
theorem Rel.lw {n : Nat} (r : Rel τ B ι h w) : Rel τ B ι ⟨h.t, h.next, n⟩ w :=
  ⟨r.kept, r.dom, r.small, r.cells, r.map, r.apart, r.own⟩
theorem Rel.lw' {t : Tr} {nx n m : Nat} (r : Rel τ B ι ⟨t, nx, m⟩ w) : Rel τ B ι ⟨t, nx, n⟩ w :=
  ⟨r.kept, r.dom, r.small, r.cells, r.map, r.apart, r.own⟩

theorem BlkOk.mono {ι' : Emb} {w : World} {l : Loc} {cs : List AV} (hs : Sub ι ι') (k : BlkOk τ ι w l cs) : BlkOk τ ι' w l cs :=
  ⟨k.1, k.2.1, k.2.2.1, fun x a ha => let ⟨v, h1, h2, h3⟩ := k.2.2.2 x a ha; ⟨v, h1, h2.mono hs, h3⟩⟩
theorem MapOk.mono {ι' : Emb} {w : World} {l : Loc} {es : List (AV × AV)} (hs : Sub ι ι') (k : MapOk τ ι w l es) : MapOk τ ι' w l es := by
  obtain ⟨h0, h00, ents, c, h1, h2, h3⟩ := k
  exact ⟨h0, h00, ents, c, h1, h2, fun i e a x y => ⟨(h3 i e a x y).1.mono hs, (h3 i e a x y).2.mono hs⟩⟩

/-- A world with one block more. -/
structure Pushed (w : World) (o : Obj) (w' : World) : Prop where
  heap : w'.heap = w.heap.push o
  os : w'.os = w.os
  tape : w'.tape = w.tape
  output : w'.output = w.output

theorem Pushed.old {o : Obj} {w w' : World} (p : Pushed w o w') {k : Nat} (hk : k < w.heap.size) : w'.heap[k]? = w.heap[k]? := by
  rw [p.heap, Array.getElem?_push, if_neg (by omega)]
theorem Pushed.cell {o : Obj} {w w' : World} (p : Pushed w o w') {k x : Nat} (hk : k < w.heap.size) : w'.cell? ⟨k, x, none⟩ = w.cell? ⟨k, x, none⟩ := by
  unfold World.cell?; dsimp only; rw [p.old hk]
theorem Pushed.frz {o : Obj} {w w' : World} (p : Pushed w o w') {k x : Nat} (hk : k < w.heap.size) : w'.frozen? ⟨k, x, none⟩ = w.frozen? ⟨k, x, none⟩ := by
  unfold World.frozen?; dsimp only; rw [p.old hk]
theorem Pushed.new {o : Obj} {w w' : World} (p : Pushed w o w') : w'.heap[w.heap.size]? = some o := by
  rw [p.heap, Array.getElem?_push, if_pos rfl]

theorem Kept.push {o : Obj} {w w' : World} (k : Kept B w) (p : Pushed w o w') : Kept B w' where
  os := p.os.trans k.os
  tape := p.tape.trans k.tape
  output := p.output.trans k.output
  size := by rw [p.heap]; have := k.size; simp; omega
  blk := fun i h1 h2 => by rw [p.old (by have := k.size; omega)]; exact k.blk i h1 h2
  cell := fun i x h1 h2 => by rw [p.cell (by have := k.size; omega)]; exact k.cell i x h1 h2
  frz := fun i x h1 => by rw [p.frz (by have := k.size; omega)]; exact k.frz i x h1

def Emb.ins (ι : Emb) (id : Nat) (l : Loc) : Emb := fun n => if n = id then some l else ι n

theorem Rel.push_any {o : Obj} {b : Blk} {l : Loc} {h' : Hp} {w' : World} (r : Rel τ B ι h w) (e : h.new b = some h') (ht : h'.next ≤ B.top) (p : Pushed w o w')
    (hl : l.b = w.heap.size)
    (hc : ∀ cs, b = .cells cs → BlkOk τ (ι.ins h.next l) w' l cs) (hm : ∀ es, b = .map es → MapOk τ (ι.ins h.next l) w' l es) :
    Rel τ B (ι.ins h.next l) h' w' ∧ Ext ι h (ι.ins h.next l) h' := by
  obtain ⟨hn, hlt, _, hg⟩ := Hp.new_spec e
  have hs : Sub ι (ι.ins h.next l) := fun id m hid => by
    have := r.dom id m hid
    unfold Emb.ins; rw [if_neg (by omega)]; exact hid
  have hold : ∀ id m, ι.ins h.next l id = some m → id ≠ h.next → ι id = some m := fun id m hid hne => by
    unfold Emb.ins at hid; rwa [if_neg hne] at hid
  have hnew : ∀ m, ι.ins h.next l h.next = some m → m = l := fun m hid => by
    unfold Emb.ins at hid; simp at hid; exact hid.symm
  have hgo : ∀ id m, ι id = some m → h'.get id = h.get id := fun id m hid => by
    have := r.dom id m hid
    rw [hg, if_neg (by omega)]
  have hbs : ∀ id m, ι id = some m → (h.get id).isSome = true → m.b < w.heap.size := by
    intro id m hid hlive
    cases hx : h.get id with
    | none => rw [hx] at hlive; simp at hlive
    | some bk =>
      cases bk with
      | cells cs => exact (r.cells id m cs hid hx).1
      | map es =>
        obtain ⟨_, _, ents, c, h1, _⟩ := r.map id m es hid hx
        exact (Array.getElem?_eq_some_iff.1 h1).1
  refine ⟨⟨r.kept.push p, ?_, ?_, ?_, ?_, ?_, ?_⟩, hs, by omega, ?_⟩
  · intro id m hid
    by_cases hne : id = h.next
    · omega
    · have := r.dom id m (hold id m hid hne); omega
  · exact ⟨ht, r.small.2⟩
  · intro id m cs hid hx
    by_cases hne : id = h.next
    · subst hne
      rw [hnew m hid]
      rw [hg, if_pos rfl] at hx
      exact hc cs (by simpa using hx)
    · have ho := hold id m hid hne
      rw [hgo id m ho] at hx
      have hk := r.cells id m cs ho hx
      refine BlkOk.mono hs ⟨by rw [p.heap]; simp; have := hk.1; omega, hk.2.1, fun x hxx => ?_, fun x a ha => ?_⟩
      · unfold Loc.at; rw [p.cell hk.1, p.frz hk.1]; exact hk.2.2.1 x hxx
      · unfold Loc.at; rw [p.cell hk.1]; exact hk.2.2.2 x a ha
  · intro id m es hid hx
    by_cases hne : id = h.next
    · subst hne
      rw [hnew m hid]
      rw [hg, if_pos rfl] at hx
      exact hm es (by simpa using hx)
    · have ho := hold id m hid hne
      rw [hgo id m ho] at hx
      have hk := r.map id m es ho hx
      refine MapOk.mono hs ?_
      obtain ⟨h0, h00, ents, c, h1, h2⟩ := hk
      exact ⟨h0, h00, ents, c, by rw [p.old (Array.getElem?_eq_some_iff.1 h1).1]; exact h1, h2⟩
  · intro id id' m m' hne hid hid' hx hx'
    by_cases h1 : id = h.next
    · have ho' := hold id' m' hid' (by omega)
      rw [hgo id' m' ho'] at hx'
      have := hbs id' m' ho' hx'
      subst h1
      have := hnew m hid
      subst this; intro eb; omega
    · have ho := hold id m hid h1
      rw [hgo id m ho] at hx
      by_cases h2 : id' = h.next
      · have := hbs id m ho hx
        subst h2
        have := hnew m' hid'
        subst this; intro eb; omega
      · have ho' := hold id' m' hid' h2
        rw [hgo id' m' ho'] at hx'
        exact r.apart id id' m m' hne ho ho' hx hx'
  · intro id m hid hx x h1 h2
    by_cases hne : id = h.next
    · subst hne
      have := hnew m hid
      left; subst this; have := r.kept.size; omega
    · have ho := hold id m hid hne
      rw [hgo id m ho] at hx
      exact r.own id m ho hx x h1 h2
  · intro id m hid
    by_cases hne : id = h.next
    · right; omega
    · left; exact hold id m hid hne

/-- A new row of cells. -/
theorem Rel.push {arr : Array Value} {el : TypeId} {cs : List AV} {h' : Hp} {w' : World} (r : Rel τ B ι h w) (e : h.new (.cells cs) = some h') (ht : h'.next ≤ B.top)
    (p : Pushed w (.cells arr el) w') (hle : cs.length ≤ arr.size)
    (hv : ∀ (x : Nat) (a : AV), cs[x]? = some a → ∃ v, arr[x]? = some v ∧ RelV τ ι v a ∧ v.oneCell' = true) :
    ∃ ι', Rel τ B ι' h' w' ∧ Ext ι h ι' h' ∧ ι' h.next = some ⟨w.heap.size, 0, arr.size⟩ := by
  have hget : ∀ x, w'.cell? ⟨w.heap.size, x, none⟩ = arr[x]? := fun x => by
    unfold World.cell?; dsimp only; rw [p.new]; simp
  have := r.push_any (l := ⟨w.heap.size, 0, arr.size⟩) e ht p rfl (fun cs' hcs => by
    simp at hcs; subst hcs
    have hs : Sub ι (ι.ins h.next ⟨w.heap.size, 0, arr.size⟩) := fun id m hid => by
      have := r.dom id m hid
      have := (Hp.new_spec e).1
      unfold Emb.ins; rw [if_neg (by omega)]; exact hid
    refine ⟨by rw [p.heap]; simp, hle, fun x hx => ?_, fun x a ha => ?_⟩
    · unfold Loc.at; dsimp only; rw [Nat.zero_add, hget]
      refine ⟨by simp; omega, ?_⟩
      unfold World.frozen?; dsimp only; rw [p.new]; simp
    · obtain ⟨v, h1, h2, h3⟩ := hv x a ha
      unfold Loc.at; dsimp only; rw [Nat.zero_add, hget]
      exact ⟨v, h1, h2.mono hs, h3⟩) (fun es hes => by simp at hes)
  exact ⟨_, this.1, this.2, by unfold Emb.ins; simp⟩

/-- A new map. -/
theorem Rel.pushMap {h' : Hp} {w' : World} (r : Rel τ B ι h w) (e : h.new (.map []) = some h') (ht : h'.next ≤ B.top) (p : Pushed w (.map #[] 0) w') :
    ∃ ι', Rel τ B ι' h' w' ∧ Ext ι h ι' h' ∧ ι' h.next = some ⟨w.heap.size, 0, 1⟩ := by
  have := r.push_any (l := ⟨w.heap.size, 0, 1⟩) e ht p rfl (fun cs' hcs => by simp at hcs) (fun es hes => by
    simp at hes; subst hes
    exact ⟨rfl, rfl, #[], 0, p.new, rfl, fun i e a h1 => by simp at h1⟩)
  exact ⟨_, this.1, this.2, by unfold Emb.ins; simp⟩

end
end Go.PE
