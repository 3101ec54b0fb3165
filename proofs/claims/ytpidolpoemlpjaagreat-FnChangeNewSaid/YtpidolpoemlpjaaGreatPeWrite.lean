/-
  Part of the proof: an evaluator of the model's code, proved sound, and its run (PeWrite).
-/
import Derived.Test.YtpidolpoemlpjaaGreatPeHeap
set_option linter.unusedVariables false
set_option linter.unusedSimpArgs false
set_option linter.unnecessarySimpa false
set_option linter.unusedSectionVars false
namespace Go.PE
open Go.RowKit (Below)
section
variable {τ : Nat → Value} {B : Base} {ι : Emb} {h : Hp} {w : World}

theorem setCells_size (b : Nat) : ∀ (vs : List Value) (o : Nat) (w : World), (w.setCells b o vs).heap.size = w.heap.size
  | [], _, _ => rfl
  | v :: r, o, w => by rw [World.setCells, setCells_size b r]; simp [World.setCell]
theorem setCells_os (b : Nat) : ∀ (vs : List Value) (o : Nat) (w : World), (w.setCells b o vs).os = w.os ∧ (w.setCells b o vs).tape = w.tape ∧ (w.setCells b o vs).output = w.output
  | [], _, _ => ⟨rfl, rfl, rfl⟩
  | v :: r, o, w => by rw [World.setCells]; exact setCells_os b r (o + 1) _
theorem setCells_block (b : Nat) : ∀ (vs : List Value) (o : Nat) (w : World) (k : Nat), k ≠ b → (w.setCells b o vs).heap[k]? = w.heap[k]?
  | [], _, _, _, _ => rfl
  | v :: r, o, w, k, hk => by
    rw [World.setCells, setCells_block b r _ _ k hk]
    exact Go.RowKit.Below.heap_setCell w _ v k hk

theorem live_cells {id : Nat} {l : Loc} {cs : List AV} {x : Nat} (r : Rel τ B ι h w) (hid : ι id = some l) (hx : h.get id = some (.cells cs)) (hlt : x < l.ext) :
    ∃ arr el fz, w.heap[l.b]? = some (.cells arr el fz) := by
  have := ((r.cells id l cs hid hx).2.2.1 x hlt).1
  unfold Loc.at World.cell? at this
  dsimp only at this
  split at this
  · rename_i c el fz hc; exact ⟨c, el, fz, hc⟩
  · simp at this

/-- What a write of some cells of a live block leaves of all the rest. -/
theorem write_rest {id : Nat} {l : Loc} {cs : List AV} {off : Nat} {vs : List Value} (r : Rel τ B ι h w) (hid : ι id = some l) (hx : h.get id = some (.cells cs)) (hfit : off + vs.length ≤ l.ext) :
    Kept B (w.setCells l.b (l.o + off) vs) ∧
    (∀ id' l' cs', id' ≠ id → ι id' = some l' → h.get id' = some (.cells cs') → BlkOk τ ι (w.setCells l.b (l.o + off) vs) l' cs') ∧
    (∀ id' l' es', ι id' = some l' → h.get id' = some (.map es') → MapOk τ ι (w.setCells l.b (l.o + off) vs) l' es') := by
  by_cases hv : vs = []
  · subst hv
    exact ⟨r.kept, fun id' l' cs' _ h1 h2 => r.cells id' l' cs' h1 h2, fun id' l' es' h1 h2 => r.map id' l' es' h1 h2⟩
  have hpos : 0 < vs.length := List.length_pos_iff.2 hv
  obtain ⟨arr, el, fz, hblk⟩ := live_cells (x := 0) r hid hx (by omega)
  have hown := r.own id l hid (by rw [hx]; rfl)
  have hlb := (r.cells id l cs hid hx).1
  refine ⟨⟨?_, ?_, ?_, ?_, ?_, ?_, ?_⟩, ?_, ?_⟩
  · rw [(setCells_os _ _ _ _).1]; exact r.kept.os
  · rw [(setCells_os _ _ _ _).2.1]; exact r.kept.tape
  · rw [(setCells_os _ _ _ _).2.2]; exact r.kept.output
  · rw [setCells_size]; exact r.kept.size
  · intro k hk hno
    have hne : k ≠ l.b := by
      intro e
      subst e
      rcases hown (l.o + off) (by omega) (by omega) with h1 | h1
      · omega
      · exact hno _ h1
    rw [setCells_block _ _ _ _ _ hne]
    exact r.kept.blk k hk hno
  · intro k x hk hno
    rw [World.cell?_setCells_out]
    · exact r.kept.cell k x hk hno
    · intro hb _
      by_cases hr : l.o + off ≤ x ∧ x < l.o + off + vs.length
      · exfalso
        dsimp only at hb
        subst hb
        rcases hown x (by omega) (by omega) with h1 | h1
        · omega
        · exact hno h1
      · dsimp only; omega
  · intro k x hk
    rw [World.frozen?_setCells]
    exact r.kept.frz k x hk
  · intro id' l' cs' hne hid' hx'
    have hk := r.cells id' l' cs' hid' hx'
    have hcell : ∀ x, x < l'.ext → (w.setCells l.b (l.o + off) vs).cell? (l'.at x) = w.cell? (l'.at x) := by
      intro x hxx
      rw [World.cell?_setCells_out]
      intro hb _
      have hap := r.apart id' id l' l hne hid' hid (by rw [hx']; rfl) (by rw [hx]; rfl) hb (l'.o + x) (by omega) (by omega)
      unfold Loc.at; dsimp only
      rcases Nat.lt_or_ge (l'.o + x) (l.o + off) with h1 | h1
      · exact .inl h1
      · refine .inr (Nat.le_of_not_lt fun h2 => ?_)
        exact hap (by omega) (by omega)
    refine ⟨by rw [setCells_size]; exact hk.1, hk.2.1, fun x hxx => ?_, fun x a ha => ?_⟩
    · rw [hcell x hxx, World.frozen?_setCells]; exact hk.2.2.1 x hxx
    · have hlt : x < l'.ext := by have := (List.getElem?_eq_some_iff.1 ha).1; have := hk.2.1; omega
      rw [hcell x hlt]; exact hk.2.2.2 x a ha
  · intro id' l' es' hid' hx'
    obtain ⟨h0, h00, ents, c, h1, h2⟩ := r.map id' l' es' hid' hx'
    have hne : l'.b ≠ l.b := by
      intro e
      rw [e, hblk] at h1
      simp at h1
    exact ⟨h0, h00, ents, c, by rw [setCells_block _ _ _ _ _ hne]; exact h1, h2⟩

/-- A write within a live block. -/
theorem Rel.write {id : Nat} {l : Loc} {cs new cs' : List AV} {off : Nat} {vs : List Value} (r : Rel τ B ι h w) (hid : ι id = some l) (hx : h.get id = some (.cells cs))
    (hov : over off new cs = some cs') (hrel : RelL τ ι vs new) (h1 : ∀ v ∈ vs, v.oneCell' = true) :
    Rel τ B ι (h.put id (some (.cells cs'))) (w.setCells l.b (l.o + off) vs) := by
  obtain ⟨o1, o2, o3⟩ := over_spec _ _ _ _ hov
  have hk := r.cells id l cs hid hx
  have hlen := hrel.1
  have hfit : off + vs.length ≤ l.ext := by have := hk.2.1; omega
  obtain ⟨wk, wc, wm⟩ := write_rest r hid hx hfit
  have hidn : id < maxIds := (r.dom id l hid).1
  have hg := fun m => Hp.get_put (h := h) (b := some (.cells cs')) hidn m
  have hlive : ∀ m, ((h.put id (some (.cells cs'))).get m).isSome = true → (h.get m).isSome = true := by
    intro m hm
    rw [hg] at hm
    split at hm
    · rename_i e; rw [e, hx]; rfl
    · exact hm
  refine ⟨wk, r.dom, r.small, ?_, ?_, ?_, ?_⟩
  · intro id' l' cs2 hid' hx'
    rw [hg] at hx'
    by_cases e : id' = id
    · subst e
      rw [if_pos rfl] at hx'
      simp at hx'; subst hx'
      rw [hid] at hid'; simp at hid'; subst hid'
      have hin : ∀ x, x < l.ext → ((w.setCells l.b (l.o + off) vs).cell? (l.at x)) = if off ≤ x ∧ x < off + vs.length then vs[x - off]? else w.cell? (l.at x) := by
        intro x hxx
        by_cases hr : off ≤ x ∧ x < off + vs.length
        · rw [if_pos hr]
          have := World.cell?_setCells_in l.b vs (l.o + off) w (fun j hj => by
            have := (hk.2.2.1 (off + j) (by omega)).1
            unfold Loc.at at this
            rwa [show l.o + (off + j) = l.o + off + j by omega] at this) (x - off) (by omega)
          unfold Loc.at
          rw [show l.o + x = l.o + off + (x - off) by omega, this]
          rw [List.getElem?_eq_getElem (by omega)]
        · rw [if_neg hr, World.cell?_setCells_out]
          intro _ _
          unfold Loc.at; dsimp only; omega
      refine ⟨by rw [setCells_size]; exact hk.1, by rw [o1]; exact hk.2.1, fun x hxx => ?_, fun x a ha => ?_⟩
      · rw [hin x hxx, World.frozen?_setCells]
        refine ⟨?_, (hk.2.2.1 x hxx).2⟩
        split
        · rename_i hr; rw [List.getElem?_eq_getElem (by omega)]; rfl
        · exact (hk.2.2.1 x hxx).1
      · have hlt : x < l.ext := by
          have := (List.getElem?_eq_some_iff.1 ha).1
          rw [o1] at this; have := hk.2.1; omega
        rw [hin x hlt]
        rw [o3 x] at ha
        split
        · rename_i hr
          rw [if_pos (by omega)] at ha
          have hlt2 : x - off < vs.length := by omega
          refine ⟨vs[x - off], List.getElem?_eq_getElem hlt2, hrel.2 _ _ _ (List.getElem?_eq_getElem hlt2) ha, h1 _ (List.getElem_mem hlt2)⟩
        · rename_i hr
          rw [if_neg (by omega)] at ha
          exact hk.2.2.2 x a ha
    · rw [if_neg e] at hx'
      exact wc id' l' cs2 e hid' hx'
  · intro id' l' es hid' hx'
    rw [hg] at hx'
    by_cases e : id' = id
    · subst e; rw [if_pos rfl] at hx'; simp at hx'
    · rw [if_neg e] at hx'; exact wm id' l' es hid' hx'
  · intro a b la lb hne ha hb h2 h3
    exact r.apart a b la lb hne ha hb (hlive a h2) (hlive b h3)
  · intro a la ha h2
    exact r.own a la ha (hlive a h2)

/-- A block is struck. -/
theorem Rel.kill {id : Nat} (r : Rel τ B ι h w) (hid : id < maxIds) : Rel τ B ι (h.put id none) w := by
  have hg := fun m => Hp.get_put (h := h) (b := none) hid m
  have hsub : ∀ m b, (h.put id none).get m = some b → h.get m = some b := by
    intro m b hm
    rw [hg] at hm
    split at hm
    · simp at hm
    · exact hm
  have hlive : ∀ m, ((h.put id none).get m).isSome = true → (h.get m).isSome = true := by
    intro m hm
    obtain ⟨b, hb⟩ := Option.isSome_iff_exists.1 hm
    rw [hsub m b hb]; rfl
  exact ⟨r.kept, r.dom, r.small, fun a l cs h1 h2 => r.cells a l cs h1 (hsub _ _ h2), fun a l es h1 h2 => r.map a l es h1 (hsub _ _ h2),
    fun a b la lb hne ha hb h2 h3 => r.apart a b la lb hne ha hb (hlive a h2) (hlive b h3), fun a la ha h2 => r.own a la ha (hlive a h2)⟩

end
end Go.PE
namespace Go.PE
section
variable {τ : Nat → Value} {B : Base} {ι : Emb} {h : Hp} {w : World}

/-- Cells of a live block are written, and the block is struck. -/
theorem Rel.write_kill {id : Nat} {l : Loc} {cs : List AV} {off : Nat} {vs : List Value} (r : Rel τ B ι h w) (hid : ι id = some l) (hx : h.get id = some (.cells cs))
    (hfit : off + vs.length ≤ l.ext) : Rel τ B ι (h.put id none) (w.setCells l.b (l.o + off) vs) := by
  obtain ⟨wk, wc, wm⟩ := write_rest r hid hx hfit
  have hidn : id < maxIds := (r.dom id l hid).1
  have hg := fun m => Hp.get_put (h := h) (b := none) hidn m
  have rk := r.kill hidn
  refine ⟨wk, rk.dom, rk.small, ?_, ?_, rk.apart, rk.own⟩
  · intro id' l' cs2 hid' hx'
    rw [hg] at hx'
    by_cases e : id' = id
    · rw [if_pos e] at hx'; simp at hx'
    · rw [if_neg e] at hx'; exact wc id' l' cs2 e hid' hx'
  · intro id' l' es hid' hx'
    rw [hg] at hx'
    by_cases e : id' = id
    · rw [if_pos e] at hx'; simp at hx'
    · rw [if_neg e] at hx'; exact wm id' l' es hid' hx'

/-- A new abstract block over cells that no live one holds. -/
theorem Rel.adopt {cs : List AV} {l : Loc} {h' : Hp} (r : Rel τ B ι h w) (e : h.new (.cells cs) = some h') (ht : h'.next ≤ B.top)
    (hap : ∀ id m, ι id = some m → (h.get id).isSome = true → Apart l m) (hown : ∀ x, l.o ≤ x → x < l.o + l.ext → B.w0.heap.size ≤ l.b ∨ B.O l.b x)
    (hc : BlkOk τ ι w l cs) : ∃ ι', Rel τ B ι' h' w ∧ Ext ι h ι' h' ∧ ι' h.next = some l := by
  obtain ⟨hn, hlt, _, hg⟩ := Hp.new_spec e
  have hs : Sub ι (ι.ins h.next l) := fun id m hid => by
    have := r.dom id m hid
    unfold Emb.ins; rw [if_neg (by omega)]; exact hid
  have hold : ∀ id m, ι.ins h.next l id = some m → id ≠ h.next → ι id = some m := fun id m hid hne => by
    unfold Emb.ins at hid; rwa [if_neg hne] at hid
  have hnew : ∀ m, ι.ins h.next l h.next = some m → m = l := fun m hid => by
    unfold Emb.ins at hid; simp at hid; exact hid.symm
  have hgo : ∀ id m, ι id = some m → h'.get id = h.get id := fun id m hid => by
    have := r.dom id m hid
    rw [hg, if_neg (by omega)]
  refine ⟨ι.ins h.next l, ⟨r.kept, ?_, ?_, ?_, ?_, ?_, ?_⟩, ⟨hs, by omega, ?_⟩, by unfold Emb.ins; simp⟩
  · intro id m hid
    by_cases hne : id = h.next
    · omega
    · have := r.dom id m (hold id m hid hne); omega
  · exact ⟨ht, r.small.2⟩
  · intro id m cs2 hid hx
    by_cases hne : id = h.next
    · subst hne
      rw [hnew m hid]
      rw [hg, if_pos rfl] at hx
      simp at hx; subst hx
      exact hc.mono hs
    · have ho := hold id m hid hne
      rw [hgo id m ho] at hx
      exact (r.cells id m cs2 ho hx).mono hs
  · intro id m es hid hx
    by_cases hne : id = h.next
    · subst hne
      rw [hg, if_pos rfl] at hx
      simp at hx
    · have ho := hold id m hid hne
      rw [hgo id m ho] at hx
      exact (r.map id m es ho hx).mono hs
  · intro id id' m m' hne hid hid' hx hx'
    by_cases h1 : id = h.next
    · have ho' := hold id' m' hid' (by omega)
      rw [hgo id' m' ho'] at hx'
      subst h1
      have := hnew m hid
      subst this
      exact hap id' m' ho' hx'
    · have ho := hold id m hid h1
      rw [hgo id m ho] at hx
      by_cases h2 : id' = h.next
      · subst h2
        have := hnew m' hid'
        subst this
        exact fun eb x a1 a2 a3 a4 => hap id m ho hx eb.symm x a3 a4 a1 a2
      · have ho' := hold id' m' hid' h2
        rw [hgo id' m' ho'] at hx'
        exact r.apart id id' m m' hne ho ho' hx hx'
  · intro id m hid hx x h1 h2
    by_cases hne : id = h.next
    · subst hne
      have := hnew m hid
      subst this
      exact hown x h1 h2
    · have ho := hold id m hid hne
      rw [hgo id m ho] at hx
      exact r.own id m ho hx x h1 h2
  · intro id m hid
    by_cases hne : id = h.next
    · right; omega
    · left; exact hold id m hid hne

/-- A map is written. -/
theorem Rel.setMap {id : Nat} {l : Loc} {es es' : List (AV × AV)} {ents : Array MapEntry} {clock : Nat} {w' : World} (r : Rel τ B ι h w) (hid : ι id = some l) (hx : h.get id = some (.map es))
    (hw : w'.heap = w.heap.setIfInBounds l.b (.map ents clock)) (ho : w'.os = w.os) (ht : w'.tape = w.tape) (hout : w'.output = w.output)
    (hsz : ents.size = es'.length) (hrel : ∀ (i : Nat) (e : MapEntry) (a : AV × AV), ents[i]? = some e → es'[i]? = some a → RelV τ ι e.key a.1 ∧ RelV τ ι e.val a.2) :
    Rel τ B ι (h.put id (some (.map es'))) w' := by
  obtain ⟨l0, l1, ents0, c0, hm, _, _⟩ := r.map id l es hid hx
  have hlb : l.b < w.heap.size := (Array.getElem?_eq_some_iff.1 hm).1
  have hidn : id < maxIds := (r.dom id l hid).1
  have hg := fun m => Hp.get_put (h := h) (b := some (.map es')) hidn m
  have hlive : ∀ m, ((h.put id (some (.map es'))).get m).isSome = true → (h.get m).isSome = true := by
    intro m hm
    rw [hg] at hm
    split at hm
    · rename_i e; rw [e, hx]; rfl
    · exact hm
  have hsame : ∀ k, k ≠ l.b → w'.heap[k]? = w.heap[k]? := fun k hk => by
    rw [hw, Array.getElem?_setIfInBounds, if_neg (by omega)]
  have hthere : w'.heap[l.b]? = some (.map ents clock) := by rw [hw, Array.getElem?_setIfInBounds]; simp [hlb]
  have hcell : ∀ k x, w'.cell? ⟨k, x, none⟩ = w.cell? ⟨k, x, none⟩ := fun k x => by
    unfold World.cell?; dsimp only
    by_cases e : k = l.b
    · rw [e, hthere, hm]
    · rw [hsame k e]
  have hfrz : ∀ k x, w'.frozen? ⟨k, x, none⟩ = w.frozen? ⟨k, x, none⟩ := fun k x => by
    unfold World.frozen?; dsimp only
    by_cases e : k = l.b
    · rw [e, hthere, hm]
    · rw [hsame k e]
  have hsize : w'.heap.size = w.heap.size := by rw [hw]; simp
  refine ⟨⟨ho.trans r.kept.os, ht.trans r.kept.tape, hout.trans r.kept.output, by rw [hsize]; exact r.kept.size, ?_, fun k x h1 h2 => by rw [hcell]; exact r.kept.cell k x h1 h2, fun k x h1 => by rw [hfrz]; exact r.kept.frz k x h1⟩, r.dom, r.small, ?_, ?_, ?_, ?_⟩
  · intro k hk hno
    have hne : k ≠ l.b := by
      intro e
      subst e
      rcases r.own id l hid (by rw [hx]; rfl) 0 (by omega) (by omega) with h1 | h1
      · omega
      · exact hno _ h1
    rw [hsame k hne]
    exact r.kept.blk k hk hno
  · intro id' l' cs hid' hx'
    rw [hg] at hx'
    by_cases e : id' = id
    · rw [if_pos e] at hx'; simp at hx'
    · rw [if_neg e] at hx'
      have hk := r.cells id' l' cs hid' hx'
      exact ⟨by rw [hsize]; exact hk.1, hk.2.1, fun x hxx => by unfold Loc.at; rw [hcell, hfrz]; exact hk.2.2.1 x hxx, fun x a ha => by unfold Loc.at; rw [hcell]; exact hk.2.2.2 x a ha⟩
  · intro id' l' es2 hid' hx'
    rw [hg] at hx'
    by_cases e : id' = id
    · subst e
      rw [if_pos rfl] at hx'
      simp at hx'; subst hx'
      rw [hid] at hid'; simp at hid'; subst hid'
      exact ⟨l0, l1, ents, clock, hthere, hsz, hrel⟩
    · rw [if_neg e] at hx'
      obtain ⟨k0, k1, ents2, c2, k2, k3⟩ := r.map id' l' es2 hid' hx'
      have hne : l'.b ≠ l.b := by
        intro eb
        exact r.apart id' id l' l e hid' hid (by rw [hx']; rfl) (by rw [hx]; rfl) eb 0 (by omega) (by omega) (by omega) (by omega)
      exact ⟨k0, k1, ents2, c2, by rw [hsame _ hne]; exact k2, k3⟩
  · intro a b la lb hne ha hb h2 h3
    exact r.apart a b la lb hne ha hb (hlive a h2) (hlive b h3)
  · intro a la ha h2
    exact r.own a la ha (hlive a h2)
end
end Go.PE
