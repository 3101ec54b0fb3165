/-
  Part of the proof: an evaluator of the model's code, proved sound, and its run (PeOps2).
-/
import Derived.Test.YtpidolpoemlpjaaGreatPeOps
set_option linter.unusedVariables false
set_option linter.unusedSimpArgs false
set_option linter.unnecessarySimpa false
set_option linter.unusedSectionVars false
namespace Go.PE
section
variable {P : Program} {τ : Nat → Value} {B : Base} {ι : Emb} {h : Hp} {w : World}

theorem newBlk_spec {cs : List AV} {id : Nat} {h' : Hp} (he : newBlk cs h = some (id, h')) : id = h.next ∧ h.new (.cells cs) = some h' := by
  unfold newBlk at he
  simp only [Option.map_eq_some_iff] at he
  obtain ⟨h1, e, e2⟩ := he
  simp at e2
  obtain ⟨rfl, rfl⟩ := e2
  exact ⟨rfl, e⟩

/-- A new row. -/
theorem newRow_sound {el : TypeId} {cs : List AV} {arr : Array Value} {id : Nat} {h' : Hp} (he : newBlk cs h = some (id, h')) (ht : h'.next ≤ B.top) (hr : Rel τ B ι h w)
    (hl : RelL τ ι arr.toList cs) (h1 : ∀ v ∈ arr.toList, v.oneCell' = true) :
    ∃ w' ι' l, (newRow el arr).run P w = .ok ⟨l.b, 0, none⟩ w' ∧ l.o = 0 ∧ l.ext = arr.size ∧ ι' id = some l ∧ Rel τ B ι' h' w' ∧ Ext ι h ι' h' := by
  obtain ⟨rfl, hn⟩ := newBlk_spec he
  have p : Pushed w (.cells arr el) { w with heap := w.heap.push (.cells arr el) } := ⟨rfl, rfl, rfl, rfl⟩
  obtain ⟨ι', r1, r2, r3⟩ := hr.push hn ht p (by have := hl.1; simp at this; omega) (fun x a ha => by
    have hlt : x < arr.toList.length := by rw [hl.1]; exact (List.getElem?_eq_some_iff.1 ha).1
    refine ⟨arr.toList[x], by rw [← Array.getElem?_toList, List.getElem?_eq_getElem hlt], hl.2 x _ a (List.getElem?_eq_getElem hlt) ha, h1 _ (List.getElem_mem hlt)⟩)
  refine ⟨_, ι', ⟨w.heap.size, 0, arr.size⟩, ?_, rfl, rfl, r3, r1, r2⟩
  simp [newRow]

theorem box_sound (hτ : ∀ i, (τ i).oneCell' = true) {el : TypeId} {x : AV} {v : Value} {id : Nat} {h' : Hp} (ha : x.cells.all AV.one = true) (he : newBlk x.cells h = some (id, h')) (hto : h'.next ≤ B.top) (hr : Rel τ B ι h w) (hv : RelV τ ι v x) :
    ∃ w' ι' u, (Instr.box el v).run P w = .ok u w' ∧ RelV τ ι' u (.ptr id 0) ∧ Rel τ B ι' h' w' ∧ Ext ι h ι' h' := by
  obtain ⟨g1, g2⟩ := hv.cells hτ ha
  obtain ⟨w', ι', l, e1, e2, e3, e4, e5, e6⟩ := newRow_sound (P := P) (el := el) he hto hr g1 g2
  refine ⟨w', ι', .pointer (some (l.at 0)), ?_, .ptr id 0 l e4, e5, e6⟩
  simp [Instr.box, newVar, e1, Loc.at, e2]

theorem alloc_sound (hτ : ∀ i, (τ i).oneCell' = true) {t : TypeId} {z : AV} {id : Nat} {h' : Hp} (hz : zeroA P t = some z) (ha : z.cells.all AV.one = true) (he : newBlk z.cells h = some (id, h')) (hto : h'.next ≤ B.top) (hr : Rel τ B ι h w) :
    ∃ w' ι' u, (Instr.alloc t true (.tuple #[])).run P w = .ok u w' ∧ RelV τ ι' u (.ptr id 0) ∧ Rel τ B ι' h' w' ∧ Ext ι h ι' h' := by
  obtain ⟨v, hv, rfl⟩ := run_zero hz w
  obtain ⟨g1, g2⟩ := (relConst (τ := τ) (ι := ι) v).cells hτ ha
  obtain ⟨w', ι', l, e1, e2, e3, e4, e5, e6⟩ := newRow_sound (P := P) (el := t) he hto hr g1 g2
  refine ⟨w', ι', .pointer (some (l.at 0)), ?_, .ptr id 0 l e4, e5, e6⟩
  simp [Instr.alloc, newVar, hv, e1, Loc.at, e2]

/-! ## Building -/
theorem foldl_set (off : Nat) : ∀ (xs : List Value) (k : Nat) (cells : Array Value), 
    let r := (xs.zipIdx k).foldl (fun (cs : Array Value) (c : Value × Nat) => cs.setIfInBounds (off + c.2) c.1) cells
    r.size = cells.size ∧ ∀ j, r[j]? = if off + k ≤ j ∧ j < off + k + xs.length ∧ j < cells.size then xs[j - (off + k)]? else cells[j]? := by
  intro xs
  induction xs with
  | nil => intro k cells; simp; intro j h1 h2; omega
  | cons x xs ih =>
    intro k cells
    simp only [List.zipIdx_cons, List.foldl_cons]
    obtain ⟨s1, s2⟩ := ih (k + 1) (cells.setIfInBounds (off + k) x)
    refine ⟨by rw [s1]; simp, fun j => ?_⟩
    rw [s2 j]
    simp only [Array.size_setIfInBounds, Array.getElem?_setIfInBounds, List.length_cons]
    by_cases h2 : off + (k + 1) ≤ j ∧ j < off + (k + 1) + xs.length ∧ j < cells.size
    · rw [if_pos h2, if_pos (by omega)]
      rw [show j - (off + k) = (j - (off + (k + 1))) + 1 by omega, List.getElem?_cons_succ]
    · rw [if_neg h2]
      by_cases h1 : off + k = j
      · subst h1
        by_cases h3 : off + k < cells.size
        · simp [h3]
        · simp [h3]
      · rw [if_neg h1, if_neg (by omega)]

theorem fill_sound (hτ : ∀ i, (τ i).oneCell' = true) (place : Nat → Option (Nat × Nat)) : ∀ (ps : List (Nat × Value)) (qs : List (Nat × AV)) (cells : Array Value) (cs cs' : List AV),
    ps.length = qs.length → (∀ (i : Nat) p q, ps[i]? = some p → qs[i]? = some q → p.1 = q.1 ∧ RelV τ ι p.2 q.2) → RelL τ ι cells.toList cs → (∀ v ∈ cells.toList, v.oneCell' = true) →
    fillA place qs cs = some cs' → ∃ cells', Instr.fill place cells ps = some cells' ∧ RelL τ ι cells'.toList cs' ∧ ∀ v ∈ cells'.toList, v.oneCell' = true := by
  intro ps
  induction ps with
  | nil =>
    intro qs cells cs cs' hl _ hr h1 he
    cases qs with
    | nil => simp [fillA] at he; subst he; exact ⟨cells, rfl, hr, h1⟩
    | cons q qs => simp at hl
  | cons p ps ih =>
    intro qs cells cs cs' hl hp hr h1 he
    cases qs with
    | nil => simp at hl
    | cons q qs =>
      obtain ⟨i, v⟩ := p
      obtain ⟨i', a⟩ := q
      obtain ⟨e1, e2⟩ := hp 0 (i, v) (i', a) rfl rfl
      dsimp only at e1 e2
      subst e1
      simp only [fillA] at he
      cases hpl : place i with
      | none => rw [hpl] at he; simp at he
      | some os =>
        obtain ⟨off, size⟩ := os
        rw [hpl] at he
        dsimp only at he
        cases hb : (Nat.beq a.cells.length size && a.cells.all AV.one) with
        | false => rw [hb] at he; simp at he
        | true =>
          rw [hb] at he
          simp only [cond_true] at he
          simp only [Bool.and_eq_true, Nat.beq_eq] at hb
          cases hov : over off a.cells cs with
          | none => rw [hov] at he; simp at he
          | some cs1 =>
            rw [hov] at he
            dsimp only at he
            obtain ⟨g1, g2⟩ := e2.cells hτ hb.2
            obtain ⟨o1, o2, o3⟩ := over_spec _ _ _ _ hov
            have hlen := g1.1
            have hlc := hr.1
            have hvs : v.cells.size = size := by have : v.cells.toList.length = v.cells.size := by simp
                                                 omega
            obtain ⟨s1, s2⟩ := foldl_set off v.cells.toList 0 cells
            have hzip : v.cells.zipIdx.foldl (fun cs (c, j) => cs.setIfInBounds (off + j) c) cells =
                (v.cells.toList.zipIdx 0).foldl (fun (cs : Array Value) (c : Value × Nat) => cs.setIfInBounds (off + c.2) c.1) cells := by
              rw [← Array.foldl_toList, Array.toList_zipIdx]
            obtain ⟨cells', f1, f2, f3⟩ := ih qs (v.cells.zipIdx.foldl (fun cs (c, j) => cs.setIfInBounds (off + j) c) cells) cs1 cs' (by simpa using hl)
              (fun k p q x y => hp (k + 1) p q (by simpa using x) (by simpa using y))
              (by
                rw [hzip]
                refine ⟨by simp at hlc ⊢; omega, fun j u b x y => ?_⟩
                rw [Array.getElem?_toList, s2 j] at x
                rw [o3 j] at y
                simp only [Nat.add_zero] at x
                have hcs : cells.size = cs.length := by simpa using hlc
                by_cases hj : off ≤ j ∧ j < off + a.cells.length
                · rw [if_pos hj] at y
                  rw [if_pos (by omega)] at x
                  exact g1.2 _ _ _ x y
                · rw [if_neg hj] at y
                  rw [if_neg (by omega)] at x
                  exact hr.2 j u b (by simpa using x) y)
              (by
                rw [hzip]
                intro u hu
                obtain ⟨j, hj, rfl⟩ := List.getElem_of_mem hu
                have hx := List.getElem?_eq_getElem hj
                rw [Array.getElem?_toList, s2 j] at hx
                split at hx
                · exact g2 _ (List.mem_of_getElem? hx)
                · exact h1 _ (List.mem_of_getElem? (by rw [Array.getElem?_toList]; exact hx)))
              he
            refine ⟨cells', ?_, f2, f3⟩
            have hcond : (decide (v.cells.size ≠ size) || decide (off + v.cells.size > cells.size)) = false := by
              have : cells.size = cs.length := by simpa using hlc
              simp; omega
            simp only [Instr.fill, hpl, hcond]
            simpa using f1

theorem fill_sound_size (place : Nat → Option (Nat × Nat)) : ∀ (ps : List (Nat × Value)) (cells cells' : Array Value), Instr.fill place cells ps = some cells' → cells'.size = cells.size := by
  intro ps
  induction ps with
  | nil => intro cells cells' h; simp [Instr.fill] at h; rw [h]
  | cons p ps ih =>
    intro cells cells' h
    obtain ⟨i, v⟩ := p
    simp only [Instr.fill] at h
    split at h
    · simp at h
    · split at h
      · simp at h
      · have := ih _ _ h
        rw [this]
        rename_i off size _ _
        have hzip : v.cells.zipIdx.foldl (fun cs (c, j) => cs.setIfInBounds (off + j) c) cells =
            (v.cells.toList.zipIdx 0).foldl (fun (cs : Array Value) (c : Value × Nat) => cs.setIfInBounds (off + c.2) c.1) cells := by
          rw [← Array.foldl_toList, Array.toList_zipIdx]
        rw [hzip]
        exact (foldl_set off v.cells.toList 0 cells).1

theorem parts_rel {a : Act} {tm : Tm} (ht : RelT τ ι a tm) (ps : Array (Nat × Operand)) :
    ((ps.map fun (i, x) => (i, a.eval x)).toList).length = (ps.toList.map fun (i, x) => (i, evX tm x)).length ∧
    ∀ (i : Nat) p q, ((ps.map fun (i, x) => (i, a.eval x)).toList)[i]? = some p → (ps.toList.map fun (i, x) => (i, evX tm x))[i]? = some q → p.1 = q.1 ∧ RelV τ ι p.2 q.2 := by
  refine ⟨by simp, fun i p q h1 h2 => ?_⟩
  rw [Array.toList_map, List.getElem?_map] at h1
  rw [List.getElem?_map] at h2
  cases hx : ps.toList[i]? with
  | none => rw [hx] at h1; simp at h1
  | some y =>
    rw [hx] at h1 h2
    simp at h1 h2
    subst h1; subst h2
    exact ⟨rfl, ht.eval _⟩

theorem run_places (w : World) : ∀ (fields : List Field) (ps : List (Nat × Nat)), placesA P fields = some ps →
    (fields.mapM (m := Sem) fun (f : Field) => do pure (f.offset, ← sizeOf f.type)).run P w = .ok ps w := by
  intro fields
  induction fields with
  | nil => intro ps h; simp [placesA] at h; subst h; simp
  | cons f fs ih =>
    intro ps h
    simp only [placesA] at h
    split at h
    · rename_i s r hs hr
      simp at h; subst h
      simp only [List.mapM_cons, Sem.run_bind, run_size hs, Result.andThen_ok, Sem.run_pure, ih r hr]
    · simp at h

theorem build_sound (hτ : ∀ i, (τ i).oneCell' = true) {t : TypeId} {ps : Array (Nat × Operand)} {r : AV} {a : Act} {tm : Tm} (ht : RelT τ ι a tm)
    (he : buildA P t (ps.toList.map fun (i, x) => (i, evX tm x)) = some r) (w : World) :
    ∃ u, (Instr.build t (ps.map fun (i, x) => (i, a.eval x))).run P w = .ok u w ∧ RelV τ ι u r := by
  obtain ⟨pl, pr⟩ := parts_rel ht ps
  unfold buildA at he
  split at he
  · rename_i z fields hz hu
    split at he
    · rename_i places hp
      cases hb : z.cells.all AV.one with
      | false => rw [hb] at he; simp at he
      | true =>
        rw [hb] at he
        simp only [cond_true, Option.map_eq_some_iff] at he
        obtain ⟨cs, hf, rfl⟩ := he
        obtain ⟨v, hv, rfl⟩ := run_zero hz w
        obtain ⟨g1, g2⟩ := (relConst (τ := τ) (ι := ι) v).cells hτ hb
        obtain ⟨cells', f1, f2, f3⟩ := fill_sound hτ (places[·]?) _ _ v.cells _ cs pl pr g1 g2 hf
        refine ⟨.agg cells', ?_, RelL.agg f2⟩
        have hm : (fields.mapM (m := Sem) fun (f : Field) => do pure (f.offset, ← sizeOf f.type)).run P w = .ok places.toArray w := by
          rw [Array.mapM_eq_mapM_toList]
          simp only [Sem.run_map, run_places w _ _ hp, Result.andThen_ok]
        simp only [Instr.build, Sem.run_bind, hv, Result.andThen_ok, run_under hu, hm]
        have : (fun (x : Nat) => places.toArray[x]?) = fun (x : Nat) => places[x]? := by funext x; simp
        rw [this, f1]
        rfl
    · simp at he
  · rename_i z n elem hz hu
    split at he
    · rename_i size hs
      cases hb : z.cells.all AV.one with
      | false => rw [hb] at he; simp at he
      | true =>
        rw [hb] at he
        simp only [cond_true, Option.map_eq_some_iff] at he
        obtain ⟨cs, hf, rfl⟩ := he
        obtain ⟨v, hv, rfl⟩ := run_zero hz w
        obtain ⟨g1, g2⟩ := (relConst (τ := τ) (ι := ι) v).cells hτ hb
        obtain ⟨cells', f1, f2, f3⟩ := fill_sound hτ _ _ _ v.cells _ cs pl pr g1 g2 hf
        refine ⟨.agg cells', ?_, RelL.agg f2⟩
        simp only [Instr.build, Sem.run_bind, hv, Result.andThen_ok, run_under hu, run_size hs, f1]
        rfl
    · simp at he
  · simp at he

theorem repA_spec (z : List AV) : ∀ (n : Nat), (repA z n).length = n * z.length ∧ ∀ i, i < n * z.length → (repA z n)[i]? = z[i % z.length]? := by
  intro n
  induction n with
  | zero => simp [repA]
  | succ n ih =>
    refine ⟨by simp [repA, ih.1, Nat.succ_mul]; omega, fun i hi => ?_⟩
    simp only [repA]
    by_cases h1 : i < z.length
    · rw [List.getElem?_append_left h1, Nat.mod_eq_of_lt h1]
    · rw [List.getElem?_append_right (by omega), ih.2 _ (by rw [Nat.succ_mul] at hi; omega)]
      rw [Nat.mod_eq_sub_mod (by omega : i ≥ z.length)]

/-- The zero cells of a row. -/
theorem zeros_rel {zv : Array Value} {z : List AV} {n m : Nat} (hz : RelL τ ι zv.toList z) (h1 : ∀ v ∈ zv.toList, v.oneCell' = true) (hm : m = n * z.length) (hpos : 0 < z.length) :
    RelL τ ι ((Array.range m).map (zv[· % zv.size]!)).toList (repA z n) ∧ ∀ v ∈ ((Array.range m).map (zv[· % zv.size]!)).toList, v.oneCell' = true := by
  subst hm
  have hlen : zv.size = z.length := by simpa using hz.1
  obtain ⟨r1, r2⟩ := repA_spec z n
  have key : ∀ i, i < n * z.length → zv[i % zv.size]! = zv.toList[i % z.length]'(by rw [hz.1]; exact Nat.mod_lt _ hpos) := by
    intro i _
    have hlt : i % zv.size < zv.size := by rw [hlen]; exact Nat.mod_lt _ hpos
    rw [getElem!_pos zv _ hlt]
    simp [hlen]
  refine ⟨⟨by simp [r1], fun i v a x y => ?_⟩, fun v hv => ?_⟩
  · simp only [Array.toList_map, List.getElem?_map, Option.map_eq_some_iff, Array.getElem?_toList] at x
    obtain ⟨k, hk, rfl⟩ := x
    have hi : i < n * z.length := by have := (Array.getElem?_eq_some_iff.1 hk).1; simpa using this
    have : k = i := by simp [hi] at hk; exact hk.symm
    subst this
    rw [r2 k hi] at y
    rw [key k hi]
    exact hz.2 _ _ a (List.getElem?_eq_getElem _) y
  · simp only [Array.toList_map, List.mem_map] at hv
    obtain ⟨k, hk, rfl⟩ := hv
    have hi : k < n * z.length := by simpa using hk
    rw [key k hi]
    exact h1 _ (List.getElem_mem _)

theorem buildSlice_sound (hτ : ∀ i, (τ i).oneCell' = true) {t : TypeId} {len : Nat} {ps : Array (Nat × Operand)} {r : AV} {h' : Hp} {a : Act} {tm : Tm} (ht : RelT τ ι a tm)
    (he : buildSliceA P t len (ps.toList.map fun (i, x) => (i, evX tm x)) h = some (r, h')) (hto : h'.next ≤ B.top) (hr : Rel τ B ι h w) :
    ∃ w' ι' u, (Instr.buildSlice t len (ps.map fun (i, x) => (i, a.eval x))).run P w = .ok u w' ∧ RelV τ ι' u r ∧ Rel τ B ι' h' w' ∧ Ext ι h ι' h' := by
  obtain ⟨pl, pr⟩ := parts_rel ht ps
  unfold buildSliceA at he
  split at he
  · rename_i elem hu
    split at he
    · rename_i size z hs hz
      cases hb : (Nat.ble (len * size) 16777216 && Nat.beq z.cells.length size && z.cells.all AV.one && Nat.blt 0 size) with
      | false => rw [hb] at he; simp at he
      | true =>
        rw [hb] at he
        simp only [cond_true] at he
        simp only [Bool.and_eq_true, Nat.beq_eq, Nat.ble_eq, Nat.blt_eq] at hb
        obtain ⟨⟨⟨b1, b2⟩, b3⟩, b4⟩ := hb
        split at he
        · rename_i cs hf
          simp only [Option.map_eq_some_iff] at he
          obtain ⟨⟨id, h1⟩, hn, e⟩ := he
          simp at e
          obtain ⟨rfl, rfl⟩ := e
          obtain ⟨v, hv, rfl⟩ := run_zero hz w
          obtain ⟨g1, g2⟩ := (relConst (τ := τ) (ι := ι) v).cells hτ b3
          obtain ⟨z1, z2⟩ := zeros_rel (n := len) (m := len * size) g1 g2 (by rw [b2]) (by omega)
          obtain ⟨cells', f1, f2, f3⟩ := fill_sound hτ _ _ _ _ _ cs pl pr z1 z2 hf
          obtain ⟨w', ι', l, e1, e2, e3, e4, e5, e6⟩ := newRow_sound (P := P) (el := elem) hn hto hr f2 f3
          have hcs : cs.length = len * size := by
            have q1 := f2.1
            have q2 : cells'.size = len * size := by
              have := fill_sound_size _ _ _ _ f1
              simpa using this
            simp at q1; omega
          refine ⟨w', ι', .slice (some (l.at 0)) len len, ?_, .sl id 0 len len size len 0 l e4 (Nat.le_refl _) (Nat.le_refl _) ?_ (fun _ => rfl), e5, e6⟩
          · have hne : ¬ (len * size > 2 ^ 24) := by omega
            by_cases h0 : len * size = 0
            · simp only [Instr.buildSlice, Sem.run_bind, run_under hu, Result.andThen_ok, run_size hs, if_neg hne, if_pos h0, Sem.run_pure]
              have : (Array.range (len * size)).map (v.cells[· % v.cells.size]!) = (Array.range (len * size)).map ((#[] : Array Value)[· % (#[] : Array Value).size]!) := by
                rw [h0]; simp
              rw [← this, f1]
              simp [e1, Loc.at, e2]
            · simp only [Instr.buildSlice, Sem.run_bind, run_under hu, Result.andThen_ok, run_size hs, if_neg hne, if_neg h0, hv, Sem.run_pure, f1]
              simp [e1, Loc.at, e2]
          · have := f2.1
            simp at this
            omega
        · simp at he
    · simp at he
  · simp at he

end
end Go.PE
