/-
  Part of the proof: an evaluator of the model's code, proved sound, and its run (PeDraw2).
-/
import Derived.Test.YtpidolpoemlpjaaGreatPeDraw
set_option linter.unusedVariables false
set_option linter.unusedSimpArgs false
set_option linter.unnecessarySimpa false
set_option linter.unusedSectionVars false
namespace Go.PE
section
variable {P : Program} {call : Call} {ops : Array Oper} {H : Nat → Hp} {T : Nat → Tm} {τ : Nat → Value} {B : Base} {ι0 ι : Emb} {df : List Deferred} {D : Nat → Prop} {K : Nat} {a : Act} {w : World}

theorem Inv.look (inv : Inv P τ B ops H T ι0 df D K ι a w) (dk : Dk ops) (tr : Trace P call ops H T) {j : Nat} {o : Oper} (ho : ops[j]? = some o) (hnd : ¬ D j)
    (hb : ∀ k, bit ops j k → D k) {t : Nat} (ht : t ∈ o.looksAt ops) : RelV τ ι (a.tmps.getD t undef) (Tm.at (T j) t) := by
  have hj : j < ops.size := (Array.getElem?_eq_some_iff.1 ho).1
  by_cases hex : ∃ (i : Nat) (oi : Oper), ops[i]? = some oi ∧ oi.dst = some t
  · obtain ⟨i, oi, hi, hd⟩ := hex
    have hin : i < ops.size := (Array.getElem?_eq_some_iff.1 hi).1
    have uniq : ∀ k ok, ops[k]? = some ok → ok.dst = some t → k = i := fun k ok hk hkd => by
      rcases (dk k i ok oi t hk hi hkd).1 with h1 | h1
      · exact h1
      · exact absurd hd h1
    rcases (dk i j oi o t hi ho hd).2 with h1 | ⟨h1, h2⟩ | ⟨h1, h2⟩
    · exact absurd ht h1
    · rw [tr.tm (p := i + 1) (by omega) (by omega) (fun k ok hk1 _ hk hkd => by have := uniq k ok hk hkd; omega)]
      exact inv.t1 i oi t (hb i h2) hi hd
    · have hni : ¬ D i := fun hdi => hnd (inv.cl i hin hdi j h2)
      rw [tr.tm (p := 0) (by omega) (by omega) (fun k ok _ hk2 hk hkd => by have := uniq k ok hk hkd; omega)]
      exact inv.t2 t fun k ok hk hkd => by have := uniq k ok hk hkd; subst this; exact hni
  · rw [tr.tm (p := 0) (by omega) (by omega) (fun k ok _ _ hk hkd => hex ⟨k, ok, hk, hkd⟩)]
    exact inv.t2 t fun k ok hk hkd => absurd ⟨k, ok, hk, hkd⟩ hex

theorem Inv.masked (inv : Inv P τ B ops H T ι0 df D K ι a w) (dk : Dk ops) (tr : Trace P call ops H T) {j : Nat} {o : Oper} (ho : ops[j]? = some o) (hnd : ¬ D j)
    (hb : ∀ k, bit ops j k → D k) : RelT τ ι a (mask (o.looksAt ops) (T j)) := by
  have hj : j < ops.size := (Array.getElem?_eq_some_iff.1 ho).1
  refine ⟨by rw [mask_length, tr.len (by omega)]; simpa using inv.size, fun i v x h1 h2 => ?_⟩
  rw [mask_get] at h2
  cases hx : (T j)[i]? with
  | none => rw [hx] at h2; simp at h2
  | some y =>
    rw [hx] at h2
    simp only [Option.map_some, Option.some.injEq] at h2
    split at h2
    · rename_i hc
      subst h2
      have := inv.look dk tr ho hnd hb (t := i) (by simpa using hc)
      rw [Tm.at_eq, hx] at this
      have hv : a.tmps.getD i undef = v := by
        have h1' : a.tmps[i]? = some v := by simpa using h1
        obtain ⟨hlt, he⟩ := Array.getElem?_eq_some_iff.1 h1'
        simp [Array.getD, hlt, he]
      rw [hv] at this
      exact this
    · subst h2; exact .dead v

theorem evX_mask {o : Oper} {tm : Tm} : ∀ x ∈ o.op.operands, evX tm x = evX (mask (o.looksAt ops) tm) x := by
  intro x hx
  cases x with
  | tmp t =>
    refine (mask_at _ _ _ ?_).symm
    exact List.mem_append_left _ (List.mem_filterMap.2 ⟨.tmp t, by simpa using hx, rfl⟩)
  | _ => rfl

theorem wanted_mask {o : Oper} {tm : Tm} : wantedA ops.toList (mask (o.looksAt ops) tm) o = wantedA ops.toList tm o := by
  unfold wantedA
  cases hg : o.guard with
  | none => rfl
  | some gw =>
    obtain ⟨g, want⟩ := gw
    simp only []
    cases hd : (ops.toList[g]?).bind (·.dst) with
    | none => rfl
    | some d =>
      simp only []
      rw [mask_at]
      unfold Oper.looksAt
      rw [hg]
      refine List.mem_append_right _ ?_
      simp only [Array.getElem?_toList] at hd
      simp [hd]

theorem wanted_sound {o : Oper} {tm : Tm} {b : Bool} (ht : RelT τ ι a tm) (h : wantedA ops.toList tm o = some b) : Region.wanted o (yielded ops a.tmps) = b := by
  unfold wantedA at h
  unfold Region.wanted
  cases hg : o.guard with
  | none => rw [hg] at h; simp at h; simp [h]
  | some gw =>
    obtain ⟨g, want⟩ := gw
    rw [hg] at h
    simp only [Array.getElem?_toList] at h
    simp only []
    unfold yielded
    cases hd : (ops[g]?).bind (·.dst) with
    | none => rw [hd] at h; simp at h
    | some d =>
      rw [hd] at h
      simp only [] at h
      have hv := ht.at d
      simp only [Option.bind_some]
      split at h
      · rename_i b' hb
        rw [hb] at hv
        have hv' := hv.bool_inv
        simp only [Option.some.injEq] at h
        have : a.tmps[d]? = some (.bool b') := by
          by_cases hlt : d < a.tmps.size
          · simp only [Array.getD, hlt, dif_pos] at hv'
            rw [Array.getElem?_eq_getElem hlt]
            simpa using hv'
          · simp [Array.getD, hlt, undef] at hv'
        rw [this]
        simp only []
        rw [← h]
        cases b' <;> cases want <;> rfl
      · rename_i hb
        rw [hb] at hv
        obtain ⟨xs, hv', _⟩ := hv.tup_inv
        simp only [Option.some.injEq] at h
        subst h
        have : ∀ b', a.tmps[d]? ≠ some (.bool b') := by
          intro b' hc
          obtain ⟨hlt, he⟩ := Array.getElem?_eq_some_iff.1 hc
          simp only [Array.getD, hlt, dif_pos] at hv'
          have : (a.tmps[d] : Value) = .tuple xs := by simpa using hv'
          rw [he] at this; simp at this
        cases hq : a.tmps[d]? with
        | none => simp
        | some v =>
          cases v with
          | bool b' => exact absurd hq (this b')
          | _ => simp
      · simp at h

/-- One more operation is done. -/
theorem Inv.done (inv : Inv P τ B ops H T ι0 df D K ι a w) (dk : Dk ops) (tr : Trace P call ops H T) {j : Nat} {o : Oper} (ho : ops[j]? = some o)
    (hb : ∀ k, bit ops j k → D k) {K' : Nat} {ι' : Emb} {w' : World} {v : Value} {x : AV} (hv : RelV τ ι' v x) (hT : T (j + 1) = putD (T j) o.dst x)
    (hk : K' ≤ ops.size) (hkw : ∀ i, i < ops.size → Wr H i → ((D i ∨ i = j) ↔ i < K')) (hs : Sub ι ι')
    (hdom : ∀ id l, ι' id = some l → ι id = some l ∨ ((H j).next ≤ id ∧ id < (H (j + 1)).next)) (hc : CallStp call)
    (hrel : RelG τ B ι' (fun id => (H (max K' (al H ops.size id))).get id) (H ops.size).next w') : Inv P τ B ops H T ι0 df (fun i => D i ∨ i = j) K' ι' (a.put o.dst v) w' := by
  have hj : j < ops.size := (Array.getElem?_eq_some_iff.1 ho).1
  have hget : ∀ t, o.dst ≠ some t → (a.put o.dst v).tmps.getD t undef = a.tmps.getD t undef := by
    intro t ht
    cases hd : o.dst with
    | none => rfl
    | some d =>
      have : d ≠ t := fun e => ht (by rw [hd, e])
      simp [Act.put, Array.getD_eq_getD_getElem?, Array.getElem?_setIfInBounds, this]
  refine ⟨hk, hkw, ?_, hrel, ?_, ?_, ?_, ?_, inv.sub.trans hs, ?_, ?_⟩
  · rintro i hi (h1 | rfl) k hk
    · exact .inl (inv.cl i hi h1 k hk)
    · exact .inl (hb k hk)
  · intro id l hid
    rcases hdom id l hid with h1 | h1
    · rcases inv.dom id l h1 with h2 | h2 | ⟨i, h2, h3, h4⟩
      · exact .inl h2
      · exact .inr (.inl h2)
      · exact .inr (.inr ⟨i, h2, .inl h3, h4⟩)
    · exact .inr (.inr ⟨j, hj, .inr rfl, h1⟩)
  · rintro i oi t hdi hi hd
    by_cases hij : i = j
    · subst hij
      rw [ho] at hi; simp at hi; subst hi
      rw [hT, hd]
      have hlen : (T i).length = a.tmps.size := by rw [tr.len (by omega), inv.size]
      by_cases hlt : t < a.tmps.size
      · have h1 : (a.put (some t) v).tmps.getD t undef = v := by simp [Act.put, Array.getD, hlt]
        have h2 : Tm.at (putD (T i) (some t) x) t = x := by
          rw [Tm.at_eq]; simp [putD, Tm.put_get, hlen, hlt]
        rw [h1, h2]
        exact hv
      · have h2 : Tm.at (putD (T i) (some t) x) t = .dead := by
          rw [Tm.at_eq]; simp only [putD, Tm.put_get, hlen, hlt, and_false, if_false]
          rw [List.getElem?_eq_none (Nat.le_trans (Nat.le_of_eq hlen) (Nat.le_of_not_lt hlt))]; rfl
        rw [h2]
        exact .dead _
    · have hdi' : D i := hdi.resolve_right hij
      have hne : o.dst ≠ some t := by
        rcases (dk i j oi o t hi ho hd).1 with h1 | h1
        · exact absurd h1 hij
        · exact h1
      rw [hget t hne]
      exact (inv.t1 i oi t hdi' hi hd).mono hs
  · intro t hno
    have hne : o.dst ≠ some t := fun hd => hno j o ho hd (.inr rfl)
    rw [hget t hne]
    exact (inv.t2 t fun i oi hi hd hdi => hno i oi hi hd (.inl hdi)).mono hs
  · have : (a.put o.dst v).tmps.size = a.tmps.size := by cases o.dst <;> simp [Act.put]
    rw [this]; exact inv.size
  · intro id l hid
    rcases hdom id l hid with h1 | h1
    · exact inv.ext id l h1
    · have h2 := tr.mono hc (i := 0) (j := j) (by omega) (by omega)
      have h3 := tr.mono hc (i := j + 1) (j := ops.size) (by omega) (by omega)
      exact .inr ⟨by omega, by omega⟩
  · have : (a.put o.dst v).defers = a.defers := by cases o.dst <;> simp [Act.put]
    rw [this]; exact inv.df
end
end Go.PE
