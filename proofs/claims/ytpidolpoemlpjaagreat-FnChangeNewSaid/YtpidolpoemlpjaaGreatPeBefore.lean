/-
  Part of the proof: an evaluator of the model's code, proved sound, and its run (PeBefore).
-/
import Derived.Orders
set_option linter.unusedVariables false
set_option linter.unusedSimpArgs false
set_option linter.unnecessarySimpa false
set_option linter.unusedSectionVars false
namespace Go.PE

theorem bits_fold (acc : Array Nat) (k : Nat) : ∀ (es : List Edge) (s : Nat),
    Nat.testBit (es.foldl (fun s e => if Region.binds .any e then s ||| 2 ^ e.on ||| acc.getD e.on 0 else s) s) k = true →
    Nat.testBit s k = true ∨ ∃ e ∈ es, Region.binds .any e = true ∧ (e.on = k ∨ Nat.testBit (acc.getD e.on 0) k = true) := by
  intro es
  induction es with
  | nil => intro s h; exact .inl h
  | cons e es ih =>
    intro s h
    simp only [List.foldl_cons] at h
    rcases ih _ h with h1 | ⟨e', m, h2⟩
    · split at h1
      · rename_i hb
        rw [Nat.testBit_or, Nat.testBit_or] at h1
        simp only [Bool.or_eq_true] at h1
        rcases h1 with (h1 | h1) | h1
        · exact .inl h1
        · refine .inr ⟨e, by simp, hb, .inl ?_⟩
          rw [Nat.testBit_two_pow] at h1
          simpa using h1
        · exact .inr ⟨e, by simp, hb, .inr h1⟩
      · exact .inl h1
    · exact .inr ⟨e', by simp [m], h2⟩

theorem before_go : ∀ (l : List Oper) (acc : Array Nat),
    let full := l.foldl (fun (acc : Array Nat) (o : Oper) => acc.push (o.after.foldl (fun s e => if Region.binds .any e then s ||| 2 ^ e.on ||| acc.getD e.on 0 else s) 0)) acc
    full.size = acc.size + l.length ∧ (∀ j, j < acc.size → full.getD j 0 = acc.getD j 0) ∧
    ∀ i o, l[i]? = some o → ∀ k, Nat.testBit (full.getD (acc.size + i) 0) k = true →
      ∃ e ∈ o.after.toList, Region.binds .any e = true ∧ (e.on = k ∨ Nat.testBit (full.getD e.on 0) k = true) := by
  intro l
  induction l with
  | nil => intro acc; simp
  | cons o l ih =>
    intro acc
    simp only [List.foldl_cons]
    generalize hv : (o.after.foldl (fun s e => if Region.binds .any e then s ||| 2 ^ e.on ||| acc.getD e.on 0 else s) 0) = v
    obtain ⟨h1, h2, h3⟩ := ih (acc.push v)
    refine ⟨by rw [h1]; simp; omega, fun j hj => ?_, fun i o' ho k hk => ?_⟩
    · rw [h2 j (by simp; omega)]
      simp [Array.getD, hj, Array.getElem_push, show j < acc.size + 1 by omega]
    · cases i with
      | zero =>
        simp at ho; subst ho
        rw [Nat.add_zero, h2 _ (by simp)] at hk
        have : (acc.push v).getD acc.size 0 = v := by simp [Array.getD]
        rw [this, ← hv, ← Array.foldl_toList] at hk
        rcases bits_fold acc k _ _ hk with h4 | ⟨e, m, hb, h4⟩
        · simp at h4
        · refine ⟨e, m, hb, h4.imp id fun h5 => ?_⟩
          by_cases hlt : e.on < acc.size
          · rw [h2 _ (by simp; omega)]
            simpa [Array.getD, hlt, Array.getElem_push, show e.on < acc.size + 1 by omega] using h5
          · simp [Array.getD, hlt] at h5
      | succ i =>
        have := h3 i o' (by simpa using ho) k (by
          rw [Array.size_push, show acc.size + 1 + i = acc.size + (i + 1) by omega]; exact hk)
        exact this

theorem before_size (ops : Array Oper) : (Region.before ops).size = ops.size := by
  unfold Region.before
  rw [← Array.foldl_toList]
  have := (before_go ops.toList #[]).1
  simpa using this

theorem before_spec (ops : Array Oper) {j k : Nat} {o : Oper} (ho : ops[j]? = some o) (hk : Nat.testBit ((Region.before ops).getD j 0) k = true) :
    ∃ e ∈ o.after, Region.binds .any e = true ∧ (e.on = k ∨ Nat.testBit ((Region.before ops).getD e.on 0) k = true) := by
  unfold Region.before at hk ⊢
  rw [← Array.foldl_toList] at hk ⊢
  obtain ⟨_, _, h3⟩ := before_go ops.toList #[]
  obtain ⟨e, m, h⟩ := h3 j o (by simpa using ho) k (by simpa using hk)
  exact ⟨e, by simpa using m, h⟩
end Go.PE
