/-
  Part of the proof: an evaluator of the model's code, proved sound, and its run (PeDraw3).
-/
import Derived.Test.YtpidolpoemlpjaaGreatPeDraw2
set_option linter.unusedVariables false
set_option linter.unusedSimpArgs false
set_option linter.unnecessarySimpa false
set_option linter.unusedSectionVars false
namespace Go.PE
section
variable {P : Program} {call : Call} {ops : Array Oper} {H : Nat → Hp} {T : Nat → Tm} {τ : Nat → Value} {B : Base} {ι0 ι : Emb} {df : List Deferred} {D : Nat → Prop} {K : Nat} {a : Act} {w : World}

/-- What the next operation is, and what is known of it. -/
structure Nxt (ops : Array Oper) (D : Nat → Prop) (j : Nat) (o : Oper) : Prop where
  ho : ops[j]? = some o
  hnd : ¬ D j
  hb : ∀ k, bit ops j k → D k

theorem Nxt.lt {j : Nat} {o : Oper} (x : Nxt ops D j o) : j < ops.size := (Array.getElem?_eq_some_iff.1 x.ho).1

theorem Trace.al_le (tr : Trace P call ops H T) (hc : CallStp call) {id j : Nat} (hj : j ≤ ops.size) (hid : id < (H j).next) : al H ops.size id ≤ j := by
  obtain ⟨h1, h2⟩ := tr.al_spec hc (id := id) (n := ops.size) (Nat.le_refl _)
  have h3 := tr.mono hc hj (Nat.le_refl _)
  obtain ⟨h4, h5⟩ := h2 (by omega)
  rcases Nat.lt_or_ge j (al H ops.size id) with h6 | h6
  · have := h5 j h6; omega
  · exact h6
theorem Trace.al_lt (tr : Trace P call ops H T) (hc : CallStp call) {id : Nat} (hid : id < (H ops.size).next) : id < (H (al H ops.size id)).next :=
  ((tr.al_spec hc (id := id) (n := ops.size) (Nat.le_refl _)).2 hid).1
theorem Trace.al_new (tr : Trace P call ops H T) (hc : CallStp call) {id j : Nat} (hj : j < ops.size) (h1 : (H j).next ≤ id) (h2 : id < (H (j + 1)).next) : al H ops.size id = j + 1 := by
  have h3 := tr.al_le hc (j := j + 1) (by omega) h2
  have h4 := tr.al_lt hc (id := id) (Nat.lt_of_lt_of_le h2 (tr.mono hc (by omega) (Nat.le_refl _)))
  rcases Nat.lt_or_ge (al H ops.size id) (j + 1) with h5 | h5
  · have := tr.mono hc (i := al H ops.size id) (j := j) (by omega) (by omega); omega
  · omega

/-- Where the writers behind and ahead of `j` are as the text has them, the blocks of before `j` are as the text has them. -/
theorem Inv.seen (inv : Inv P τ B ops H T ι0 df D K ι a w) (tr : Trace P call ops H T) (hc : CallStp call) {j : Nat} {o : Oper} (x : Nxt ops D j o)
    (hz : ∀ i, i < ops.size → Wr H i → (i < j → D i) ∧ (j < i → ¬ D i)) {id : Nat} (hid : id < (H j).next) : (H (max K (al H ops.size id))).get id = (H j).get id := by
  have hj := x.lt
  have ha := tr.al_le hc (by omega) hid
  have hal := tr.al_lt hc (id := id) (Nat.lt_of_lt_of_le hid (tr.mono hc (by omega) (Nat.le_refl _)))
  have hkn := inv.kn
  rcases Nat.le_or_ge (max K (al H ops.size id)) j with hM | hM
  · refine (tr.keep hc (p := max K (al H ops.size id)) (Nat.lt_of_lt_of_le hal (tr.mono hc (by omega) (by omega))) hM (by omega) fun i h1 h2 hw => ?_).symm
    have := (inv.kw i (by omega) hw).1 ((hz i (by omega) hw).1 h2)
    omega
  · refine tr.keep hc hid hM (by omega) fun i h1 h2 hw => ?_
    have hiK : i < K := by omega
    have hdi := (inv.kw i (by omega) hw).2 hiK
    by_cases hij : i = j
    · subst hij; exact x.hnd hdi
    · exact (hz i (by omega) hw).2 (by omega) hdi

/-- A block that `j` makes is as the text has it behind `j`, where `j` comes late. -/
theorem Inv.fresh (inv : Inv P τ B ops H T ι0 df D K ι a w) (tr : Trace P call ops H T) (hc : CallStp call) {j : Nat} {o : Oper} (x : Nxt ops D j o)
    {id : Nat} (h1 : (H j).next ≤ id) (h2 : id < (H (j + 1)).next) : (H (max K (al H ops.size id))).get id = (H (j + 1)).get id := by
  have hj := x.lt
  have hkn := inv.kn
  rw [tr.al_new hc hj h1 h2]
  have key : ∀ q, j + 1 ≤ q → q ≤ max K (j + 1) → (H q).get id = (H (j + 1)).get id := by
    intro q
    induction q with
    | zero => intro h; omega
    | succ q ih =>
      intro h3 h4
      by_cases e : q = j
      · subst e; rfl
      · rw [← ih (by omega) (by omega)]
        by_cases hw : Wr H q
        · have hdq := (inv.kw q (by omega) hw).2 (by omega)
          rcases tr.E j q (by omega) (by omega) hw with h5 | h5
          · exact absurd (inv.cl q (by omega) hdq j h5) x.hnd
          · exact h5 id h1 h2
        · by_cases hg : (H (q + 1)).get id = (H q).get id
          · exact hg
          · exact absurd ⟨id, Nat.lt_of_lt_of_le h2 (tr.mono hc (by omega) (by omega)), hg⟩ hw
  exact key _ (by omega) (Nat.le_refl _)

/-- A load tells what the text's load told. -/
theorem Inv.load (inv : Inv P τ B ops H T ι0 df D K ι a w) (tr : Trace P call ops H T) (hc : CallStp call) {j : Nat} {o : Oper} (x : Nxt ops D j o) {t : TypeId} {ad : Operand}
    (hop : o.op = .load t ad) (hw : wantedA ops.toList (T j) o = some true) {id off : Nat} (had : evX (T j) ad = .ptr id off) (hid : id < (H j).next) (hnw : ¬ Wr H j) :
    ∃ m, (H (max K (al H ops.size id))).get id = (H m).get id ∧ loadA P t (.ptr id off) (H m) = loadA P t (.ptr id off) (H j) := by
  have hj := x.lt
  have ha := tr.al_le hc (by omega) hid
  have hal := tr.al_lt hc (id := id) (Nat.lt_of_lt_of_le hid (tr.mono hc (by omega) (Nat.le_refl _)))
  have hkn := inv.kn
  rcases Nat.le_or_ge (max K (al H ops.size id)) j with hM | hM
  · have key : ∀ q, max K (al H ops.size id) ≤ q → q ≤ j → (H q).get id = (H (max K (al H ops.size id))).get id ∨
        ∃ i, max K (al H ops.size id) ≤ i ∧ i < q ∧ Wr H i ∧ (H i).get id = (H (max K (al H ops.size id))).get id := by
      intro q
      induction q with
      | zero =>
        intro h1 _
        have : max K (al H ops.size id) = 0 := by omega
        rw [this]; exact .inl rfl
      | succ q ih =>
        intro h1 h2
        by_cases e : max K (al H ops.size id) = q + 1
        · rw [e]; exact .inl rfl
        · rcases ih (by omega) (by omega) with h3 | ⟨i, i1, i2, i3, i4⟩
          · by_cases hwr : Wr H q
            · exact .inr ⟨q, by omega, by omega, hwr, h3⟩
            · left
              rw [← h3]
              by_cases hg : (H (q + 1)).get id = (H q).get id
              · exact hg
              · exact absurd ⟨id, Nat.lt_of_lt_of_le hal (tr.mono hc (by omega) (by omega)), hg⟩ hwr
          · exact .inr ⟨i, i1, by omega, i3, i4⟩
    rcases key j hM (Nat.le_refl _) with h1 | ⟨i, i1, i2, i3, i4⟩
    · exact ⟨j, h1.symm, rfl⟩
    · refine ⟨i, i4.symm, ?_⟩
      rcases tr.D1 i j o t ad i2 x.ho hw hop i3 with h2 | h2
      · have := (inv.kw i (by omega) i3).1 (x.hb i h2)
        omega
      · rw [had] at h2; exact h2
  · have hMK : max K (al H ops.size id) ≤ ops.size := by omega
    have key : ∀ q, j ≤ q → q ≤ ops.size → (H q).get id = (H j).get id ∨ ∃ i, j ≤ i ∧ i < q ∧ Wr H i ∧ (H q).get id = (H (i + 1)).get id := by
      intro q
      induction q with
      | zero =>
        intro h1 _
        have : j = 0 := by omega
        subst this; exact .inl rfl
      | succ q ih =>
        intro h1 h2
        by_cases e : j = q + 1
        · subst e; exact .inl rfl
        · by_cases hwr : Wr H q
          · exact .inr ⟨q, by omega, by omega, hwr, rfl⟩
          · have hg : (H (q + 1)).get id = (H q).get id := by
              by_cases hg : (H (q + 1)).get id = (H q).get id
              · exact hg
              · exact absurd ⟨id, Nat.lt_of_lt_of_le hid (tr.mono hc (by omega) (by omega)), hg⟩ hwr
            rw [hg]
            rcases ih (by omega) (by omega) with h3 | ⟨i, i1, i2, i3, i4⟩
            · exact .inl h3
            · exact .inr ⟨i, i1, by omega, i3, i4⟩
    rcases key _ hM hMK with h1 | ⟨i, i1, i2, i3, i4⟩
    · exact ⟨j, h1, rfl⟩
    · refine ⟨i + 1, i4, ?_⟩
      have hij : i ≠ j := fun e => hnw (e ▸ i3)
      have hiK : i < K := by omega
      have hdi := (inv.kw i (by omega) i3).2 hiK
      rcases tr.D2 j i o t ad (by omega) (by omega) x.ho hw hop i3 with h2 | h2
      · exact absurd (inv.cl i (by omega) hdi j h2) x.hnd
      · rw [had] at h2; exact h2
end
end Go.PE
