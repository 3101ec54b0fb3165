/-
  Part of the proof: an evaluator of the model's code, proved sound, and its run (PeTrace).
-/
import Derived.Test.YtpidolpoemlpjaaGreatPeMerge
import Derived.Test.YtpidolpoemlpjaaGreatPeBefore
set_option linter.unusedVariables false
set_option linter.unusedSimpArgs false
set_option linter.unnecessarySimpa false
set_option linter.unusedSectionVars false
namespace Go.PE
section
theorem sameF_eq : ∀ a b : AV, sameF a b = true → a = b := by
  intro a b h
  cases a <;> cases b <;> simp [sameF, eqI_eq, eqL_eq] at h ⊢ <;> first | exact h | skip
  all_goals (try simp [h])
theorem sameL_eq : ∀ as bs : List AV, sameL as bs = true → as = bs := by
  intro as
  induction as with
  | nil => intro bs h; cases bs <;> simp [sameL] at h ⊢
  | cons a as ih =>
    intro bs h
    cases bs with
    | nil => simp [sameL] at h
    | cons b bs =>
      simp only [sameL] at h
      cases hb : sameF a b with
      | false => rw [hb] at h; simp at h
      | true => rw [hb] at h; rw [sameF_eq a b hb, ih bs h]
theorem sameA_eq {a b : AV} (h : sameA a b = true) : a = b := by
  unfold sameA at h
  split at h
  · rw [sameL_eq _ _ h]
  · exact sameF_eq _ _ h
theorem sameB_eq {a b : Option Blk} (h : sameB a b = true) : a = b := by
  unfold sameB at h
  split at h
  · rw [sameL_eq _ _ h]
  · rfl
  · simp at h
theorem stays_eq {P : Program} {t : TypeId} {a v : AV} {h : Hp} (e : stays P t a v h = true) : loadA P t a h = some v := by
  unfold stays at e
  split at e
  · rename_i v' hv; rw [hv, sameA_eq e]
  · simp at e

variable {P : Program} {call : Call} {ops : List Oper}

theorem drStep_spec {o : Oper} {i bi : Nat} {d d' : Dr} (e : drStep P call ops o i bi d = some d') :
    (wantedA ops d.s.tm o = some false ∧ d'.s.tm = putD d.s.tm o.dst (.tup []) ∧ d'.s.h = d.s.h ∧ d'.ws = d.ws ∧ d'.rs = d.rs ∧ d'.lds = d.lds ∧ d'.als = d.als) ∨
    (wantedA ops d.s.tm o = some true ∧ ∃ v h1, evOp P call d.s.tm o ⟨d.s.h.t, d.s.h.next, noId⟩ = some (v, h1) ∧ d'.s.tm = putD d.s.tm o.dst v ∧ d'.s.h.t = h1.t ∧ d'.s.h.next = h1.next ∧
      d'.s.h.lw ≤ d.s.h.lw ∧ d'.s.h.lw ≤ h1.lw ∧
      ((∃ t a, o.op = .load t a ∧ (∀ x ∈ d.ws, Nat.testBit bi x.1 = true ∨ stays P t (evX d.s.tm a) v x.2 = true) ∧ d'.ws = d.ws ∧ d'.rs = d.rs ∧ d'.lds = (i, t, evX d.s.tm a, v) :: d.lds ∧ d'.als = d.als) ∨
       ((∀ t a, o.op ≠ .load t a) ∧ h1.lw < d.s.h.next ∧ (∀ x ∈ d.ws, Nat.testBit bi x.1 = true) ∧ (∀ x ∈ d.rs, Nat.testBit bi x = true) ∧
          (∀ x ∈ d.lds, Nat.testBit bi x.1 = true ∨ stays P x.2.1 x.2.2.1 x.2.2.2 d'.s.h = true) ∧ (∀ x ∈ d.als, Nat.testBit bi x.1 = true ∨ sameB (d.s.h.get x.2) (d'.s.h.get x.2) = true) ∧
          d'.ws = (i, d.s.h) :: d.ws ∧ d'.rs = d.rs ∧ d'.lds = d.lds ∧ d'.als = d.als) ∨
       ((∀ t a, o.op ≠ .load t a) ∧ ¬ h1.lw < d.s.h.next ∧ looks o = true ∧ (∀ x ∈ d.ws, Nat.testBit bi x.1 = true) ∧ d'.ws = d.ws ∧ d'.rs = i :: d.rs ∧ d'.lds = d.lds ∧ d'.als = d.als) ∨
       ((∀ t a, o.op ≠ .load t a) ∧ ¬ h1.lw < d.s.h.next ∧ looks o = false ∧ d'.ws = d.ws ∧ d'.rs = d.rs ∧ d'.lds = d.lds ∧
          d'.als = bif Nat.blt d.s.h.next h1.next then (i, d.s.h.next) :: d.als else d.als))) := by
  unfold drStep at e
  split at e
  · rename_i hw
    cases hev : evOp P call d.s.tm o ⟨d.s.h.t, d.s.h.next, noId⟩ with
    | none => simp only [hev] at e; simp at e
    | some pr =>
      obtain ⟨v, h1⟩ := pr
      simp only [hev] at e
      have hlw : ∀ x y : Nat, (bif Nat.blt x y then x else y) ≤ y ∧ (bif Nat.blt x y then x else y) ≤ x := by
        intro x y
        cases hb : Nat.blt x y with
        | true => have : x < y := by simpa [Nat.blt_eq] using hb
                  simp; omega
        | false => have : ¬ x < y := by intro hc; rw [← Nat.blt_eq] at hc; rw [hb] at hc; simp at hc
                   simp; omega
      refine .inr ⟨hw, v, h1, rfl, ?_⟩
      split at e
      · rename_i t a hop
        rw [Bool.cond_eq_ite] at e
        split at e
        · rename_i hc
          simp only [Option.some.injEq] at e
          subst e
          refine ⟨rfl, rfl, rfl, (hlw _ _).1, (hlw _ _).2, .inl ⟨t, a, hop, fun x hx => ?_, rfl, rfl, rfl, rfl⟩⟩
          have := List.all_eq_true.1 hc x hx
          simpa using this
        · simp at e
      · rename_i hop
        have hnl : ∀ t a, o.op ≠ .load t a := fun t a h => hop t a h
        rw [Bool.cond_eq_ite] at e
        split at e
        · rename_i hlt
          have hlt' : h1.lw < d.s.h.next := by simpa [Nat.blt_eq] using hlt
          rw [Bool.cond_eq_ite] at e
          split at e
          · rename_i hc
            simp only [Option.some.injEq] at e
            subst e
            simp only [Bool.and_eq_true, List.all_eq_true] at hc
            obtain ⟨⟨⟨c1, c2⟩, c3⟩, c4⟩ := hc
            refine ⟨rfl, rfl, rfl, (hlw _ _).1, (hlw _ _).2, .inr (.inl ⟨hnl, hlt', fun x hx => c1 x hx, fun x hx => c2 x hx, fun x hx => ?_, fun x hx => ?_, rfl, rfl, rfl, rfl⟩)⟩
            · have := c3 x hx; simpa using this
            · have := c4 x hx; simpa using this
          · simp at e
        · rename_i hlt
          have hlt' : ¬ h1.lw < d.s.h.next := by intro hc; apply hlt; rw [Nat.blt_eq]; exact hc
          rw [Bool.cond_eq_ite] at e
          split at e
          · rename_i hl
            rw [Bool.cond_eq_ite] at e
            split at e
            · rename_i hc
              simp only [Option.some.injEq] at e
              subst e
              exact ⟨rfl, rfl, rfl, (hlw _ _).1, (hlw _ _).2, .inr (.inr (.inl ⟨hnl, hlt', hl, fun x hx => List.all_eq_true.1 hc x hx, rfl, rfl, rfl, rfl⟩))⟩
            · simp at e
          · rename_i hl
            simp only [Option.some.injEq] at e
            subst e
            exact ⟨rfl, rfl, rfl, (hlw _ _).1, (hlw _ _).2, .inr (.inr (.inr ⟨hnl, hlt', by simpa using hl, rfl, rfl, rfl, rfl⟩))⟩
  · rename_i hw
    simp only [Option.some.injEq] at e
    subst e
    exact .inl ⟨hw, rfl, rfl, rfl, rfl, rfl, rfl⟩
  · simp at e

end
end Go.PE
