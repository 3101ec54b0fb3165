/-
  Part of the proof: an evaluator of the model's code, proved sound, and its run (PeOps4).
-/
import Derived.Test.YtpidolpoemlpjaaGreatPeOps3
set_option linter.unusedVariables false
set_option linter.unusedSimpArgs false
set_option linter.unnecessarySimpa false
set_option linter.unusedSectionVars false
namespace Go.PE
section
variable {P : Program} {τ : Nat → Value} {B : Base} {ι : Emb} {h : Hp} {w : World}

theorem strOf_extract (s : ByteArray) (a b : Nat) : strOf (s.extract a b) = ((strOf s).drop a).take (b - a) := by
  unfold strOf
  have : (s.extract a b).data = s.data.extract a b := by simp
  rw [this, Array.toList_extract, List.extract_eq_take_drop, List.map_take, List.map_drop]

theorem slice_sound {t : TypeId} {x r : AV} {u : Value} {lo hi mx : Option AV} {vlo vhi vmx : Option Value} (hu : RelV τ ι u x)
    (hlo : ∀ x, lo = some x → ∃ v, vlo = some v ∧ RelV τ ι v x) (hlo' : lo = none → vlo = none)
    (hhi : ∀ x, hi = some x → ∃ v, vhi = some v ∧ RelV τ ι v x) (hhi' : hi = none → vhi = none)
    (hmx : ∀ x, mx = some x → ∃ v, vmx = some v ∧ RelV τ ι v x) (hmx' : mx = none → vmx = none)
    (he : sliceA P t x lo hi mx = some r) (w : World) :
    ∃ z, (Instr.sliceAt t u vlo vhi vmx).run P w = .ok z w ∧ RelV τ ι z r := by
  unfold sliceA at he
  split at he
  · rename_i l hun
    obtain ⟨s, rfl, rfl⟩ := hu.str_inv
    split at he
    · rename_i a b ea eb
      cases hb : (Nat.ble a b && Nat.ble b (strOf s).length) with
      | false => rw [hb] at he; simp at he
      | true =>
        rw [hb] at he
        simp only [cond_true, Option.some.injEq] at he
        subst he
        simp only [Bool.and_eq_true, Nat.ble_eq, strOf_length] at hb
        have := bounds_sound (P := P) (isSlice := false) (len := s.size) (cap := s.size) (cA := s.size) (τ := τ) (ι := ι) hlo hlo' hhi hhi' hmx hmx' ea (by rw [strOf_length] at eb; exact eb) rfl (by simp) hb.1 hb.2 (Nat.le_refl _) w
        rw [hmx' rfl] at this ⊢
        refine ⟨.string (s.extract a b), ?_, ?_⟩
        · simp only [Instr.sliceAt, Sem.run_bind, run_under hun, Result.andThen_ok, Instr.slice]
          simp [run_under hun, this]
        · rw [← strOf_extract]; exact .str _
    · simp at he
  · rename_i elem id off len cap sz hun
    obtain ⟨l, cc, o', hl, h1, h2, h3, h4, rfl⟩ := hu.sl_inv
    split at he
    · rename_i a b c s ea eb ec hs
      cases hb : (Nat.ble a b && Nat.ble b c && Nat.ble c cap && Nat.beq s sz && (mx.isNone || hi.isSome)) with
      | false => rw [hb] at he; simp at he
      | true =>
        rw [hb] at he
        simp only [cond_true, Option.some.injEq] at he
        subst he
        simp only [Bool.and_eq_true, Nat.ble_eq, Nat.beq_eq] at hb
        obtain ⟨⟨⟨⟨b1, b2⟩, b3⟩, rfl⟩, b5⟩ := hb
        have hmh : mx ≠ none → hi ≠ none := by
          intro hm hh; subst hh; cases mx <;> simp at hm b5
        have := bounds_sound (P := P) (isSlice := true) (len := len) (cap := cc) (cA := cap) (τ := τ) (ι := ι) hlo hlo' hhi hhi' hmx hmx' ea eb ec hmh b1 b2 (by omega) w
        have hrun : (Instr.sliceAt t (.slice (some (l.at o')) len cc) vlo vhi vmx).run P w =
            .ok (.slice (if (if mx = none then cc else c) = a then some (l.at o') else some ((l.at o').add (a * s))) (b - a) ((if mx = none then cc else c) - a)) w := by
          simp only [Instr.sliceAt, Sem.run_bind, run_under hun, Result.andThen_ok, Instr.slice, this, run_size hs, Sem.run_pure, Option.map_some]
        rw [hrun]
        generalize hm : (if mx = none then cc else c) = m
        have hcm : c ≤ m ∧ m ≤ cc := by
          subst hm
          split
          · rename_i e; subst e; simp [boundA] at ec; omega
          · omega
        have hmul : (m - a) * s + a * s ≤ cc * s := by
          rw [← Nat.add_mul]; exact Nat.mul_le_mul_right _ (by omega)
        by_cases hma : m = a
        · refine ⟨_, rfl, ?_⟩
          rw [if_pos hma]
          exact .sl id _ _ _ s (m - a) o' l hl (by omega) (by omega) (by omega) (by omega)
        · refine ⟨_, rfl, ?_⟩
          rw [if_neg hma, Loc.at_add]
          have : o' = off := h4 (by omega)
          subst this
          exact .sl id _ _ _ s (m - a) _ l hl (by omega) (by omega) (by omega) (fun _ => rfl)
    · simp at he
  · rename_i elem hun
    obtain rfl := hu.nils_inv
    split at he
    · rename_i sz ea eb ec hs
      cases hb : (mx.isNone || hi.isSome) with
      | false => rw [hb] at he; simp at he
      | true =>
        rw [hb] at he
        simp only [cond_true, Option.some.injEq] at he
        subst he
        have hmh : mx ≠ none → hi ≠ none := by
          intro hm hh; subst hh; cases mx <;> simp at hm hb
        have := bounds_sound (P := P) (isSlice := true) (len := 0) (cap := 0) (cA := 0) (τ := τ) (ι := ι) hlo hlo' hhi hhi' hmx hmx' ea eb ec hmh (Nat.le_refl _) (Nat.le_refl _) (Nat.le_refl _) w
        refine ⟨.slice none 0 0, ?_, .nils⟩
        have hz : (if mx = none then 0 else 0) = 0 := by split <;> rfl
        rw [hz] at this
        simp only [Instr.sliceAt, Sem.run_bind, run_under hun, Result.andThen_ok, Instr.slice, this, run_size hs, Sem.run_pure]
        simp
    · simp at he
  · simp at he

end
end Go.PE
