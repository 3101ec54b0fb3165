/-
  Part of the proof: an evaluator of the model's code, proved sound, and its run (PeBase).
-/
import Derived.Test.YtpidolpoemlpjaaGreatPeMemo
set_option linter.unusedVariables false
set_option linter.unusedSimpArgs false
set_option linter.unnecessarySimpa false
set_option linter.unusedSectionVars false
namespace Go.PE
noncomputable section
/-! What the twin for the kernel takes of the evaluator. -/
def Refines (c' c : Call) : Prop := ∀ f a h r, c' f a h = some r → c f a h = some r
theorem Refines.refl (c : Call) : Refines c c := fun _ _ _ _ h => h
def okX (n : Nat) : Operand → Bool
  | .tmp k => Nat.blt k n
  | _ => true
def okO (n : Nat) (o : Oper) : Bool := o.op.operands.toList.all (okX n) && (match o.dst with | some d => Nat.blt d n | none => true)
def lwMin (a b : Nat) : Nat := bif Nat.blt a b then a else b
theorem evOp_mono {P : Program} {c' c : Call} (hc : Refines c' c) {tm : Tm} {o : Oper} {h : Hp} {r : AV × Hp} (he : evOp P c' tm o h = some r) : evOp P c tm o h = some r := by
  obtain ⟨dst, op, type, pos, after, guard⟩ := o
  cases op <;> try exact he
  case makeFunc fn _ _ => cases fn <;> exact he
  case makeMap t r => cases r <;> exact he
  case call k =>
    simp only [evOp] at he ⊢
    cases hk : k.callee with
    | value f =>
      rw [hk] at he
      simp only [] at he ⊢
      split at he
      · rename_i f' a b hx
        cases hb : isBits P f' with
        | true => rw [hb] at he; simpa [hb] using he
        | false => rw [hb] at he; simp only [cond_false] at he ⊢; exact hc _ _ _ _ he
      · simp at he
    | builtin b => rw [hk] at he; exact he
    | invoke r m => rw [hk] at he; exact he
end
end Go.PE
