/-
  Part of the proof: an evaluator of the model's code, proved sound, and its run (PeK6).
-/
import Derived.Test.YtpidolpoemlpjaaGreatPeK5
import Derived.Test.YtpidolpoemlpjaaGreatPeFresh
set_option linter.unusedVariables false
set_option linter.unusedSimpArgs false
set_option linter.unnecessarySimpa false
set_option linter.unusedSectionVars false
namespace Go.PE
noncomputable section
variable {P : Program} {D : BT (Option TbL)} {τ : Nat → Value}
/-- A set of functions, as a number. -/
def bitOf (mask : Nat) (f : FuncId) : Bool := Nat.beq (Nat.land (Nat.shiftRight mask f) 1) 1
/-- Floors of memos within: `mask1`, `mask2` plain; `mask3` with new memory; `W` outside. -/
def pk1 (P : Program) (D : BT (Option TbL)) : Call := evK P D (fun c => c) 20
def pk2 (P : Program) (D : BT (Option TbL)) (mask1 : Nat) : Call := evK P D (memoW (bitOf mask1) (pk1 P D)) 20
def pk3 (P : Program) (D : BT (Option TbL)) (mask1 mask2 : Nat) : Call := evK P D (memoW (bitOf mask2) (pk2 P D mask1)) 200
def evM (P : Program) (D : BT (Option TbL)) (mask1 mask2 mask3 : Nat) (W : Call → Call) (n : Nat) : Call :=
  evK P D (fun c => W (freshW (bitOf mask3) (pk3 P D mask1 mask2) (memoW (bitOf mask2) (pk2 P D mask1) c))) n
theorem evM_ok (hD : TabOk P D) {Z : Zed} (hτ : ∀ i, (τ i).oneCell' = true) (hbits : BitsOk P) (hm : P.follows .mixedOrders = true) (mask1 mask2 mask3 : Nat) (W : Call → Call)
    (hW : ∀ call, CallSound P τ Z call → CallStp call → CallSound P τ Z (W call) ∧ CallStp (W call)) (n : Nat) :
    CallSound P τ Z (evM P D mask1 mask2 mask3 W n) ∧ CallStp (evM P D mask1 mask2 mask3 W n) := by
  have h1 : CallSound P τ Z (pk1 P D) ∧ CallStp (pk1 P D) := evK_ok hD hτ hbits hm _ (fun c a b => ⟨a, b⟩) _
  have h2 : CallSound P τ Z (pk2 P D mask1) ∧ CallStp (pk2 P D mask1) := evK_ok hD hτ hbits hm _ (fun c a b => memo_sound h1.1 h1.2 a b) _
  have h3 : CallSound P τ Z (pk3 P D mask1 mask2) ∧ CallStp (pk3 P D mask1 mask2) := evK_ok hD hτ hbits hm _ (fun c a b => memo_sound h2.1 h2.2 a b) _
  exact evK_ok hD hτ hbits hm _ (fun c a b => let h := memo_sound (tab := bitOf mask2) h2.1 h2.2 a b; let g := fresh_sound (tab := bitOf mask3) h3.1 h3.2 h.1 h.2; hW _ g.1 g.2) _
end
end Go.PE
