/-
  Part of the proof: an evaluator of the model's code, proved sound, and its run (PeK6).
-/
import Derived.Test.YtpidolpoemlpjaaGreatPeK5
set_option linter.unusedVariables false
set_option linter.unusedSimpArgs false
set_option linter.unnecessarySimpa false
set_option linter.unusedSectionVars false
namespace Go.PE
noncomputable section
variable {P : Program} {D : BT (Option TbL)} {τ : Nat → Value}
/-- A set of functions, as a number. -/
def bitOf (mask : Nat) (f : FuncId) : Bool := Nat.beq (Nat.land (Nat.shiftRight mask f) 1) 1
def maskOf (l : List Nat) : Nat := l.foldl (fun m f => m + 2 ^ f) 0
/-- Two floors of memos within, `mask1` and `mask2`; `W` outside. -/
def pk1 (P : Program) (D : BT (Option TbL)) : Call := evK P D (fun c => c) 20
def pk2 (P : Program) (D : BT (Option TbL)) (mask1 : Nat) : Call := evK P D (memoW (bitOf mask1) (pk1 P D)) 20
def evM (P : Program) (D : BT (Option TbL)) (mask1 mask2 : Nat) (W : Call → Call) (n : Nat) : Call := evK P D (fun c => W (memoW (bitOf mask2) (pk2 P D mask1) c)) n
theorem evM_ok (hD : TabOk P D) {Z : Zed} (hτ : ∀ i, (τ i).oneCell' = true) (hbits : BitsOk P) (hm : P.follows .mixedOrders = true) (mask1 mask2 : Nat) (W : Call → Call)
    (hW : ∀ call, CallSound P τ Z call → CallStp call → CallSound P τ Z (W call) ∧ CallStp (W call)) (n : Nat) :
    CallSound P τ Z (evM P D mask1 mask2 W n) ∧ CallStp (evM P D mask1 mask2 W n) := by
  have h1 : CallSound P τ Z (pk1 P D) ∧ CallStp (pk1 P D) := evK_ok hD hτ hbits hm _ (fun c a b => ⟨a, b⟩) _
  have h2 : CallSound P τ Z (pk2 P D mask1) ∧ CallStp (pk2 P D mask1) := evK_ok hD hτ hbits hm _ (fun c a b => memo_sound h1.1 h1.2 a b) _
  exact evK_ok hD hτ hbits hm _ (fun c a b => let h := memo_sound (tab := bitOf mask2) h2.1 h2.2 a b; hW _ h.1 h.2) _
end
end Go.PE
