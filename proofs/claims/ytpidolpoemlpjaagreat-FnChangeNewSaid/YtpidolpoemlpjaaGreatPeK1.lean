/-
  Part of the proof: an evaluator of the model's code, proved sound, and its run (PeK1).
-/
import Derived.Test.YtpidolpoemlpjaaGreatPeBase
set_option linter.unusedVariables false
set_option linter.unusedSimpArgs false
set_option linter.unnecessarySimpa false
set_option linter.unusedSectionVars false
namespace Go.PE
noncomputable section
/-! A twin for the kernel: direct recursors, continuations, temporaries in rows of sixteen rows of sixteen. -/
abbrev R := Option (AV × Hp)
theorem lt16 {i : Nat} (h : i < 16) : i = 0 ∨ i = 1 ∨ i = 2 ∨ i = 3 ∨ i = 4 ∨ i = 5 ∨ i = 6 ∨ i = 7 ∨ i = 8 ∨ i = 9 ∨ i = 10 ∨ i = 11 ∨ i = 12 ∨ i = 13 ∨ i = 14 ∨ i = 15 := by omega
inductive RA where
  | mk (a0 a1 a2 a3 a4 a5 a6 a7 a8 a9 a10 a11 a12 a13 a14 a15 : AV)
inductive PA where | mk (f : RA → AV)
inductive SA where | mk (f : RA → AV → RA)
def PA.run (g : PA) (r : RA) : AV := PA.rec (motive := fun _ => AV) (fun f => f r) g
def SA.run (g : SA) (r : RA) (v : AV) : RA := SA.rec (motive := fun _ => RA) (fun f => f r v) g
def pA (i : Nat) : PA :=
  match i with
  | 0 => .mk fun r => RA.rec (motive := fun _ => AV) (fun a0 _ _ _ _ _ _ _ _ _ _ _ _ _ _ _ => a0) r
  | 1 => .mk fun r => RA.rec (motive := fun _ => AV) (fun _ a1 _ _ _ _ _ _ _ _ _ _ _ _ _ _ => a1) r
  | 2 => .mk fun r => RA.rec (motive := fun _ => AV) (fun _ _ a2 _ _ _ _ _ _ _ _ _ _ _ _ _ => a2) r
  | 3 => .mk fun r => RA.rec (motive := fun _ => AV) (fun _ _ _ a3 _ _ _ _ _ _ _ _ _ _ _ _ => a3) r
  | 4 => .mk fun r => RA.rec (motive := fun _ => AV) (fun _ _ _ _ a4 _ _ _ _ _ _ _ _ _ _ _ => a4) r
  | 5 => .mk fun r => RA.rec (motive := fun _ => AV) (fun _ _ _ _ _ a5 _ _ _ _ _ _ _ _ _ _ => a5) r
  | 6 => .mk fun r => RA.rec (motive := fun _ => AV) (fun _ _ _ _ _ _ a6 _ _ _ _ _ _ _ _ _ => a6) r
  | 7 => .mk fun r => RA.rec (motive := fun _ => AV) (fun _ _ _ _ _ _ _ a7 _ _ _ _ _ _ _ _ => a7) r
  | 8 => .mk fun r => RA.rec (motive := fun _ => AV) (fun _ _ _ _ _ _ _ _ a8 _ _ _ _ _ _ _ => a8) r
  | 9 => .mk fun r => RA.rec (motive := fun _ => AV) (fun _ _ _ _ _ _ _ _ _ a9 _ _ _ _ _ _ => a9) r
  | 10 => .mk fun r => RA.rec (motive := fun _ => AV) (fun _ _ _ _ _ _ _ _ _ _ a10 _ _ _ _ _ => a10) r
  | 11 => .mk fun r => RA.rec (motive := fun _ => AV) (fun _ _ _ _ _ _ _ _ _ _ _ a11 _ _ _ _ => a11) r
  | 12 => .mk fun r => RA.rec (motive := fun _ => AV) (fun _ _ _ _ _ _ _ _ _ _ _ _ a12 _ _ _ => a12) r
  | 13 => .mk fun r => RA.rec (motive := fun _ => AV) (fun _ _ _ _ _ _ _ _ _ _ _ _ _ a13 _ _ => a13) r
  | 14 => .mk fun r => RA.rec (motive := fun _ => AV) (fun _ _ _ _ _ _ _ _ _ _ _ _ _ _ a14 _ => a14) r
  | _ => .mk fun r => RA.rec (motive := fun _ => AV) (fun _ _ _ _ _ _ _ _ _ _ _ _ _ _ _ a15 => a15) r
def sA (i : Nat) : SA :=
  match i with
  | 0 => .mk fun r v => RA.rec (motive := fun _ => AV → RA) (fun _ a1 a2 a3 a4 a5 a6 a7 a8 a9 a10 a11 a12 a13 a14 a15 v => RA.mk v a1 a2 a3 a4 a5 a6 a7 a8 a9 a10 a11 a12 a13 a14 a15) r v
  | 1 => .mk fun r v => RA.rec (motive := fun _ => AV → RA) (fun a0 _ a2 a3 a4 a5 a6 a7 a8 a9 a10 a11 a12 a13 a14 a15 v => RA.mk a0 v a2 a3 a4 a5 a6 a7 a8 a9 a10 a11 a12 a13 a14 a15) r v
  | 2 => .mk fun r v => RA.rec (motive := fun _ => AV → RA) (fun a0 a1 _ a3 a4 a5 a6 a7 a8 a9 a10 a11 a12 a13 a14 a15 v => RA.mk a0 a1 v a3 a4 a5 a6 a7 a8 a9 a10 a11 a12 a13 a14 a15) r v
  | 3 => .mk fun r v => RA.rec (motive := fun _ => AV → RA) (fun a0 a1 a2 _ a4 a5 a6 a7 a8 a9 a10 a11 a12 a13 a14 a15 v => RA.mk a0 a1 a2 v a4 a5 a6 a7 a8 a9 a10 a11 a12 a13 a14 a15) r v
  | 4 => .mk fun r v => RA.rec (motive := fun _ => AV → RA) (fun a0 a1 a2 a3 _ a5 a6 a7 a8 a9 a10 a11 a12 a13 a14 a15 v => RA.mk a0 a1 a2 a3 v a5 a6 a7 a8 a9 a10 a11 a12 a13 a14 a15) r v
  | 5 => .mk fun r v => RA.rec (motive := fun _ => AV → RA) (fun a0 a1 a2 a3 a4 _ a6 a7 a8 a9 a10 a11 a12 a13 a14 a15 v => RA.mk a0 a1 a2 a3 a4 v a6 a7 a8 a9 a10 a11 a12 a13 a14 a15) r v
  | 6 => .mk fun r v => RA.rec (motive := fun _ => AV → RA) (fun a0 a1 a2 a3 a4 a5 _ a7 a8 a9 a10 a11 a12 a13 a14 a15 v => RA.mk a0 a1 a2 a3 a4 a5 v a7 a8 a9 a10 a11 a12 a13 a14 a15) r v
  | 7 => .mk fun r v => RA.rec (motive := fun _ => AV → RA) (fun a0 a1 a2 a3 a4 a5 a6 _ a8 a9 a10 a11 a12 a13 a14 a15 v => RA.mk a0 a1 a2 a3 a4 a5 a6 v a8 a9 a10 a11 a12 a13 a14 a15) r v
  | 8 => .mk fun r v => RA.rec (motive := fun _ => AV → RA) (fun a0 a1 a2 a3 a4 a5 a6 a7 _ a9 a10 a11 a12 a13 a14 a15 v => RA.mk a0 a1 a2 a3 a4 a5 a6 a7 v a9 a10 a11 a12 a13 a14 a15) r v
  | 9 => .mk fun r v => RA.rec (motive := fun _ => AV → RA) (fun a0 a1 a2 a3 a4 a5 a6 a7 a8 _ a10 a11 a12 a13 a14 a15 v => RA.mk a0 a1 a2 a3 a4 a5 a6 a7 a8 v a10 a11 a12 a13 a14 a15) r v
  | 10 => .mk fun r v => RA.rec (motive := fun _ => AV → RA) (fun a0 a1 a2 a3 a4 a5 a6 a7 a8 a9 _ a11 a12 a13 a14 a15 v => RA.mk a0 a1 a2 a3 a4 a5 a6 a7 a8 a9 v a11 a12 a13 a14 a15) r v
  | 11 => .mk fun r v => RA.rec (motive := fun _ => AV → RA) (fun a0 a1 a2 a3 a4 a5 a6 a7 a8 a9 a10 _ a12 a13 a14 a15 v => RA.mk a0 a1 a2 a3 a4 a5 a6 a7 a8 a9 a10 v a12 a13 a14 a15) r v
  | 12 => .mk fun r v => RA.rec (motive := fun _ => AV → RA) (fun a0 a1 a2 a3 a4 a5 a6 a7 a8 a9 a10 a11 _ a13 a14 a15 v => RA.mk a0 a1 a2 a3 a4 a5 a6 a7 a8 a9 a10 a11 v a13 a14 a15) r v
  | 13 => .mk fun r v => RA.rec (motive := fun _ => AV → RA) (fun a0 a1 a2 a3 a4 a5 a6 a7 a8 a9 a10 a11 a12 _ a14 a15 v => RA.mk a0 a1 a2 a3 a4 a5 a6 a7 a8 a9 a10 a11 a12 v a14 a15) r v
  | 14 => .mk fun r v => RA.rec (motive := fun _ => AV → RA) (fun a0 a1 a2 a3 a4 a5 a6 a7 a8 a9 a10 a11 a12 a13 _ a15 v => RA.mk a0 a1 a2 a3 a4 a5 a6 a7 a8 a9 a10 a11 a12 a13 v a15) r v
  | _ => .mk fun r v => RA.rec (motive := fun _ => AV → RA) (fun a0 a1 a2 a3 a4 a5 a6 a7 a8 a9 a10 a11 a12 a13 a14 _ v => RA.mk a0 a1 a2 a3 a4 a5 a6 a7 a8 a9 a10 a11 a12 a13 a14 v) r v
theorem pA_s {i j : Nat} (hi : i < 16) (hj : j < 16) (r : RA) (v : AV) : (pA i).run ((sA j).run r v) = if i = j then v else (pA i).run r := by
  obtain ⟨_, _, _, _, _, _, _, _, _, _, _, _, _, _, _, _⟩ := r
  rcases lt16 hi with rfl | rfl | rfl | rfl | rfl | rfl | rfl | rfl | rfl | rfl | rfl | rfl | rfl | rfl | rfl | rfl <;> rcases lt16 hj with rfl | rfl | rfl | rfl | rfl | rfl | rfl | rfl | rfl | rfl | rfl | rfl | rfl | rfl | rfl | rfl <;> rfl
inductive RB where
  | mk (a0 a1 a2 a3 a4 a5 a6 a7 a8 a9 a10 a11 a12 a13 a14 a15 : RA)
inductive PB where | mk (f : RB → RA)
inductive SB where | mk (f : RB → RA → RB)
def PB.run (g : PB) (r : RB) : RA := PB.rec (motive := fun _ => RA) (fun f => f r) g
def SB.run (g : SB) (r : RB) (v : RA) : RB := SB.rec (motive := fun _ => RB) (fun f => f r v) g
def pB (i : Nat) : PB :=
  match i with
  | 0 => .mk fun r => RB.rec (motive := fun _ => RA) (fun a0 _ _ _ _ _ _ _ _ _ _ _ _ _ _ _ => a0) r
  | 1 => .mk fun r => RB.rec (motive := fun _ => RA) (fun _ a1 _ _ _ _ _ _ _ _ _ _ _ _ _ _ => a1) r
  | 2 => .mk fun r => RB.rec (motive := fun _ => RA) (fun _ _ a2 _ _ _ _ _ _ _ _ _ _ _ _ _ => a2) r
  | 3 => .mk fun r => RB.rec (motive := fun _ => RA) (fun _ _ _ a3 _ _ _ _ _ _ _ _ _ _ _ _ => a3) r
  | 4 => .mk fun r => RB.rec (motive := fun _ => RA) (fun _ _ _ _ a4 _ _ _ _ _ _ _ _ _ _ _ => a4) r
  | 5 => .mk fun r => RB.rec (motive := fun _ => RA) (fun _ _ _ _ _ a5 _ _ _ _ _ _ _ _ _ _ => a5) r
  | 6 => .mk fun r => RB.rec (motive := fun _ => RA) (fun _ _ _ _ _ _ a6 _ _ _ _ _ _ _ _ _ => a6) r
  | 7 => .mk fun r => RB.rec (motive := fun _ => RA) (fun _ _ _ _ _ _ _ a7 _ _ _ _ _ _ _ _ => a7) r
  | 8 => .mk fun r => RB.rec (motive := fun _ => RA) (fun _ _ _ _ _ _ _ _ a8 _ _ _ _ _ _ _ => a8) r
  | 9 => .mk fun r => RB.rec (motive := fun _ => RA) (fun _ _ _ _ _ _ _ _ _ a9 _ _ _ _ _ _ => a9) r
  | 10 => .mk fun r => RB.rec (motive := fun _ => RA) (fun _ _ _ _ _ _ _ _ _ _ a10 _ _ _ _ _ => a10) r
  | 11 => .mk fun r => RB.rec (motive := fun _ => RA) (fun _ _ _ _ _ _ _ _ _ _ _ a11 _ _ _ _ => a11) r
  | 12 => .mk fun r => RB.rec (motive := fun _ => RA) (fun _ _ _ _ _ _ _ _ _ _ _ _ a12 _ _ _ => a12) r
  | 13 => .mk fun r => RB.rec (motive := fun _ => RA) (fun _ _ _ _ _ _ _ _ _ _ _ _ _ a13 _ _ => a13) r
  | 14 => .mk fun r => RB.rec (motive := fun _ => RA) (fun _ _ _ _ _ _ _ _ _ _ _ _ _ _ a14 _ => a14) r
  | _ => .mk fun r => RB.rec (motive := fun _ => RA) (fun _ _ _ _ _ _ _ _ _ _ _ _ _ _ _ a15 => a15) r
def sB (i : Nat) : SB :=
  match i with
  | 0 => .mk fun r v => RB.rec (motive := fun _ => RA → RB) (fun _ a1 a2 a3 a4 a5 a6 a7 a8 a9 a10 a11 a12 a13 a14 a15 v => RB.mk v a1 a2 a3 a4 a5 a6 a7 a8 a9 a10 a11 a12 a13 a14 a15) r v
  | 1 => .mk fun r v => RB.rec (motive := fun _ => RA → RB) (fun a0 _ a2 a3 a4 a5 a6 a7 a8 a9 a10 a11 a12 a13 a14 a15 v => RB.mk a0 v a2 a3 a4 a5 a6 a7 a8 a9 a10 a11 a12 a13 a14 a15) r v
  | 2 => .mk fun r v => RB.rec (motive := fun _ => RA → RB) (fun a0 a1 _ a3 a4 a5 a6 a7 a8 a9 a10 a11 a12 a13 a14 a15 v => RB.mk a0 a1 v a3 a4 a5 a6 a7 a8 a9 a10 a11 a12 a13 a14 a15) r v
  | 3 => .mk fun r v => RB.rec (motive := fun _ => RA → RB) (fun a0 a1 a2 _ a4 a5 a6 a7 a8 a9 a10 a11 a12 a13 a14 a15 v => RB.mk a0 a1 a2 v a4 a5 a6 a7 a8 a9 a10 a11 a12 a13 a14 a15) r v
  | 4 => .mk fun r v => RB.rec (motive := fun _ => RA → RB) (fun a0 a1 a2 a3 _ a5 a6 a7 a8 a9 a10 a11 a12 a13 a14 a15 v => RB.mk a0 a1 a2 a3 v a5 a6 a7 a8 a9 a10 a11 a12 a13 a14 a15) r v
  | 5 => .mk fun r v => RB.rec (motive := fun _ => RA → RB) (fun a0 a1 a2 a3 a4 _ a6 a7 a8 a9 a10 a11 a12 a13 a14 a15 v => RB.mk a0 a1 a2 a3 a4 v a6 a7 a8 a9 a10 a11 a12 a13 a14 a15) r v
  | 6 => .mk fun r v => RB.rec (motive := fun _ => RA → RB) (fun a0 a1 a2 a3 a4 a5 _ a7 a8 a9 a10 a11 a12 a13 a14 a15 v => RB.mk a0 a1 a2 a3 a4 a5 v a7 a8 a9 a10 a11 a12 a13 a14 a15) r v
  | 7 => .mk fun r v => RB.rec (motive := fun _ => RA → RB) (fun a0 a1 a2 a3 a4 a5 a6 _ a8 a9 a10 a11 a12 a13 a14 a15 v => RB.mk a0 a1 a2 a3 a4 a5 a6 v a8 a9 a10 a11 a12 a13 a14 a15) r v
  | 8 => .mk fun r v => RB.rec (motive := fun _ => RA → RB) (fun a0 a1 a2 a3 a4 a5 a6 a7 _ a9 a10 a11 a12 a13 a14 a15 v => RB.mk a0 a1 a2 a3 a4 a5 a6 a7 v a9 a10 a11 a12 a13 a14 a15) r v
  | 9 => .mk fun r v => RB.rec (motive := fun _ => RA → RB) (fun a0 a1 a2 a3 a4 a5 a6 a7 a8 _ a10 a11 a12 a13 a14 a15 v => RB.mk a0 a1 a2 a3 a4 a5 a6 a7 a8 v a10 a11 a12 a13 a14 a15) r v
  | 10 => .mk fun r v => RB.rec (motive := fun _ => RA → RB) (fun a0 a1 a2 a3 a4 a5 a6 a7 a8 a9 _ a11 a12 a13 a14 a15 v => RB.mk a0 a1 a2 a3 a4 a5 a6 a7 a8 a9 v a11 a12 a13 a14 a15) r v
  | 11 => .mk fun r v => RB.rec (motive := fun _ => RA → RB) (fun a0 a1 a2 a3 a4 a5 a6 a7 a8 a9 a10 _ a12 a13 a14 a15 v => RB.mk a0 a1 a2 a3 a4 a5 a6 a7 a8 a9 a10 v a12 a13 a14 a15) r v
  | 12 => .mk fun r v => RB.rec (motive := fun _ => RA → RB) (fun a0 a1 a2 a3 a4 a5 a6 a7 a8 a9 a10 a11 _ a13 a14 a15 v => RB.mk a0 a1 a2 a3 a4 a5 a6 a7 a8 a9 a10 a11 v a13 a14 a15) r v
  | 13 => .mk fun r v => RB.rec (motive := fun _ => RA → RB) (fun a0 a1 a2 a3 a4 a5 a6 a7 a8 a9 a10 a11 a12 _ a14 a15 v => RB.mk a0 a1 a2 a3 a4 a5 a6 a7 a8 a9 a10 a11 a12 v a14 a15) r v
  | 14 => .mk fun r v => RB.rec (motive := fun _ => RA → RB) (fun a0 a1 a2 a3 a4 a5 a6 a7 a8 a9 a10 a11 a12 a13 _ a15 v => RB.mk a0 a1 a2 a3 a4 a5 a6 a7 a8 a9 a10 a11 a12 a13 v a15) r v
  | _ => .mk fun r v => RB.rec (motive := fun _ => RA → RB) (fun a0 a1 a2 a3 a4 a5 a6 a7 a8 a9 a10 a11 a12 a13 a14 _ v => RB.mk a0 a1 a2 a3 a4 a5 a6 a7 a8 a9 a10 a11 a12 a13 a14 v) r v
theorem pB_s {i j : Nat} (hi : i < 16) (hj : j < 16) (r : RB) (v : RA) : (pB i).run ((sB j).run r v) = if i = j then v else (pB i).run r := by
  obtain ⟨_, _, _, _, _, _, _, _, _, _, _, _, _, _, _, _⟩ := r
  rcases lt16 hi with rfl | rfl | rfl | rfl | rfl | rfl | rfl | rfl | rfl | rfl | rfl | rfl | rfl | rfl | rfl | rfl <;> rcases lt16 hj with rfl | rfl | rfl | rfl | rfl | rfl | rfl | rfl | rfl | rfl | rfl | rfl | rfl | rfl | rfl | rfl <;> rfl
abbrev TT2 := RB
inductive GK where | mk (f : TT2 → AV)
inductive SK where | mk (f : TT2 → AV → TT2)
def GK.run (g : GK) (t : TT2) : AV := GK.rec (motive := fun _ => AV) (fun f => f t) g
def SK.run (g : SK) (t : TT2) (v : AV) : TT2 := SK.rec (motive := fun _ => TT2) (fun f => f t v) g
def gk0 (j : Nat) : GK :=
  match j with
  | 0 => .mk fun t => RA.rec (motive := fun _ => AV) (fun a0 _ _ _ _ _ _ _ _ _ _ _ _ _ _ _ => a0) (RB.rec (motive := fun _ => RA) (fun a0 _ _ _ _ _ _ _ _ _ _ _ _ _ _ _ => a0) t)
  | 1 => .mk fun t => RA.rec (motive := fun _ => AV) (fun _ a1 _ _ _ _ _ _ _ _ _ _ _ _ _ _ => a1) (RB.rec (motive := fun _ => RA) (fun a0 _ _ _ _ _ _ _ _ _ _ _ _ _ _ _ => a0) t)
  | 2 => .mk fun t => RA.rec (motive := fun _ => AV) (fun _ _ a2 _ _ _ _ _ _ _ _ _ _ _ _ _ => a2) (RB.rec (motive := fun _ => RA) (fun a0 _ _ _ _ _ _ _ _ _ _ _ _ _ _ _ => a0) t)
  | 3 => .mk fun t => RA.rec (motive := fun _ => AV) (fun _ _ _ a3 _ _ _ _ _ _ _ _ _ _ _ _ => a3) (RB.rec (motive := fun _ => RA) (fun a0 _ _ _ _ _ _ _ _ _ _ _ _ _ _ _ => a0) t)
  | 4 => .mk fun t => RA.rec (motive := fun _ => AV) (fun _ _ _ _ a4 _ _ _ _ _ _ _ _ _ _ _ => a4) (RB.rec (motive := fun _ => RA) (fun a0 _ _ _ _ _ _ _ _ _ _ _ _ _ _ _ => a0) t)
  | 5 => .mk fun t => RA.rec (motive := fun _ => AV) (fun _ _ _ _ _ a5 _ _ _ _ _ _ _ _ _ _ => a5) (RB.rec (motive := fun _ => RA) (fun a0 _ _ _ _ _ _ _ _ _ _ _ _ _ _ _ => a0) t)
  | 6 => .mk fun t => RA.rec (motive := fun _ => AV) (fun _ _ _ _ _ _ a6 _ _ _ _ _ _ _ _ _ => a6) (RB.rec (motive := fun _ => RA) (fun a0 _ _ _ _ _ _ _ _ _ _ _ _ _ _ _ => a0) t)
  | 7 => .mk fun t => RA.rec (motive := fun _ => AV) (fun _ _ _ _ _ _ _ a7 _ _ _ _ _ _ _ _ => a7) (RB.rec (motive := fun _ => RA) (fun a0 _ _ _ _ _ _ _ _ _ _ _ _ _ _ _ => a0) t)
  | 8 => .mk fun t => RA.rec (motive := fun _ => AV) (fun _ _ _ _ _ _ _ _ a8 _ _ _ _ _ _ _ => a8) (RB.rec (motive := fun _ => RA) (fun a0 _ _ _ _ _ _ _ _ _ _ _ _ _ _ _ => a0) t)
  | 9 => .mk fun t => RA.rec (motive := fun _ => AV) (fun _ _ _ _ _ _ _ _ _ a9 _ _ _ _ _ _ => a9) (RB.rec (motive := fun _ => RA) (fun a0 _ _ _ _ _ _ _ _ _ _ _ _ _ _ _ => a0) t)
  | 10 => .mk fun t => RA.rec (motive := fun _ => AV) (fun _ _ _ _ _ _ _ _ _ _ a10 _ _ _ _ _ => a10) (RB.rec (motive := fun _ => RA) (fun a0 _ _ _ _ _ _ _ _ _ _ _ _ _ _ _ => a0) t)
  | 11 => .mk fun t => RA.rec (motive := fun _ => AV) (fun _ _ _ _ _ _ _ _ _ _ _ a11 _ _ _ _ => a11) (RB.rec (motive := fun _ => RA) (fun a0 _ _ _ _ _ _ _ _ _ _ _ _ _ _ _ => a0) t)
  | 12 => .mk fun t => RA.rec (motive := fun _ => AV) (fun _ _ _ _ _ _ _ _ _ _ _ _ a12 _ _ _ => a12) (RB.rec (motive := fun _ => RA) (fun a0 _ _ _ _ _ _ _ _ _ _ _ _ _ _ _ => a0) t)
  | 13 => .mk fun t => RA.rec (motive := fun _ => AV) (fun _ _ _ _ _ _ _ _ _ _ _ _ _ a13 _ _ => a13) (RB.rec (motive := fun _ => RA) (fun a0 _ _ _ _ _ _ _ _ _ _ _ _ _ _ _ => a0) t)
  | 14 => .mk fun t => RA.rec (motive := fun _ => AV) (fun _ _ _ _ _ _ _ _ _ _ _ _ _ _ a14 _ => a14) (RB.rec (motive := fun _ => RA) (fun a0 _ _ _ _ _ _ _ _ _ _ _ _ _ _ _ => a0) t)
  | _ => .mk fun t => RA.rec (motive := fun _ => AV) (fun _ _ _ _ _ _ _ _ _ _ _ _ _ _ _ a15 => a15) (RB.rec (motive := fun _ => RA) (fun a0 _ _ _ _ _ _ _ _ _ _ _ _ _ _ _ => a0) t)
def sk0 (j : Nat) : SK :=
  match j with
  | 0 => .mk fun t v => RB.rec (motive := fun _ => AV → RB) (fun a0 a1 a2 a3 a4 a5 a6 a7 a8 a9 a10 a11 a12 a13 a14 a15 v => RB.mk (RA.rec (motive := fun _ => AV → RA) (fun _ b1 b2 b3 b4 b5 b6 b7 b8 b9 b10 b11 b12 b13 b14 b15 v => RA.mk v b1 b2 b3 b4 b5 b6 b7 b8 b9 b10 b11 b12 b13 b14 b15) a0 v) a1 a2 a3 a4 a5 a6 a7 a8 a9 a10 a11 a12 a13 a14 a15) t v
  | 1 => .mk fun t v => RB.rec (motive := fun _ => AV → RB) (fun a0 a1 a2 a3 a4 a5 a6 a7 a8 a9 a10 a11 a12 a13 a14 a15 v => RB.mk (RA.rec (motive := fun _ => AV → RA) (fun b0 _ b2 b3 b4 b5 b6 b7 b8 b9 b10 b11 b12 b13 b14 b15 v => RA.mk b0 v b2 b3 b4 b5 b6 b7 b8 b9 b10 b11 b12 b13 b14 b15) a0 v) a1 a2 a3 a4 a5 a6 a7 a8 a9 a10 a11 a12 a13 a14 a15) t v
  | 2 => .mk fun t v => RB.rec (motive := fun _ => AV → RB) (fun a0 a1 a2 a3 a4 a5 a6 a7 a8 a9 a10 a11 a12 a13 a14 a15 v => RB.mk (RA.rec (motive := fun _ => AV → RA) (fun b0 b1 _ b3 b4 b5 b6 b7 b8 b9 b10 b11 b12 b13 b14 b15 v => RA.mk b0 b1 v b3 b4 b5 b6 b7 b8 b9 b10 b11 b12 b13 b14 b15) a0 v) a1 a2 a3 a4 a5 a6 a7 a8 a9 a10 a11 a12 a13 a14 a15) t v
  | 3 => .mk fun t v => RB.rec (motive := fun _ => AV → RB) (fun a0 a1 a2 a3 a4 a5 a6 a7 a8 a9 a10 a11 a12 a13 a14 a15 v => RB.mk (RA.rec (motive := fun _ => AV → RA) (fun b0 b1 b2 _ b4 b5 b6 b7 b8 b9 b10 b11 b12 b13 b14 b15 v => RA.mk b0 b1 b2 v b4 b5 b6 b7 b8 b9 b10 b11 b12 b13 b14 b15) a0 v) a1 a2 a3 a4 a5 a6 a7 a8 a9 a10 a11 a12 a13 a14 a15) t v
  | 4 => .mk fun t v => RB.rec (motive := fun _ => AV → RB) (fun a0 a1 a2 a3 a4 a5 a6 a7 a8 a9 a10 a11 a12 a13 a14 a15 v => RB.mk (RA.rec (motive := fun _ => AV → RA) (fun b0 b1 b2 b3 _ b5 b6 b7 b8 b9 b10 b11 b12 b13 b14 b15 v => RA.mk b0 b1 b2 b3 v b5 b6 b7 b8 b9 b10 b11 b12 b13 b14 b15) a0 v) a1 a2 a3 a4 a5 a6 a7 a8 a9 a10 a11 a12 a13 a14 a15) t v
  | 5 => .mk fun t v => RB.rec (motive := fun _ => AV → RB) (fun a0 a1 a2 a3 a4 a5 a6 a7 a8 a9 a10 a11 a12 a13 a14 a15 v => RB.mk (RA.rec (motive := fun _ => AV → RA) (fun b0 b1 b2 b3 b4 _ b6 b7 b8 b9 b10 b11 b12 b13 b14 b15 v => RA.mk b0 b1 b2 b3 b4 v b6 b7 b8 b9 b10 b11 b12 b13 b14 b15) a0 v) a1 a2 a3 a4 a5 a6 a7 a8 a9 a10 a11 a12 a13 a14 a15) t v
  | 6 => .mk fun t v => RB.rec (motive := fun _ => AV → RB) (fun a0 a1 a2 a3 a4 a5 a6 a7 a8 a9 a10 a11 a12 a13 a14 a15 v => RB.mk (RA.rec (motive := fun _ => AV → RA) (fun b0 b1 b2 b3 b4 b5 _ b7 b8 b9 b10 b11 b12 b13 b14 b15 v => RA.mk b0 b1 b2 b3 b4 b5 v b7 b8 b9 b10 b11 b12 b13 b14 b15) a0 v) a1 a2 a3 a4 a5 a6 a7 a8 a9 a10 a11 a12 a13 a14 a15) t v
  | 7 => .mk fun t v => RB.rec (motive := fun _ => AV → RB) (fun a0 a1 a2 a3 a4 a5 a6 a7 a8 a9 a10 a11 a12 a13 a14 a15 v => RB.mk (RA.rec (motive := fun _ => AV → RA) (fun b0 b1 b2 b3 b4 b5 b6 _ b8 b9 b10 b11 b12 b13 b14 b15 v => RA.mk b0 b1 b2 b3 b4 b5 b6 v b8 b9 b10 b11 b12 b13 b14 b15) a0 v) a1 a2 a3 a4 a5 a6 a7 a8 a9 a10 a11 a12 a13 a14 a15) t v
  | 8 => .mk fun t v => RB.rec (motive := fun _ => AV → RB) (fun a0 a1 a2 a3 a4 a5 a6 a7 a8 a9 a10 a11 a12 a13 a14 a15 v => RB.mk (RA.rec (motive := fun _ => AV → RA) (fun b0 b1 b2 b3 b4 b5 b6 b7 _ b9 b10 b11 b12 b13 b14 b15 v => RA.mk b0 b1 b2 b3 b4 b5 b6 b7 v b9 b10 b11 b12 b13 b14 b15) a0 v) a1 a2 a3 a4 a5 a6 a7 a8 a9 a10 a11 a12 a13 a14 a15) t v
  | 9 => .mk fun t v => RB.rec (motive := fun _ => AV → RB) (fun a0 a1 a2 a3 a4 a5 a6 a7 a8 a9 a10 a11 a12 a13 a14 a15 v => RB.mk (RA.rec (motive := fun _ => AV → RA) (fun b0 b1 b2 b3 b4 b5 b6 b7 b8 _ b10 b11 b12 b13 b14 b15 v => RA.mk b0 b1 b2 b3 b4 b5 b6 b7 b8 v b10 b11 b12 b13 b14 b15) a0 v) a1 a2 a3 a4 a5 a6 a7 a8 a9 a10 a11 a12 a13 a14 a15) t v
  | 10 => .mk fun t v => RB.rec (motive := fun _ => AV → RB) (fun a0 a1 a2 a3 a4 a5 a6 a7 a8 a9 a10 a11 a12 a13 a14 a15 v => RB.mk (RA.rec (motive := fun _ => AV → RA) (fun b0 b1 b2 b3 b4 b5 b6 b7 b8 b9 _ b11 b12 b13 b14 b15 v => RA.mk b0 b1 b2 b3 b4 b5 b6 b7 b8 b9 v b11 b12 b13 b14 b15) a0 v) a1 a2 a3 a4 a5 a6 a7 a8 a9 a10 a11 a12 a13 a14 a15) t v
  | 11 => .mk fun t v => RB.rec (motive := fun _ => AV → RB) (fun a0 a1 a2 a3 a4 a5 a6 a7 a8 a9 a10 a11 a12 a13 a14 a15 v => RB.mk (RA.rec (motive := fun _ => AV → RA) (fun b0 b1 b2 b3 b4 b5 b6 b7 b8 b9 b10 _ b12 b13 b14 b15 v => RA.mk b0 b1 b2 b3 b4 b5 b6 b7 b8 b9 b10 v b12 b13 b14 b15) a0 v) a1 a2 a3 a4 a5 a6 a7 a8 a9 a10 a11 a12 a13 a14 a15) t v
  | 12 => .mk fun t v => RB.rec (motive := fun _ => AV → RB) (fun a0 a1 a2 a3 a4 a5 a6 a7 a8 a9 a10 a11 a12 a13 a14 a15 v => RB.mk (RA.rec (motive := fun _ => AV → RA) (fun b0 b1 b2 b3 b4 b5 b6 b7 b8 b9 b10 b11 _ b13 b14 b15 v => RA.mk b0 b1 b2 b3 b4 b5 b6 b7 b8 b9 b10 b11 v b13 b14 b15) a0 v) a1 a2 a3 a4 a5 a6 a7 a8 a9 a10 a11 a12 a13 a14 a15) t v
  | 13 => .mk fun t v => RB.rec (motive := fun _ => AV → RB) (fun a0 a1 a2 a3 a4 a5 a6 a7 a8 a9 a10 a11 a12 a13 a14 a15 v => RB.mk (RA.rec (motive := fun _ => AV → RA) (fun b0 b1 b2 b3 b4 b5 b6 b7 b8 b9 b10 b11 b12 _ b14 b15 v => RA.mk b0 b1 b2 b3 b4 b5 b6 b7 b8 b9 b10 b11 b12 v b14 b15) a0 v) a1 a2 a3 a4 a5 a6 a7 a8 a9 a10 a11 a12 a13 a14 a15) t v
  | 14 => .mk fun t v => RB.rec (motive := fun _ => AV → RB) (fun a0 a1 a2 a3 a4 a5 a6 a7 a8 a9 a10 a11 a12 a13 a14 a15 v => RB.mk (RA.rec (motive := fun _ => AV → RA) (fun b0 b1 b2 b3 b4 b5 b6 b7 b8 b9 b10 b11 b12 b13 _ b15 v => RA.mk b0 b1 b2 b3 b4 b5 b6 b7 b8 b9 b10 b11 b12 b13 v b15) a0 v) a1 a2 a3 a4 a5 a6 a7 a8 a9 a10 a11 a12 a13 a14 a15) t v
  | _ => .mk fun t v => RB.rec (motive := fun _ => AV → RB) (fun a0 a1 a2 a3 a4 a5 a6 a7 a8 a9 a10 a11 a12 a13 a14 a15 v => RB.mk (RA.rec (motive := fun _ => AV → RA) (fun b0 b1 b2 b3 b4 b5 b6 b7 b8 b9 b10 b11 b12 b13 b14 _ v => RA.mk b0 b1 b2 b3 b4 b5 b6 b7 b8 b9 b10 b11 b12 b13 b14 v) a0 v) a1 a2 a3 a4 a5 a6 a7 a8 a9 a10 a11 a12 a13 a14 a15) t v
def gk1 (j : Nat) : GK :=
  match j with
  | 0 => .mk fun t => RA.rec (motive := fun _ => AV) (fun a0 _ _ _ _ _ _ _ _ _ _ _ _ _ _ _ => a0) (RB.rec (motive := fun _ => RA) (fun _ a1 _ _ _ _ _ _ _ _ _ _ _ _ _ _ => a1) t)
  | 1 => .mk fun t => RA.rec (motive := fun _ => AV) (fun _ a1 _ _ _ _ _ _ _ _ _ _ _ _ _ _ => a1) (RB.rec (motive := fun _ => RA) (fun _ a1 _ _ _ _ _ _ _ _ _ _ _ _ _ _ => a1) t)
  | 2 => .mk fun t => RA.rec (motive := fun _ => AV) (fun _ _ a2 _ _ _ _ _ _ _ _ _ _ _ _ _ => a2) (RB.rec (motive := fun _ => RA) (fun _ a1 _ _ _ _ _ _ _ _ _ _ _ _ _ _ => a1) t)
  | 3 => .mk fun t => RA.rec (motive := fun _ => AV) (fun _ _ _ a3 _ _ _ _ _ _ _ _ _ _ _ _ => a3) (RB.rec (motive := fun _ => RA) (fun _ a1 _ _ _ _ _ _ _ _ _ _ _ _ _ _ => a1) t)
  | 4 => .mk fun t => RA.rec (motive := fun _ => AV) (fun _ _ _ _ a4 _ _ _ _ _ _ _ _ _ _ _ => a4) (RB.rec (motive := fun _ => RA) (fun _ a1 _ _ _ _ _ _ _ _ _ _ _ _ _ _ => a1) t)
  | 5 => .mk fun t => RA.rec (motive := fun _ => AV) (fun _ _ _ _ _ a5 _ _ _ _ _ _ _ _ _ _ => a5) (RB.rec (motive := fun _ => RA) (fun _ a1 _ _ _ _ _ _ _ _ _ _ _ _ _ _ => a1) t)
  | 6 => .mk fun t => RA.rec (motive := fun _ => AV) (fun _ _ _ _ _ _ a6 _ _ _ _ _ _ _ _ _ => a6) (RB.rec (motive := fun _ => RA) (fun _ a1 _ _ _ _ _ _ _ _ _ _ _ _ _ _ => a1) t)
  | 7 => .mk fun t => RA.rec (motive := fun _ => AV) (fun _ _ _ _ _ _ _ a7 _ _ _ _ _ _ _ _ => a7) (RB.rec (motive := fun _ => RA) (fun _ a1 _ _ _ _ _ _ _ _ _ _ _ _ _ _ => a1) t)
  | 8 => .mk fun t => RA.rec (motive := fun _ => AV) (fun _ _ _ _ _ _ _ _ a8 _ _ _ _ _ _ _ => a8) (RB.rec (motive := fun _ => RA) (fun _ a1 _ _ _ _ _ _ _ _ _ _ _ _ _ _ => a1) t)
  | 9 => .mk fun t => RA.rec (motive := fun _ => AV) (fun _ _ _ _ _ _ _ _ _ a9 _ _ _ _ _ _ => a9) (RB.rec (motive := fun _ => RA) (fun _ a1 _ _ _ _ _ _ _ _ _ _ _ _ _ _ => a1) t)
  | 10 => .mk fun t => RA.rec (motive := fun _ => AV) (fun _ _ _ _ _ _ _ _ _ _ a10 _ _ _ _ _ => a10) (RB.rec (motive := fun _ => RA) (fun _ a1 _ _ _ _ _ _ _ _ _ _ _ _ _ _ => a1) t)
  | 11 => .mk fun t => RA.rec (motive := fun _ => AV) (fun _ _ _ _ _ _ _ _ _ _ _ a11 _ _ _ _ => a11) (RB.rec (motive := fun _ => RA) (fun _ a1 _ _ _ _ _ _ _ _ _ _ _ _ _ _ => a1) t)
  | 12 => .mk fun t => RA.rec (motive := fun _ => AV) (fun _ _ _ _ _ _ _ _ _ _ _ _ a12 _ _ _ => a12) (RB.rec (motive := fun _ => RA) (fun _ a1 _ _ _ _ _ _ _ _ _ _ _ _ _ _ => a1) t)
  | 13 => .mk fun t => RA.rec (motive := fun _ => AV) (fun _ _ _ _ _ _ _ _ _ _ _ _ _ a13 _ _ => a13) (RB.rec (motive := fun _ => RA) (fun _ a1 _ _ _ _ _ _ _ _ _ _ _ _ _ _ => a1) t)
  | 14 => .mk fun t => RA.rec (motive := fun _ => AV) (fun _ _ _ _ _ _ _ _ _ _ _ _ _ _ a14 _ => a14) (RB.rec (motive := fun _ => RA) (fun _ a1 _ _ _ _ _ _ _ _ _ _ _ _ _ _ => a1) t)
  | _ => .mk fun t => RA.rec (motive := fun _ => AV) (fun _ _ _ _ _ _ _ _ _ _ _ _ _ _ _ a15 => a15) (RB.rec (motive := fun _ => RA) (fun _ a1 _ _ _ _ _ _ _ _ _ _ _ _ _ _ => a1) t)
def sk1 (j : Nat) : SK :=
  match j with
  | 0 => .mk fun t v => RB.rec (motive := fun _ => AV → RB) (fun a0 a1 a2 a3 a4 a5 a6 a7 a8 a9 a10 a11 a12 a13 a14 a15 v => RB.mk a0 (RA.rec (motive := fun _ => AV → RA) (fun _ b1 b2 b3 b4 b5 b6 b7 b8 b9 b10 b11 b12 b13 b14 b15 v => RA.mk v b1 b2 b3 b4 b5 b6 b7 b8 b9 b10 b11 b12 b13 b14 b15) a1 v) a2 a3 a4 a5 a6 a7 a8 a9 a10 a11 a12 a13 a14 a15) t v
  | 1 => .mk fun t v => RB.rec (motive := fun _ => AV → RB) (fun a0 a1 a2 a3 a4 a5 a6 a7 a8 a9 a10 a11 a12 a13 a14 a15 v => RB.mk a0 (RA.rec (motive := fun _ => AV → RA) (fun b0 _ b2 b3 b4 b5 b6 b7 b8 b9 b10 b11 b12 b13 b14 b15 v => RA.mk b0 v b2 b3 b4 b5 b6 b7 b8 b9 b10 b11 b12 b13 b14 b15) a1 v) a2 a3 a4 a5 a6 a7 a8 a9 a10 a11 a12 a13 a14 a15) t v
  | 2 => .mk fun t v => RB.rec (motive := fun _ => AV → RB) (fun a0 a1 a2 a3 a4 a5 a6 a7 a8 a9 a10 a11 a12 a13 a14 a15 v => RB.mk a0 (RA.rec (motive := fun _ => AV → RA) (fun b0 b1 _ b3 b4 b5 b6 b7 b8 b9 b10 b11 b12 b13 b14 b15 v => RA.mk b0 b1 v b3 b4 b5 b6 b7 b8 b9 b10 b11 b12 b13 b14 b15) a1 v) a2 a3 a4 a5 a6 a7 a8 a9 a10 a11 a12 a13 a14 a15) t v
  | 3 => .mk fun t v => RB.rec (motive := fun _ => AV → RB) (fun a0 a1 a2 a3 a4 a5 a6 a7 a8 a9 a10 a11 a12 a13 a14 a15 v => RB.mk a0 (RA.rec (motive := fun _ => AV → RA) (fun b0 b1 b2 _ b4 b5 b6 b7 b8 b9 b10 b11 b12 b13 b14 b15 v => RA.mk b0 b1 b2 v b4 b5 b6 b7 b8 b9 b10 b11 b12 b13 b14 b15) a1 v) a2 a3 a4 a5 a6 a7 a8 a9 a10 a11 a12 a13 a14 a15) t v
  | 4 => .mk fun t v => RB.rec (motive := fun _ => AV → RB) (fun a0 a1 a2 a3 a4 a5 a6 a7 a8 a9 a10 a11 a12 a13 a14 a15 v => RB.mk a0 (RA.rec (motive := fun _ => AV → RA) (fun b0 b1 b2 b3 _ b5 b6 b7 b8 b9 b10 b11 b12 b13 b14 b15 v => RA.mk b0 b1 b2 b3 v b5 b6 b7 b8 b9 b10 b11 b12 b13 b14 b15) a1 v) a2 a3 a4 a5 a6 a7 a8 a9 a10 a11 a12 a13 a14 a15) t v
  | 5 => .mk fun t v => RB.rec (motive := fun _ => AV → RB) (fun a0 a1 a2 a3 a4 a5 a6 a7 a8 a9 a10 a11 a12 a13 a14 a15 v => RB.mk a0 (RA.rec (motive := fun _ => AV → RA) (fun b0 b1 b2 b3 b4 _ b6 b7 b8 b9 b10 b11 b12 b13 b14 b15 v => RA.mk b0 b1 b2 b3 b4 v b6 b7 b8 b9 b10 b11 b12 b13 b14 b15) a1 v) a2 a3 a4 a5 a6 a7 a8 a9 a10 a11 a12 a13 a14 a15) t v
  | 6 => .mk fun t v => RB.rec (motive := fun _ => AV → RB) (fun a0 a1 a2 a3 a4 a5 a6 a7 a8 a9 a10 a11 a12 a13 a14 a15 v => RB.mk a0 (RA.rec (motive := fun _ => AV → RA) (fun b0 b1 b2 b3 b4 b5 _ b7 b8 b9 b10 b11 b12 b13 b14 b15 v => RA.mk b0 b1 b2 b3 b4 b5 v b7 b8 b9 b10 b11 b12 b13 b14 b15) a1 v) a2 a3 a4 a5 a6 a7 a8 a9 a10 a11 a12 a13 a14 a15) t v
  | 7 => .mk fun t v => RB.rec (motive := fun _ => AV → RB) (fun a0 a1 a2 a3 a4 a5 a6 a7 a8 a9 a10 a11 a12 a13 a14 a15 v => RB.mk a0 (RA.rec (motive := fun _ => AV → RA) (fun b0 b1 b2 b3 b4 b5 b6 _ b8 b9 b10 b11 b12 b13 b14 b15 v => RA.mk b0 b1 b2 b3 b4 b5 b6 v b8 b9 b10 b11 b12 b13 b14 b15) a1 v) a2 a3 a4 a5 a6 a7 a8 a9 a10 a11 a12 a13 a14 a15) t v
  | 8 => .mk fun t v => RB.rec (motive := fun _ => AV → RB) (fun a0 a1 a2 a3 a4 a5 a6 a7 a8 a9 a10 a11 a12 a13 a14 a15 v => RB.mk a0 (RA.rec (motive := fun _ => AV → RA) (fun b0 b1 b2 b3 b4 b5 b6 b7 _ b9 b10 b11 b12 b13 b14 b15 v => RA.mk b0 b1 b2 b3 b4 b5 b6 b7 v b9 b10 b11 b12 b13 b14 b15) a1 v) a2 a3 a4 a5 a6 a7 a8 a9 a10 a11 a12 a13 a14 a15) t v
  | 9 => .mk fun t v => RB.rec (motive := fun _ => AV → RB) (fun a0 a1 a2 a3 a4 a5 a6 a7 a8 a9 a10 a11 a12 a13 a14 a15 v => RB.mk a0 (RA.rec (motive := fun _ => AV → RA) (fun b0 b1 b2 b3 b4 b5 b6 b7 b8 _ b10 b11 b12 b13 b14 b15 v => RA.mk b0 b1 b2 b3 b4 b5 b6 b7 b8 v b10 b11 b12 b13 b14 b15) a1 v) a2 a3 a4 a5 a6 a7 a8 a9 a10 a11 a12 a13 a14 a15) t v
  | 10 => .mk fun t v => RB.rec (motive := fun _ => AV → RB) (fun a0 a1 a2 a3 a4 a5 a6 a7 a8 a9 a10 a11 a12 a13 a14 a15 v => RB.mk a0 (RA.rec (motive := fun _ => AV → RA) (fun b0 b1 b2 b3 b4 b5 b6 b7 b8 b9 _ b11 b12 b13 b14 b15 v => RA.mk b0 b1 b2 b3 b4 b5 b6 b7 b8 b9 v b11 b12 b13 b14 b15) a1 v) a2 a3 a4 a5 a6 a7 a8 a9 a10 a11 a12 a13 a14 a15) t v
  | 11 => .mk fun t v => RB.rec (motive := fun _ => AV → RB) (fun a0 a1 a2 a3 a4 a5 a6 a7 a8 a9 a10 a11 a12 a13 a14 a15 v => RB.mk a0 (RA.rec (motive := fun _ => AV → RA) (fun b0 b1 b2 b3 b4 b5 b6 b7 b8 b9 b10 _ b12 b13 b14 b15 v => RA.mk b0 b1 b2 b3 b4 b5 b6 b7 b8 b9 b10 v b12 b13 b14 b15) a1 v) a2 a3 a4 a5 a6 a7 a8 a9 a10 a11 a12 a13 a14 a15) t v
  | 12 => .mk fun t v => RB.rec (motive := fun _ => AV → RB) (fun a0 a1 a2 a3 a4 a5 a6 a7 a8 a9 a10 a11 a12 a13 a14 a15 v => RB.mk a0 (RA.rec (motive := fun _ => AV → RA) (fun b0 b1 b2 b3 b4 b5 b6 b7 b8 b9 b10 b11 _ b13 b14 b15 v => RA.mk b0 b1 b2 b3 b4 b5 b6 b7 b8 b9 b10 b11 v b13 b14 b15) a1 v) a2 a3 a4 a5 a6 a7 a8 a9 a10 a11 a12 a13 a14 a15) t v
  | 13 => .mk fun t v => RB.rec (motive := fun _ => AV → RB) (fun a0 a1 a2 a3 a4 a5 a6 a7 a8 a9 a10 a11 a12 a13 a14 a15 v => RB.mk a0 (RA.rec (motive := fun _ => AV → RA) (fun b0 b1 b2 b3 b4 b5 b6 b7 b8 b9 b10 b11 b12 _ b14 b15 v => RA.mk b0 b1 b2 b3 b4 b5 b6 b7 b8 b9 b10 b11 b12 v b14 b15) a1 v) a2 a3 a4 a5 a6 a7 a8 a9 a10 a11 a12 a13 a14 a15) t v
  | 14 => .mk fun t v => RB.rec (motive := fun _ => AV → RB) (fun a0 a1 a2 a3 a4 a5 a6 a7 a8 a9 a10 a11 a12 a13 a14 a15 v => RB.mk a0 (RA.rec (motive := fun _ => AV → RA) (fun b0 b1 b2 b3 b4 b5 b6 b7 b8 b9 b10 b11 b12 b13 _ b15 v => RA.mk b0 b1 b2 b3 b4 b5 b6 b7 b8 b9 b10 b11 b12 b13 v b15) a1 v) a2 a3 a4 a5 a6 a7 a8 a9 a10 a11 a12 a13 a14 a15) t v
  | _ => .mk fun t v => RB.rec (motive := fun _ => AV → RB) (fun a0 a1 a2 a3 a4 a5 a6 a7 a8 a9 a10 a11 a12 a13 a14 a15 v => RB.mk a0 (RA.rec (motive := fun _ => AV → RA) (fun b0 b1 b2 b3 b4 b5 b6 b7 b8 b9 b10 b11 b12 b13 b14 _ v => RA.mk b0 b1 b2 b3 b4 b5 b6 b7 b8 b9 b10 b11 b12 b13 b14 v) a1 v) a2 a3 a4 a5 a6 a7 a8 a9 a10 a11 a12 a13 a14 a15) t v
def gk2 (j : Nat) : GK :=
  match j with
  | 0 => .mk fun t => RA.rec (motive := fun _ => AV) (fun a0 _ _ _ _ _ _ _ _ _ _ _ _ _ _ _ => a0) (RB.rec (motive := fun _ => RA) (fun _ _ a2 _ _ _ _ _ _ _ _ _ _ _ _ _ => a2) t)
  | 1 => .mk fun t => RA.rec (motive := fun _ => AV) (fun _ a1 _ _ _ _ _ _ _ _ _ _ _ _ _ _ => a1) (RB.rec (motive := fun _ => RA) (fun _ _ a2 _ _ _ _ _ _ _ _ _ _ _ _ _ => a2) t)
  | 2 => .mk fun t => RA.rec (motive := fun _ => AV) (fun _ _ a2 _ _ _ _ _ _ _ _ _ _ _ _ _ => a2) (RB.rec (motive := fun _ => RA) (fun _ _ a2 _ _ _ _ _ _ _ _ _ _ _ _ _ => a2) t)
  | 3 => .mk fun t => RA.rec (motive := fun _ => AV) (fun _ _ _ a3 _ _ _ _ _ _ _ _ _ _ _ _ => a3) (RB.rec (motive := fun _ => RA) (fun _ _ a2 _ _ _ _ _ _ _ _ _ _ _ _ _ => a2) t)
  | 4 => .mk fun t => RA.rec (motive := fun _ => AV) (fun _ _ _ _ a4 _ _ _ _ _ _ _ _ _ _ _ => a4) (RB.rec (motive := fun _ => RA) (fun _ _ a2 _ _ _ _ _ _ _ _ _ _ _ _ _ => a2) t)
  | 5 => .mk fun t => RA.rec (motive := fun _ => AV) (fun _ _ _ _ _ a5 _ _ _ _ _ _ _ _ _ _ => a5) (RB.rec (motive := fun _ => RA) (fun _ _ a2 _ _ _ _ _ _ _ _ _ _ _ _ _ => a2) t)
  | 6 => .mk fun t => RA.rec (motive := fun _ => AV) (fun _ _ _ _ _ _ a6 _ _ _ _ _ _ _ _ _ => a6) (RB.rec (motive := fun _ => RA) (fun _ _ a2 _ _ _ _ _ _ _ _ _ _ _ _ _ => a2) t)
  | 7 => .mk fun t => RA.rec (motive := fun _ => AV) (fun _ _ _ _ _ _ _ a7 _ _ _ _ _ _ _ _ => a7) (RB.rec (motive := fun _ => RA) (fun _ _ a2 _ _ _ _ _ _ _ _ _ _ _ _ _ => a2) t)
  | 8 => .mk fun t => RA.rec (motive := fun _ => AV) (fun _ _ _ _ _ _ _ _ a8 _ _ _ _ _ _ _ => a8) (RB.rec (motive := fun _ => RA) (fun _ _ a2 _ _ _ _ _ _ _ _ _ _ _ _ _ => a2) t)
  | 9 => .mk fun t => RA.rec (motive := fun _ => AV) (fun _ _ _ _ _ _ _ _ _ a9 _ _ _ _ _ _ => a9) (RB.rec (motive := fun _ => RA) (fun _ _ a2 _ _ _ _ _ _ _ _ _ _ _ _ _ => a2) t)
  | 10 => .mk fun t => RA.rec (motive := fun _ => AV) (fun _ _ _ _ _ _ _ _ _ _ a10 _ _ _ _ _ => a10) (RB.rec (motive := fun _ => RA) (fun _ _ a2 _ _ _ _ _ _ _ _ _ _ _ _ _ => a2) t)
  | 11 => .mk fun t => RA.rec (motive := fun _ => AV) (fun _ _ _ _ _ _ _ _ _ _ _ a11 _ _ _ _ => a11) (RB.rec (motive := fun _ => RA) (fun _ _ a2 _ _ _ _ _ _ _ _ _ _ _ _ _ => a2) t)
  | 12 => .mk fun t => RA.rec (motive := fun _ => AV) (fun _ _ _ _ _ _ _ _ _ _ _ _ a12 _ _ _ => a12) (RB.rec (motive := fun _ => RA) (fun _ _ a2 _ _ _ _ _ _ _ _ _ _ _ _ _ => a2) t)
  | 13 => .mk fun t => RA.rec (motive := fun _ => AV) (fun _ _ _ _ _ _ _ _ _ _ _ _ _ a13 _ _ => a13) (RB.rec (motive := fun _ => RA) (fun _ _ a2 _ _ _ _ _ _ _ _ _ _ _ _ _ => a2) t)
  | 14 => .mk fun t => RA.rec (motive := fun _ => AV) (fun _ _ _ _ _ _ _ _ _ _ _ _ _ _ a14 _ => a14) (RB.rec (motive := fun _ => RA) (fun _ _ a2 _ _ _ _ _ _ _ _ _ _ _ _ _ => a2) t)
  | _ => .mk fun t => RA.rec (motive := fun _ => AV) (fun _ _ _ _ _ _ _ _ _ _ _ _ _ _ _ a15 => a15) (RB.rec (motive := fun _ => RA) (fun _ _ a2 _ _ _ _ _ _ _ _ _ _ _ _ _ => a2) t)
def sk2 (j : Nat) : SK :=
  match j with
  | 0 => .mk fun t v => RB.rec (motive := fun _ => AV → RB) (fun a0 a1 a2 a3 a4 a5 a6 a7 a8 a9 a10 a11 a12 a13 a14 a15 v => RB.mk a0 a1 (RA.rec (motive := fun _ => AV → RA) (fun _ b1 b2 b3 b4 b5 b6 b7 b8 b9 b10 b11 b12 b13 b14 b15 v => RA.mk v b1 b2 b3 b4 b5 b6 b7 b8 b9 b10 b11 b12 b13 b14 b15) a2 v) a3 a4 a5 a6 a7 a8 a9 a10 a11 a12 a13 a14 a15) t v
  | 1 => .mk fun t v => RB.rec (motive := fun _ => AV → RB) (fun a0 a1 a2 a3 a4 a5 a6 a7 a8 a9 a10 a11 a12 a13 a14 a15 v => RB.mk a0 a1 (RA.rec (motive := fun _ => AV → RA) (fun b0 _ b2 b3 b4 b5 b6 b7 b8 b9 b10 b11 b12 b13 b14 b15 v => RA.mk b0 v b2 b3 b4 b5 b6 b7 b8 b9 b10 b11 b12 b13 b14 b15) a2 v) a3 a4 a5 a6 a7 a8 a9 a10 a11 a12 a13 a14 a15) t v
  | 2 => .mk fun t v => RB.rec (motive := fun _ => AV → RB) (fun a0 a1 a2 a3 a4 a5 a6 a7 a8 a9 a10 a11 a12 a13 a14 a15 v => RB.mk a0 a1 (RA.rec (motive := fun _ => AV → RA) (fun b0 b1 _ b3 b4 b5 b6 b7 b8 b9 b10 b11 b12 b13 b14 b15 v => RA.mk b0 b1 v b3 b4 b5 b6 b7 b8 b9 b10 b11 b12 b13 b14 b15) a2 v) a3 a4 a5 a6 a7 a8 a9 a10 a11 a12 a13 a14 a15) t v
  | 3 => .mk fun t v => RB.rec (motive := fun _ => AV → RB) (fun a0 a1 a2 a3 a4 a5 a6 a7 a8 a9 a10 a11 a12 a13 a14 a15 v => RB.mk a0 a1 (RA.rec (motive := fun _ => AV → RA) (fun b0 b1 b2 _ b4 b5 b6 b7 b8 b9 b10 b11 b12 b13 b14 b15 v => RA.mk b0 b1 b2 v b4 b5 b6 b7 b8 b9 b10 b11 b12 b13 b14 b15) a2 v) a3 a4 a5 a6 a7 a8 a9 a10 a11 a12 a13 a14 a15) t v
  | 4 => .mk fun t v => RB.rec (motive := fun _ => AV → RB) (fun a0 a1 a2 a3 a4 a5 a6 a7 a8 a9 a10 a11 a12 a13 a14 a15 v => RB.mk a0 a1 (RA.rec (motive := fun _ => AV → RA) (fun b0 b1 b2 b3 _ b5 b6 b7 b8 b9 b10 b11 b12 b13 b14 b15 v => RA.mk b0 b1 b2 b3 v b5 b6 b7 b8 b9 b10 b11 b12 b13 b14 b15) a2 v) a3 a4 a5 a6 a7 a8 a9 a10 a11 a12 a13 a14 a15) t v
  | 5 => .mk fun t v => RB.rec (motive := fun _ => AV → RB) (fun a0 a1 a2 a3 a4 a5 a6 a7 a8 a9 a10 a11 a12 a13 a14 a15 v => RB.mk a0 a1 (RA.rec (motive := fun _ => AV → RA) (fun b0 b1 b2 b3 b4 _ b6 b7 b8 b9 b10 b11 b12 b13 b14 b15 v => RA.mk b0 b1 b2 b3 b4 v b6 b7 b8 b9 b10 b11 b12 b13 b14 b15) a2 v) a3 a4 a5 a6 a7 a8 a9 a10 a11 a12 a13 a14 a15) t v
  | 6 => .mk fun t v => RB.rec (motive := fun _ => AV → RB) (fun a0 a1 a2 a3 a4 a5 a6 a7 a8 a9 a10 a11 a12 a13 a14 a15 v => RB.mk a0 a1 (RA.rec (motive := fun _ => AV → RA) (fun b0 b1 b2 b3 b4 b5 _ b7 b8 b9 b10 b11 b12 b13 b14 b15 v => RA.mk b0 b1 b2 b3 b4 b5 v b7 b8 b9 b10 b11 b12 b13 b14 b15) a2 v) a3 a4 a5 a6 a7 a8 a9 a10 a11 a12 a13 a14 a15) t v
  | 7 => .mk fun t v => RB.rec (motive := fun _ => AV → RB) (fun a0 a1 a2 a3 a4 a5 a6 a7 a8 a9 a10 a11 a12 a13 a14 a15 v => RB.mk a0 a1 (RA.rec (motive := fun _ => AV → RA) (fun b0 b1 b2 b3 b4 b5 b6 _ b8 b9 b10 b11 b12 b13 b14 b15 v => RA.mk b0 b1 b2 b3 b4 b5 b6 v b8 b9 b10 b11 b12 b13 b14 b15) a2 v) a3 a4 a5 a6 a7 a8 a9 a10 a11 a12 a13 a14 a15) t v
  | 8 => .mk fun t v => RB.rec (motive := fun _ => AV → RB) (fun a0 a1 a2 a3 a4 a5 a6 a7 a8 a9 a10 a11 a12 a13 a14 a15 v => RB.mk a0 a1 (RA.rec (motive := fun _ => AV → RA) (fun b0 b1 b2 b3 b4 b5 b6 b7 _ b9 b10 b11 b12 b13 b14 b15 v => RA.mk b0 b1 b2 b3 b4 b5 b6 b7 v b9 b10 b11 b12 b13 b14 b15) a2 v) a3 a4 a5 a6 a7 a8 a9 a10 a11 a12 a13 a14 a15) t v
  | 9 => .mk fun t v => RB.rec (motive := fun _ => AV → RB) (fun a0 a1 a2 a3 a4 a5 a6 a7 a8 a9 a10 a11 a12 a13 a14 a15 v => RB.mk a0 a1 (RA.rec (motive := fun _ => AV → RA) (fun b0 b1 b2 b3 b4 b5 b6 b7 b8 _ b10 b11 b12 b13 b14 b15 v => RA.mk b0 b1 b2 b3 b4 b5 b6 b7 b8 v b10 b11 b12 b13 b14 b15) a2 v) a3 a4 a5 a6 a7 a8 a9 a10 a11 a12 a13 a14 a15) t v
  | 10 => .mk fun t v => RB.rec (motive := fun _ => AV → RB) (fun a0 a1 a2 a3 a4 a5 a6 a7 a8 a9 a10 a11 a12 a13 a14 a15 v => RB.mk a0 a1 (RA.rec (motive := fun _ => AV → RA) (fun b0 b1 b2 b3 b4 b5 b6 b7 b8 b9 _ b11 b12 b13 b14 b15 v => RA.mk b0 b1 b2 b3 b4 b5 b6 b7 b8 b9 v b11 b12 b13 b14 b15) a2 v) a3 a4 a5 a6 a7 a8 a9 a10 a11 a12 a13 a14 a15) t v
  | 11 => .mk fun t v => RB.rec (motive := fun _ => AV → RB) (fun a0 a1 a2 a3 a4 a5 a6 a7 a8 a9 a10 a11 a12 a13 a14 a15 v => RB.mk a0 a1 (RA.rec (motive := fun _ => AV → RA) (fun b0 b1 b2 b3 b4 b5 b6 b7 b8 b9 b10 _ b12 b13 b14 b15 v => RA.mk b0 b1 b2 b3 b4 b5 b6 b7 b8 b9 b10 v b12 b13 b14 b15) a2 v) a3 a4 a5 a6 a7 a8 a9 a10 a11 a12 a13 a14 a15) t v
  | 12 => .mk fun t v => RB.rec (motive := fun _ => AV → RB) (fun a0 a1 a2 a3 a4 a5 a6 a7 a8 a9 a10 a11 a12 a13 a14 a15 v => RB.mk a0 a1 (RA.rec (motive := fun _ => AV → RA) (fun b0 b1 b2 b3 b4 b5 b6 b7 b8 b9 b10 b11 _ b13 b14 b15 v => RA.mk b0 b1 b2 b3 b4 b5 b6 b7 b8 b9 b10 b11 v b13 b14 b15) a2 v) a3 a4 a5 a6 a7 a8 a9 a10 a11 a12 a13 a14 a15) t v
  | 13 => .mk fun t v => RB.rec (motive := fun _ => AV → RB) (fun a0 a1 a2 a3 a4 a5 a6 a7 a8 a9 a10 a11 a12 a13 a14 a15 v => RB.mk a0 a1 (RA.rec (motive := fun _ => AV → RA) (fun b0 b1 b2 b3 b4 b5 b6 b7 b8 b9 b10 b11 b12 _ b14 b15 v => RA.mk b0 b1 b2 b3 b4 b5 b6 b7 b8 b9 b10 b11 b12 v b14 b15) a2 v) a3 a4 a5 a6 a7 a8 a9 a10 a11 a12 a13 a14 a15) t v
  | 14 => .mk fun t v => RB.rec (motive := fun _ => AV → RB) (fun a0 a1 a2 a3 a4 a5 a6 a7 a8 a9 a10 a11 a12 a13 a14 a15 v => RB.mk a0 a1 (RA.rec (motive := fun _ => AV → RA) (fun b0 b1 b2 b3 b4 b5 b6 b7 b8 b9 b10 b11 b12 b13 _ b15 v => RA.mk b0 b1 b2 b3 b4 b5 b6 b7 b8 b9 b10 b11 b12 b13 v b15) a2 v) a3 a4 a5 a6 a7 a8 a9 a10 a11 a12 a13 a14 a15) t v
  | _ => .mk fun t v => RB.rec (motive := fun _ => AV → RB) (fun a0 a1 a2 a3 a4 a5 a6 a7 a8 a9 a10 a11 a12 a13 a14 a15 v => RB.mk a0 a1 (RA.rec (motive := fun _ => AV → RA) (fun b0 b1 b2 b3 b4 b5 b6 b7 b8 b9 b10 b11 b12 b13 b14 _ v => RA.mk b0 b1 b2 b3 b4 b5 b6 b7 b8 b9 b10 b11 b12 b13 b14 v) a2 v) a3 a4 a5 a6 a7 a8 a9 a10 a11 a12 a13 a14 a15) t v
def gk3 (j : Nat) : GK :=
  match j with
  | 0 => .mk fun t => RA.rec (motive := fun _ => AV) (fun a0 _ _ _ _ _ _ _ _ _ _ _ _ _ _ _ => a0) (RB.rec (motive := fun _ => RA) (fun _ _ _ a3 _ _ _ _ _ _ _ _ _ _ _ _ => a3) t)
  | 1 => .mk fun t => RA.rec (motive := fun _ => AV) (fun _ a1 _ _ _ _ _ _ _ _ _ _ _ _ _ _ => a1) (RB.rec (motive := fun _ => RA) (fun _ _ _ a3 _ _ _ _ _ _ _ _ _ _ _ _ => a3) t)
  | 2 => .mk fun t => RA.rec (motive := fun _ => AV) (fun _ _ a2 _ _ _ _ _ _ _ _ _ _ _ _ _ => a2) (RB.rec (motive := fun _ => RA) (fun _ _ _ a3 _ _ _ _ _ _ _ _ _ _ _ _ => a3) t)
  | 3 => .mk fun t => RA.rec (motive := fun _ => AV) (fun _ _ _ a3 _ _ _ _ _ _ _ _ _ _ _ _ => a3) (RB.rec (motive := fun _ => RA) (fun _ _ _ a3 _ _ _ _ _ _ _ _ _ _ _ _ => a3) t)
  | 4 => .mk fun t => RA.rec (motive := fun _ => AV) (fun _ _ _ _ a4 _ _ _ _ _ _ _ _ _ _ _ => a4) (RB.rec (motive := fun _ => RA) (fun _ _ _ a3 _ _ _ _ _ _ _ _ _ _ _ _ => a3) t)
  | 5 => .mk fun t => RA.rec (motive := fun _ => AV) (fun _ _ _ _ _ a5 _ _ _ _ _ _ _ _ _ _ => a5) (RB.rec (motive := fun _ => RA) (fun _ _ _ a3 _ _ _ _ _ _ _ _ _ _ _ _ => a3) t)
  | 6 => .mk fun t => RA.rec (motive := fun _ => AV) (fun _ _ _ _ _ _ a6 _ _ _ _ _ _ _ _ _ => a6) (RB.rec (motive := fun _ => RA) (fun _ _ _ a3 _ _ _ _ _ _ _ _ _ _ _ _ => a3) t)
  | 7 => .mk fun t => RA.rec (motive := fun _ => AV) (fun _ _ _ _ _ _ _ a7 _ _ _ _ _ _ _ _ => a7) (RB.rec (motive := fun _ => RA) (fun _ _ _ a3 _ _ _ _ _ _ _ _ _ _ _ _ => a3) t)
  | 8 => .mk fun t => RA.rec (motive := fun _ => AV) (fun _ _ _ _ _ _ _ _ a8 _ _ _ _ _ _ _ => a8) (RB.rec (motive := fun _ => RA) (fun _ _ _ a3 _ _ _ _ _ _ _ _ _ _ _ _ => a3) t)
  | 9 => .mk fun t => RA.rec (motive := fun _ => AV) (fun _ _ _ _ _ _ _ _ _ a9 _ _ _ _ _ _ => a9) (RB.rec (motive := fun _ => RA) (fun _ _ _ a3 _ _ _ _ _ _ _ _ _ _ _ _ => a3) t)
  | 10 => .mk fun t => RA.rec (motive := fun _ => AV) (fun _ _ _ _ _ _ _ _ _ _ a10 _ _ _ _ _ => a10) (RB.rec (motive := fun _ => RA) (fun _ _ _ a3 _ _ _ _ _ _ _ _ _ _ _ _ => a3) t)
  | 11 => .mk fun t => RA.rec (motive := fun _ => AV) (fun _ _ _ _ _ _ _ _ _ _ _ a11 _ _ _ _ => a11) (RB.rec (motive := fun _ => RA) (fun _ _ _ a3 _ _ _ _ _ _ _ _ _ _ _ _ => a3) t)
  | 12 => .mk fun t => RA.rec (motive := fun _ => AV) (fun _ _ _ _ _ _ _ _ _ _ _ _ a12 _ _ _ => a12) (RB.rec (motive := fun _ => RA) (fun _ _ _ a3 _ _ _ _ _ _ _ _ _ _ _ _ => a3) t)
  | 13 => .mk fun t => RA.rec (motive := fun _ => AV) (fun _ _ _ _ _ _ _ _ _ _ _ _ _ a13 _ _ => a13) (RB.rec (motive := fun _ => RA) (fun _ _ _ a3 _ _ _ _ _ _ _ _ _ _ _ _ => a3) t)
  | 14 => .mk fun t => RA.rec (motive := fun _ => AV) (fun _ _ _ _ _ _ _ _ _ _ _ _ _ _ a14 _ => a14) (RB.rec (motive := fun _ => RA) (fun _ _ _ a3 _ _ _ _ _ _ _ _ _ _ _ _ => a3) t)
  | _ => .mk fun t => RA.rec (motive := fun _ => AV) (fun _ _ _ _ _ _ _ _ _ _ _ _ _ _ _ a15 => a15) (RB.rec (motive := fun _ => RA) (fun _ _ _ a3 _ _ _ _ _ _ _ _ _ _ _ _ => a3) t)
def sk3 (j : Nat) : SK :=
  match j with
  | 0 => .mk fun t v => RB.rec (motive := fun _ => AV → RB) (fun a0 a1 a2 a3 a4 a5 a6 a7 a8 a9 a10 a11 a12 a13 a14 a15 v => RB.mk a0 a1 a2 (RA.rec (motive := fun _ => AV → RA) (fun _ b1 b2 b3 b4 b5 b6 b7 b8 b9 b10 b11 b12 b13 b14 b15 v => RA.mk v b1 b2 b3 b4 b5 b6 b7 b8 b9 b10 b11 b12 b13 b14 b15) a3 v) a4 a5 a6 a7 a8 a9 a10 a11 a12 a13 a14 a15) t v
  | 1 => .mk fun t v => RB.rec (motive := fun _ => AV → RB) (fun a0 a1 a2 a3 a4 a5 a6 a7 a8 a9 a10 a11 a12 a13 a14 a15 v => RB.mk a0 a1 a2 (RA.rec (motive := fun _ => AV → RA) (fun b0 _ b2 b3 b4 b5 b6 b7 b8 b9 b10 b11 b12 b13 b14 b15 v => RA.mk b0 v b2 b3 b4 b5 b6 b7 b8 b9 b10 b11 b12 b13 b14 b15) a3 v) a4 a5 a6 a7 a8 a9 a10 a11 a12 a13 a14 a15) t v
  | 2 => .mk fun t v => RB.rec (motive := fun _ => AV → RB) (fun a0 a1 a2 a3 a4 a5 a6 a7 a8 a9 a10 a11 a12 a13 a14 a15 v => RB.mk a0 a1 a2 (RA.rec (motive := fun _ => AV → RA) (fun b0 b1 _ b3 b4 b5 b6 b7 b8 b9 b10 b11 b12 b13 b14 b15 v => RA.mk b0 b1 v b3 b4 b5 b6 b7 b8 b9 b10 b11 b12 b13 b14 b15) a3 v) a4 a5 a6 a7 a8 a9 a10 a11 a12 a13 a14 a15) t v
  | 3 => .mk fun t v => RB.rec (motive := fun _ => AV → RB) (fun a0 a1 a2 a3 a4 a5 a6 a7 a8 a9 a10 a11 a12 a13 a14 a15 v => RB.mk a0 a1 a2 (RA.rec (motive := fun _ => AV → RA) (fun b0 b1 b2 _ b4 b5 b6 b7 b8 b9 b10 b11 b12 b13 b14 b15 v => RA.mk b0 b1 b2 v b4 b5 b6 b7 b8 b9 b10 b11 b12 b13 b14 b15) a3 v) a4 a5 a6 a7 a8 a9 a10 a11 a12 a13 a14 a15) t v
  | 4 => .mk fun t v => RB.rec (motive := fun _ => AV → RB) (fun a0 a1 a2 a3 a4 a5 a6 a7 a8 a9 a10 a11 a12 a13 a14 a15 v => RB.mk a0 a1 a2 (RA.rec (motive := fun _ => AV → RA) (fun b0 b1 b2 b3 _ b5 b6 b7 b8 b9 b10 b11 b12 b13 b14 b15 v => RA.mk b0 b1 b2 b3 v b5 b6 b7 b8 b9 b10 b11 b12 b13 b14 b15) a3 v) a4 a5 a6 a7 a8 a9 a10 a11 a12 a13 a14 a15) t v
  | 5 => .mk fun t v => RB.rec (motive := fun _ => AV → RB) (fun a0 a1 a2 a3 a4 a5 a6 a7 a8 a9 a10 a11 a12 a13 a14 a15 v => RB.mk a0 a1 a2 (RA.rec (motive := fun _ => AV → RA) (fun b0 b1 b2 b3 b4 _ b6 b7 b8 b9 b10 b11 b12 b13 b14 b15 v => RA.mk b0 b1 b2 b3 b4 v b6 b7 b8 b9 b10 b11 b12 b13 b14 b15) a3 v) a4 a5 a6 a7 a8 a9 a10 a11 a12 a13 a14 a15) t v
  | 6 => .mk fun t v => RB.rec (motive := fun _ => AV → RB) (fun a0 a1 a2 a3 a4 a5 a6 a7 a8 a9 a10 a11 a12 a13 a14 a15 v => RB.mk a0 a1 a2 (RA.rec (motive := fun _ => AV → RA) (fun b0 b1 b2 b3 b4 b5 _ b7 b8 b9 b10 b11 b12 b13 b14 b15 v => RA.mk b0 b1 b2 b3 b4 b5 v b7 b8 b9 b10 b11 b12 b13 b14 b15) a3 v) a4 a5 a6 a7 a8 a9 a10 a11 a12 a13 a14 a15) t v
  | 7 => .mk fun t v => RB.rec (motive := fun _ => AV → RB) (fun a0 a1 a2 a3 a4 a5 a6 a7 a8 a9 a10 a11 a12 a13 a14 a15 v => RB.mk a0 a1 a2 (RA.rec (motive := fun _ => AV → RA) (fun b0 b1 b2 b3 b4 b5 b6 _ b8 b9 b10 b11 b12 b13 b14 b15 v => RA.mk b0 b1 b2 b3 b4 b5 b6 v b8 b9 b10 b11 b12 b13 b14 b15) a3 v) a4 a5 a6 a7 a8 a9 a10 a11 a12 a13 a14 a15) t v
  | 8 => .mk fun t v => RB.rec (motive := fun _ => AV → RB) (fun a0 a1 a2 a3 a4 a5 a6 a7 a8 a9 a10 a11 a12 a13 a14 a15 v => RB.mk a0 a1 a2 (RA.rec (motive := fun _ => AV → RA) (fun b0 b1 b2 b3 b4 b5 b6 b7 _ b9 b10 b11 b12 b13 b14 b15 v => RA.mk b0 b1 b2 b3 b4 b5 b6 b7 v b9 b10 b11 b12 b13 b14 b15) a3 v) a4 a5 a6 a7 a8 a9 a10 a11 a12 a13 a14 a15) t v
  | 9 => .mk fun t v => RB.rec (motive := fun _ => AV → RB) (fun a0 a1 a2 a3 a4 a5 a6 a7 a8 a9 a10 a11 a12 a13 a14 a15 v => RB.mk a0 a1 a2 (RA.rec (motive := fun _ => AV → RA) (fun b0 b1 b2 b3 b4 b5 b6 b7 b8 _ b10 b11 b12 b13 b14 b15 v => RA.mk b0 b1 b2 b3 b4 b5 b6 b7 b8 v b10 b11 b12 b13 b14 b15) a3 v) a4 a5 a6 a7 a8 a9 a10 a11 a12 a13 a14 a15) t v
  | 10 => .mk fun t v => RB.rec (motive := fun _ => AV → RB) (fun a0 a1 a2 a3 a4 a5 a6 a7 a8 a9 a10 a11 a12 a13 a14 a15 v => RB.mk a0 a1 a2 (RA.rec (motive := fun _ => AV → RA) (fun b0 b1 b2 b3 b4 b5 b6 b7 b8 b9 _ b11 b12 b13 b14 b15 v => RA.mk b0 b1 b2 b3 b4 b5 b6 b7 b8 b9 v b11 b12 b13 b14 b15) a3 v) a4 a5 a6 a7 a8 a9 a10 a11 a12 a13 a14 a15) t v
  | 11 => .mk fun t v => RB.rec (motive := fun _ => AV → RB) (fun a0 a1 a2 a3 a4 a5 a6 a7 a8 a9 a10 a11 a12 a13 a14 a15 v => RB.mk a0 a1 a2 (RA.rec (motive := fun _ => AV → RA) (fun b0 b1 b2 b3 b4 b5 b6 b7 b8 b9 b10 _ b12 b13 b14 b15 v => RA.mk b0 b1 b2 b3 b4 b5 b6 b7 b8 b9 b10 v b12 b13 b14 b15) a3 v) a4 a5 a6 a7 a8 a9 a10 a11 a12 a13 a14 a15) t v
  | 12 => .mk fun t v => RB.rec (motive := fun _ => AV → RB) (fun a0 a1 a2 a3 a4 a5 a6 a7 a8 a9 a10 a11 a12 a13 a14 a15 v => RB.mk a0 a1 a2 (RA.rec (motive := fun _ => AV → RA) (fun b0 b1 b2 b3 b4 b5 b6 b7 b8 b9 b10 b11 _ b13 b14 b15 v => RA.mk b0 b1 b2 b3 b4 b5 b6 b7 b8 b9 b10 b11 v b13 b14 b15) a3 v) a4 a5 a6 a7 a8 a9 a10 a11 a12 a13 a14 a15) t v
  | 13 => .mk fun t v => RB.rec (motive := fun _ => AV → RB) (fun a0 a1 a2 a3 a4 a5 a6 a7 a8 a9 a10 a11 a12 a13 a14 a15 v => RB.mk a0 a1 a2 (RA.rec (motive := fun _ => AV → RA) (fun b0 b1 b2 b3 b4 b5 b6 b7 b8 b9 b10 b11 b12 _ b14 b15 v => RA.mk b0 b1 b2 b3 b4 b5 b6 b7 b8 b9 b10 b11 b12 v b14 b15) a3 v) a4 a5 a6 a7 a8 a9 a10 a11 a12 a13 a14 a15) t v
  | 14 => .mk fun t v => RB.rec (motive := fun _ => AV → RB) (fun a0 a1 a2 a3 a4 a5 a6 a7 a8 a9 a10 a11 a12 a13 a14 a15 v => RB.mk a0 a1 a2 (RA.rec (motive := fun _ => AV → RA) (fun b0 b1 b2 b3 b4 b5 b6 b7 b8 b9 b10 b11 b12 b13 _ b15 v => RA.mk b0 b1 b2 b3 b4 b5 b6 b7 b8 b9 b10 b11 b12 b13 v b15) a3 v) a4 a5 a6 a7 a8 a9 a10 a11 a12 a13 a14 a15) t v
  | _ => .mk fun t v => RB.rec (motive := fun _ => AV → RB) (fun a0 a1 a2 a3 a4 a5 a6 a7 a8 a9 a10 a11 a12 a13 a14 a15 v => RB.mk a0 a1 a2 (RA.rec (motive := fun _ => AV → RA) (fun b0 b1 b2 b3 b4 b5 b6 b7 b8 b9 b10 b11 b12 b13 b14 _ v => RA.mk b0 b1 b2 b3 b4 b5 b6 b7 b8 b9 b10 b11 b12 b13 b14 v) a3 v) a4 a5 a6 a7 a8 a9 a10 a11 a12 a13 a14 a15) t v
def gk4 (j : Nat) : GK :=
  match j with
  | 0 => .mk fun t => RA.rec (motive := fun _ => AV) (fun a0 _ _ _ _ _ _ _ _ _ _ _ _ _ _ _ => a0) (RB.rec (motive := fun _ => RA) (fun _ _ _ _ a4 _ _ _ _ _ _ _ _ _ _ _ => a4) t)
  | 1 => .mk fun t => RA.rec (motive := fun _ => AV) (fun _ a1 _ _ _ _ _ _ _ _ _ _ _ _ _ _ => a1) (RB.rec (motive := fun _ => RA) (fun _ _ _ _ a4 _ _ _ _ _ _ _ _ _ _ _ => a4) t)
  | 2 => .mk fun t => RA.rec (motive := fun _ => AV) (fun _ _ a2 _ _ _ _ _ _ _ _ _ _ _ _ _ => a2) (RB.rec (motive := fun _ => RA) (fun _ _ _ _ a4 _ _ _ _ _ _ _ _ _ _ _ => a4) t)
  | 3 => .mk fun t => RA.rec (motive := fun _ => AV) (fun _ _ _ a3 _ _ _ _ _ _ _ _ _ _ _ _ => a3) (RB.rec (motive := fun _ => RA) (fun _ _ _ _ a4 _ _ _ _ _ _ _ _ _ _ _ => a4) t)
  | 4 => .mk fun t => RA.rec (motive := fun _ => AV) (fun _ _ _ _ a4 _ _ _ _ _ _ _ _ _ _ _ => a4) (RB.rec (motive := fun _ => RA) (fun _ _ _ _ a4 _ _ _ _ _ _ _ _ _ _ _ => a4) t)
  | 5 => .mk fun t => RA.rec (motive := fun _ => AV) (fun _ _ _ _ _ a5 _ _ _ _ _ _ _ _ _ _ => a5) (RB.rec (motive := fun _ => RA) (fun _ _ _ _ a4 _ _ _ _ _ _ _ _ _ _ _ => a4) t)
  | 6 => .mk fun t => RA.rec (motive := fun _ => AV) (fun _ _ _ _ _ _ a6 _ _ _ _ _ _ _ _ _ => a6) (RB.rec (motive := fun _ => RA) (fun _ _ _ _ a4 _ _ _ _ _ _ _ _ _ _ _ => a4) t)
  | 7 => .mk fun t => RA.rec (motive := fun _ => AV) (fun _ _ _ _ _ _ _ a7 _ _ _ _ _ _ _ _ => a7) (RB.rec (motive := fun _ => RA) (fun _ _ _ _ a4 _ _ _ _ _ _ _ _ _ _ _ => a4) t)
  | 8 => .mk fun t => RA.rec (motive := fun _ => AV) (fun _ _ _ _ _ _ _ _ a8 _ _ _ _ _ _ _ => a8) (RB.rec (motive := fun _ => RA) (fun _ _ _ _ a4 _ _ _ _ _ _ _ _ _ _ _ => a4) t)
  | 9 => .mk fun t => RA.rec (motive := fun _ => AV) (fun _ _ _ _ _ _ _ _ _ a9 _ _ _ _ _ _ => a9) (RB.rec (motive := fun _ => RA) (fun _ _ _ _ a4 _ _ _ _ _ _ _ _ _ _ _ => a4) t)
  | 10 => .mk fun t => RA.rec (motive := fun _ => AV) (fun _ _ _ _ _ _ _ _ _ _ a10 _ _ _ _ _ => a10) (RB.rec (motive := fun _ => RA) (fun _ _ _ _ a4 _ _ _ _ _ _ _ _ _ _ _ => a4) t)
  | 11 => .mk fun t => RA.rec (motive := fun _ => AV) (fun _ _ _ _ _ _ _ _ _ _ _ a11 _ _ _ _ => a11) (RB.rec (motive := fun _ => RA) (fun _ _ _ _ a4 _ _ _ _ _ _ _ _ _ _ _ => a4) t)
  | 12 => .mk fun t => RA.rec (motive := fun _ => AV) (fun _ _ _ _ _ _ _ _ _ _ _ _ a12 _ _ _ => a12) (RB.rec (motive := fun _ => RA) (fun _ _ _ _ a4 _ _ _ _ _ _ _ _ _ _ _ => a4) t)
  | 13 => .mk fun t => RA.rec (motive := fun _ => AV) (fun _ _ _ _ _ _ _ _ _ _ _ _ _ a13 _ _ => a13) (RB.rec (motive := fun _ => RA) (fun _ _ _ _ a4 _ _ _ _ _ _ _ _ _ _ _ => a4) t)
  | 14 => .mk fun t => RA.rec (motive := fun _ => AV) (fun _ _ _ _ _ _ _ _ _ _ _ _ _ _ a14 _ => a14) (RB.rec (motive := fun _ => RA) (fun _ _ _ _ a4 _ _ _ _ _ _ _ _ _ _ _ => a4) t)
  | _ => .mk fun t => RA.rec (motive := fun _ => AV) (fun _ _ _ _ _ _ _ _ _ _ _ _ _ _ _ a15 => a15) (RB.rec (motive := fun _ => RA) (fun _ _ _ _ a4 _ _ _ _ _ _ _ _ _ _ _ => a4) t)
def sk4 (j : Nat) : SK :=
  match j with
  | 0 => .mk fun t v => RB.rec (motive := fun _ => AV → RB) (fun a0 a1 a2 a3 a4 a5 a6 a7 a8 a9 a10 a11 a12 a13 a14 a15 v => RB.mk a0 a1 a2 a3 (RA.rec (motive := fun _ => AV → RA) (fun _ b1 b2 b3 b4 b5 b6 b7 b8 b9 b10 b11 b12 b13 b14 b15 v => RA.mk v b1 b2 b3 b4 b5 b6 b7 b8 b9 b10 b11 b12 b13 b14 b15) a4 v) a5 a6 a7 a8 a9 a10 a11 a12 a13 a14 a15) t v
  | 1 => .mk fun t v => RB.rec (motive := fun _ => AV → RB) (fun a0 a1 a2 a3 a4 a5 a6 a7 a8 a9 a10 a11 a12 a13 a14 a15 v => RB.mk a0 a1 a2 a3 (RA.rec (motive := fun _ => AV → RA) (fun b0 _ b2 b3 b4 b5 b6 b7 b8 b9 b10 b11 b12 b13 b14 b15 v => RA.mk b0 v b2 b3 b4 b5 b6 b7 b8 b9 b10 b11 b12 b13 b14 b15) a4 v) a5 a6 a7 a8 a9 a10 a11 a12 a13 a14 a15) t v
  | 2 => .mk fun t v => RB.rec (motive := fun _ => AV → RB) (fun a0 a1 a2 a3 a4 a5 a6 a7 a8 a9 a10 a11 a12 a13 a14 a15 v => RB.mk a0 a1 a2 a3 (RA.rec (motive := fun _ => AV → RA) (fun b0 b1 _ b3 b4 b5 b6 b7 b8 b9 b10 b11 b12 b13 b14 b15 v => RA.mk b0 b1 v b3 b4 b5 b6 b7 b8 b9 b10 b11 b12 b13 b14 b15) a4 v) a5 a6 a7 a8 a9 a10 a11 a12 a13 a14 a15) t v
  | 3 => .mk fun t v => RB.rec (motive := fun _ => AV → RB) (fun a0 a1 a2 a3 a4 a5 a6 a7 a8 a9 a10 a11 a12 a13 a14 a15 v => RB.mk a0 a1 a2 a3 (RA.rec (motive := fun _ => AV → RA) (fun b0 b1 b2 _ b4 b5 b6 b7 b8 b9 b10 b11 b12 b13 b14 b15 v => RA.mk b0 b1 b2 v b4 b5 b6 b7 b8 b9 b10 b11 b12 b13 b14 b15) a4 v) a5 a6 a7 a8 a9 a10 a11 a12 a13 a14 a15) t v
  | 4 => .mk fun t v => RB.rec (motive := fun _ => AV → RB) (fun a0 a1 a2 a3 a4 a5 a6 a7 a8 a9 a10 a11 a12 a13 a14 a15 v => RB.mk a0 a1 a2 a3 (RA.rec (motive := fun _ => AV → RA) (fun b0 b1 b2 b3 _ b5 b6 b7 b8 b9 b10 b11 b12 b13 b14 b15 v => RA.mk b0 b1 b2 b3 v b5 b6 b7 b8 b9 b10 b11 b12 b13 b14 b15) a4 v) a5 a6 a7 a8 a9 a10 a11 a12 a13 a14 a15) t v
  | 5 => .mk fun t v => RB.rec (motive := fun _ => AV → RB) (fun a0 a1 a2 a3 a4 a5 a6 a7 a8 a9 a10 a11 a12 a13 a14 a15 v => RB.mk a0 a1 a2 a3 (RA.rec (motive := fun _ => AV → RA) (fun b0 b1 b2 b3 b4 _ b6 b7 b8 b9 b10 b11 b12 b13 b14 b15 v => RA.mk b0 b1 b2 b3 b4 v b6 b7 b8 b9 b10 b11 b12 b13 b14 b15) a4 v) a5 a6 a7 a8 a9 a10 a11 a12 a13 a14 a15) t v
  | 6 => .mk fun t v => RB.rec (motive := fun _ => AV → RB) (fun a0 a1 a2 a3 a4 a5 a6 a7 a8 a9 a10 a11 a12 a13 a14 a15 v => RB.mk a0 a1 a2 a3 (RA.rec (motive := fun _ => AV → RA) (fun b0 b1 b2 b3 b4 b5 _ b7 b8 b9 b10 b11 b12 b13 b14 b15 v => RA.mk b0 b1 b2 b3 b4 b5 v b7 b8 b9 b10 b11 b12 b13 b14 b15) a4 v) a5 a6 a7 a8 a9 a10 a11 a12 a13 a14 a15) t v
  | 7 => .mk fun t v => RB.rec (motive := fun _ => AV → RB) (fun a0 a1 a2 a3 a4 a5 a6 a7 a8 a9 a10 a11 a12 a13 a14 a15 v => RB.mk a0 a1 a2 a3 (RA.rec (motive := fun _ => AV → RA) (fun b0 b1 b2 b3 b4 b5 b6 _ b8 b9 b10 b11 b12 b13 b14 b15 v => RA.mk b0 b1 b2 b3 b4 b5 b6 v b8 b9 b10 b11 b12 b13 b14 b15) a4 v) a5 a6 a7 a8 a9 a10 a11 a12 a13 a14 a15) t v
  | 8 => .mk fun t v => RB.rec (motive := fun _ => AV → RB) (fun a0 a1 a2 a3 a4 a5 a6 a7 a8 a9 a10 a11 a12 a13 a14 a15 v => RB.mk a0 a1 a2 a3 (RA.rec (motive := fun _ => AV → RA) (fun b0 b1 b2 b3 b4 b5 b6 b7 _ b9 b10 b11 b12 b13 b14 b15 v => RA.mk b0 b1 b2 b3 b4 b5 b6 b7 v b9 b10 b11 b12 b13 b14 b15) a4 v) a5 a6 a7 a8 a9 a10 a11 a12 a13 a14 a15) t v
  | 9 => .mk fun t v => RB.rec (motive := fun _ => AV → RB) (fun a0 a1 a2 a3 a4 a5 a6 a7 a8 a9 a10 a11 a12 a13 a14 a15 v => RB.mk a0 a1 a2 a3 (RA.rec (motive := fun _ => AV → RA) (fun b0 b1 b2 b3 b4 b5 b6 b7 b8 _ b10 b11 b12 b13 b14 b15 v => RA.mk b0 b1 b2 b3 b4 b5 b6 b7 b8 v b10 b11 b12 b13 b14 b15) a4 v) a5 a6 a7 a8 a9 a10 a11 a12 a13 a14 a15) t v
  | 10 => .mk fun t v => RB.rec (motive := fun _ => AV → RB) (fun a0 a1 a2 a3 a4 a5 a6 a7 a8 a9 a10 a11 a12 a13 a14 a15 v => RB.mk a0 a1 a2 a3 (RA.rec (motive := fun _ => AV → RA) (fun b0 b1 b2 b3 b4 b5 b6 b7 b8 b9 _ b11 b12 b13 b14 b15 v => RA.mk b0 b1 b2 b3 b4 b5 b6 b7 b8 b9 v b11 b12 b13 b14 b15) a4 v) a5 a6 a7 a8 a9 a10 a11 a12 a13 a14 a15) t v
  | 11 => .mk fun t v => RB.rec (motive := fun _ => AV → RB) (fun a0 a1 a2 a3 a4 a5 a6 a7 a8 a9 a10 a11 a12 a13 a14 a15 v => RB.mk a0 a1 a2 a3 (RA.rec (motive := fun _ => AV → RA) (fun b0 b1 b2 b3 b4 b5 b6 b7 b8 b9 b10 _ b12 b13 b14 b15 v => RA.mk b0 b1 b2 b3 b4 b5 b6 b7 b8 b9 b10 v b12 b13 b14 b15) a4 v) a5 a6 a7 a8 a9 a10 a11 a12 a13 a14 a15) t v
  | 12 => .mk fun t v => RB.rec (motive := fun _ => AV → RB) (fun a0 a1 a2 a3 a4 a5 a6 a7 a8 a9 a10 a11 a12 a13 a14 a15 v => RB.mk a0 a1 a2 a3 (RA.rec (motive := fun _ => AV → RA) (fun b0 b1 b2 b3 b4 b5 b6 b7 b8 b9 b10 b11 _ b13 b14 b15 v => RA.mk b0 b1 b2 b3 b4 b5 b6 b7 b8 b9 b10 b11 v b13 b14 b15) a4 v) a5 a6 a7 a8 a9 a10 a11 a12 a13 a14 a15) t v
  | 13 => .mk fun t v => RB.rec (motive := fun _ => AV → RB) (fun a0 a1 a2 a3 a4 a5 a6 a7 a8 a9 a10 a11 a12 a13 a14 a15 v => RB.mk a0 a1 a2 a3 (RA.rec (motive := fun _ => AV → RA) (fun b0 b1 b2 b3 b4 b5 b6 b7 b8 b9 b10 b11 b12 _ b14 b15 v => RA.mk b0 b1 b2 b3 b4 b5 b6 b7 b8 b9 b10 b11 b12 v b14 b15) a4 v) a5 a6 a7 a8 a9 a10 a11 a12 a13 a14 a15) t v
  | 14 => .mk fun t v => RB.rec (motive := fun _ => AV → RB) (fun a0 a1 a2 a3 a4 a5 a6 a7 a8 a9 a10 a11 a12 a13 a14 a15 v => RB.mk a0 a1 a2 a3 (RA.rec (motive := fun _ => AV → RA) (fun b0 b1 b2 b3 b4 b5 b6 b7 b8 b9 b10 b11 b12 b13 _ b15 v => RA.mk b0 b1 b2 b3 b4 b5 b6 b7 b8 b9 b10 b11 b12 b13 v b15) a4 v) a5 a6 a7 a8 a9 a10 a11 a12 a13 a14 a15) t v
  | _ => .mk fun t v => RB.rec (motive := fun _ => AV → RB) (fun a0 a1 a2 a3 a4 a5 a6 a7 a8 a9 a10 a11 a12 a13 a14 a15 v => RB.mk a0 a1 a2 a3 (RA.rec (motive := fun _ => AV → RA) (fun b0 b1 b2 b3 b4 b5 b6 b7 b8 b9 b10 b11 b12 b13 b14 _ v => RA.mk b0 b1 b2 b3 b4 b5 b6 b7 b8 b9 b10 b11 b12 b13 b14 v) a4 v) a5 a6 a7 a8 a9 a10 a11 a12 a13 a14 a15) t v
def gk5 (j : Nat) : GK :=
  match j with
  | 0 => .mk fun t => RA.rec (motive := fun _ => AV) (fun a0 _ _ _ _ _ _ _ _ _ _ _ _ _ _ _ => a0) (RB.rec (motive := fun _ => RA) (fun _ _ _ _ _ a5 _ _ _ _ _ _ _ _ _ _ => a5) t)
  | 1 => .mk fun t => RA.rec (motive := fun _ => AV) (fun _ a1 _ _ _ _ _ _ _ _ _ _ _ _ _ _ => a1) (RB.rec (motive := fun _ => RA) (fun _ _ _ _ _ a5 _ _ _ _ _ _ _ _ _ _ => a5) t)
  | 2 => .mk fun t => RA.rec (motive := fun _ => AV) (fun _ _ a2 _ _ _ _ _ _ _ _ _ _ _ _ _ => a2) (RB.rec (motive := fun _ => RA) (fun _ _ _ _ _ a5 _ _ _ _ _ _ _ _ _ _ => a5) t)
  | 3 => .mk fun t => RA.rec (motive := fun _ => AV) (fun _ _ _ a3 _ _ _ _ _ _ _ _ _ _ _ _ => a3) (RB.rec (motive := fun _ => RA) (fun _ _ _ _ _ a5 _ _ _ _ _ _ _ _ _ _ => a5) t)
  | 4 => .mk fun t => RA.rec (motive := fun _ => AV) (fun _ _ _ _ a4 _ _ _ _ _ _ _ _ _ _ _ => a4) (RB.rec (motive := fun _ => RA) (fun _ _ _ _ _ a5 _ _ _ _ _ _ _ _ _ _ => a5) t)
  | 5 => .mk fun t => RA.rec (motive := fun _ => AV) (fun _ _ _ _ _ a5 _ _ _ _ _ _ _ _ _ _ => a5) (RB.rec (motive := fun _ => RA) (fun _ _ _ _ _ a5 _ _ _ _ _ _ _ _ _ _ => a5) t)
  | 6 => .mk fun t => RA.rec (motive := fun _ => AV) (fun _ _ _ _ _ _ a6 _ _ _ _ _ _ _ _ _ => a6) (RB.rec (motive := fun _ => RA) (fun _ _ _ _ _ a5 _ _ _ _ _ _ _ _ _ _ => a5) t)
  | 7 => .mk fun t => RA.rec (motive := fun _ => AV) (fun _ _ _ _ _ _ _ a7 _ _ _ _ _ _ _ _ => a7) (RB.rec (motive := fun _ => RA) (fun _ _ _ _ _ a5 _ _ _ _ _ _ _ _ _ _ => a5) t)
  | 8 => .mk fun t => RA.rec (motive := fun _ => AV) (fun _ _ _ _ _ _ _ _ a8 _ _ _ _ _ _ _ => a8) (RB.rec (motive := fun _ => RA) (fun _ _ _ _ _ a5 _ _ _ _ _ _ _ _ _ _ => a5) t)
  | 9 => .mk fun t => RA.rec (motive := fun _ => AV) (fun _ _ _ _ _ _ _ _ _ a9 _ _ _ _ _ _ => a9) (RB.rec (motive := fun _ => RA) (fun _ _ _ _ _ a5 _ _ _ _ _ _ _ _ _ _ => a5) t)
  | 10 => .mk fun t => RA.rec (motive := fun _ => AV) (fun _ _ _ _ _ _ _ _ _ _ a10 _ _ _ _ _ => a10) (RB.rec (motive := fun _ => RA) (fun _ _ _ _ _ a5 _ _ _ _ _ _ _ _ _ _ => a5) t)
  | 11 => .mk fun t => RA.rec (motive := fun _ => AV) (fun _ _ _ _ _ _ _ _ _ _ _ a11 _ _ _ _ => a11) (RB.rec (motive := fun _ => RA) (fun _ _ _ _ _ a5 _ _ _ _ _ _ _ _ _ _ => a5) t)
  | 12 => .mk fun t => RA.rec (motive := fun _ => AV) (fun _ _ _ _ _ _ _ _ _ _ _ _ a12 _ _ _ => a12) (RB.rec (motive := fun _ => RA) (fun _ _ _ _ _ a5 _ _ _ _ _ _ _ _ _ _ => a5) t)
  | 13 => .mk fun t => RA.rec (motive := fun _ => AV) (fun _ _ _ _ _ _ _ _ _ _ _ _ _ a13 _ _ => a13) (RB.rec (motive := fun _ => RA) (fun _ _ _ _ _ a5 _ _ _ _ _ _ _ _ _ _ => a5) t)
  | 14 => .mk fun t => RA.rec (motive := fun _ => AV) (fun _ _ _ _ _ _ _ _ _ _ _ _ _ _ a14 _ => a14) (RB.rec (motive := fun _ => RA) (fun _ _ _ _ _ a5 _ _ _ _ _ _ _ _ _ _ => a5) t)
  | _ => .mk fun t => RA.rec (motive := fun _ => AV) (fun _ _ _ _ _ _ _ _ _ _ _ _ _ _ _ a15 => a15) (RB.rec (motive := fun _ => RA) (fun _ _ _ _ _ a5 _ _ _ _ _ _ _ _ _ _ => a5) t)
def sk5 (j : Nat) : SK :=
  match j with
  | 0 => .mk fun t v => RB.rec (motive := fun _ => AV → RB) (fun a0 a1 a2 a3 a4 a5 a6 a7 a8 a9 a10 a11 a12 a13 a14 a15 v => RB.mk a0 a1 a2 a3 a4 (RA.rec (motive := fun _ => AV → RA) (fun _ b1 b2 b3 b4 b5 b6 b7 b8 b9 b10 b11 b12 b13 b14 b15 v => RA.mk v b1 b2 b3 b4 b5 b6 b7 b8 b9 b10 b11 b12 b13 b14 b15) a5 v) a6 a7 a8 a9 a10 a11 a12 a13 a14 a15) t v
  | 1 => .mk fun t v => RB.rec (motive := fun _ => AV → RB) (fun a0 a1 a2 a3 a4 a5 a6 a7 a8 a9 a10 a11 a12 a13 a14 a15 v => RB.mk a0 a1 a2 a3 a4 (RA.rec (motive := fun _ => AV → RA) (fun b0 _ b2 b3 b4 b5 b6 b7 b8 b9 b10 b11 b12 b13 b14 b15 v => RA.mk b0 v b2 b3 b4 b5 b6 b7 b8 b9 b10 b11 b12 b13 b14 b15) a5 v) a6 a7 a8 a9 a10 a11 a12 a13 a14 a15) t v
  | 2 => .mk fun t v => RB.rec (motive := fun _ => AV → RB) (fun a0 a1 a2 a3 a4 a5 a6 a7 a8 a9 a10 a11 a12 a13 a14 a15 v => RB.mk a0 a1 a2 a3 a4 (RA.rec (motive := fun _ => AV → RA) (fun b0 b1 _ b3 b4 b5 b6 b7 b8 b9 b10 b11 b12 b13 b14 b15 v => RA.mk b0 b1 v b3 b4 b5 b6 b7 b8 b9 b10 b11 b12 b13 b14 b15) a5 v) a6 a7 a8 a9 a10 a11 a12 a13 a14 a15) t v
  | 3 => .mk fun t v => RB.rec (motive := fun _ => AV → RB) (fun a0 a1 a2 a3 a4 a5 a6 a7 a8 a9 a10 a11 a12 a13 a14 a15 v => RB.mk a0 a1 a2 a3 a4 (RA.rec (motive := fun _ => AV → RA) (fun b0 b1 b2 _ b4 b5 b6 b7 b8 b9 b10 b11 b12 b13 b14 b15 v => RA.mk b0 b1 b2 v b4 b5 b6 b7 b8 b9 b10 b11 b12 b13 b14 b15) a5 v) a6 a7 a8 a9 a10 a11 a12 a13 a14 a15) t v
  | 4 => .mk fun t v => RB.rec (motive := fun _ => AV → RB) (fun a0 a1 a2 a3 a4 a5 a6 a7 a8 a9 a10 a11 a12 a13 a14 a15 v => RB.mk a0 a1 a2 a3 a4 (RA.rec (motive := fun _ => AV → RA) (fun b0 b1 b2 b3 _ b5 b6 b7 b8 b9 b10 b11 b12 b13 b14 b15 v => RA.mk b0 b1 b2 b3 v b5 b6 b7 b8 b9 b10 b11 b12 b13 b14 b15) a5 v) a6 a7 a8 a9 a10 a11 a12 a13 a14 a15) t v
  | 5 => .mk fun t v => RB.rec (motive := fun _ => AV → RB) (fun a0 a1 a2 a3 a4 a5 a6 a7 a8 a9 a10 a11 a12 a13 a14 a15 v => RB.mk a0 a1 a2 a3 a4 (RA.rec (motive := fun _ => AV → RA) (fun b0 b1 b2 b3 b4 _ b6 b7 b8 b9 b10 b11 b12 b13 b14 b15 v => RA.mk b0 b1 b2 b3 b4 v b6 b7 b8 b9 b10 b11 b12 b13 b14 b15) a5 v) a6 a7 a8 a9 a10 a11 a12 a13 a14 a15) t v
  | 6 => .mk fun t v => RB.rec (motive := fun _ => AV → RB) (fun a0 a1 a2 a3 a4 a5 a6 a7 a8 a9 a10 a11 a12 a13 a14 a15 v => RB.mk a0 a1 a2 a3 a4 (RA.rec (motive := fun _ => AV → RA) (fun b0 b1 b2 b3 b4 b5 _ b7 b8 b9 b10 b11 b12 b13 b14 b15 v => RA.mk b0 b1 b2 b3 b4 b5 v b7 b8 b9 b10 b11 b12 b13 b14 b15) a5 v) a6 a7 a8 a9 a10 a11 a12 a13 a14 a15) t v
  | 7 => .mk fun t v => RB.rec (motive := fun _ => AV → RB) (fun a0 a1 a2 a3 a4 a5 a6 a7 a8 a9 a10 a11 a12 a13 a14 a15 v => RB.mk a0 a1 a2 a3 a4 (RA.rec (motive := fun _ => AV → RA) (fun b0 b1 b2 b3 b4 b5 b6 _ b8 b9 b10 b11 b12 b13 b14 b15 v => RA.mk b0 b1 b2 b3 b4 b5 b6 v b8 b9 b10 b11 b12 b13 b14 b15) a5 v) a6 a7 a8 a9 a10 a11 a12 a13 a14 a15) t v
  | 8 => .mk fun t v => RB.rec (motive := fun _ => AV → RB) (fun a0 a1 a2 a3 a4 a5 a6 a7 a8 a9 a10 a11 a12 a13 a14 a15 v => RB.mk a0 a1 a2 a3 a4 (RA.rec (motive := fun _ => AV → RA) (fun b0 b1 b2 b3 b4 b5 b6 b7 _ b9 b10 b11 b12 b13 b14 b15 v => RA.mk b0 b1 b2 b3 b4 b5 b6 b7 v b9 b10 b11 b12 b13 b14 b15) a5 v) a6 a7 a8 a9 a10 a11 a12 a13 a14 a15) t v
  | 9 => .mk fun t v => RB.rec (motive := fun _ => AV → RB) (fun a0 a1 a2 a3 a4 a5 a6 a7 a8 a9 a10 a11 a12 a13 a14 a15 v => RB.mk a0 a1 a2 a3 a4 (RA.rec (motive := fun _ => AV → RA) (fun b0 b1 b2 b3 b4 b5 b6 b7 b8 _ b10 b11 b12 b13 b14 b15 v => RA.mk b0 b1 b2 b3 b4 b5 b6 b7 b8 v b10 b11 b12 b13 b14 b15) a5 v) a6 a7 a8 a9 a10 a11 a12 a13 a14 a15) t v
  | 10 => .mk fun t v => RB.rec (motive := fun _ => AV → RB) (fun a0 a1 a2 a3 a4 a5 a6 a7 a8 a9 a10 a11 a12 a13 a14 a15 v => RB.mk a0 a1 a2 a3 a4 (RA.rec (motive := fun _ => AV → RA) (fun b0 b1 b2 b3 b4 b5 b6 b7 b8 b9 _ b11 b12 b13 b14 b15 v => RA.mk b0 b1 b2 b3 b4 b5 b6 b7 b8 b9 v b11 b12 b13 b14 b15) a5 v) a6 a7 a8 a9 a10 a11 a12 a13 a14 a15) t v
  | 11 => .mk fun t v => RB.rec (motive := fun _ => AV → RB) (fun a0 a1 a2 a3 a4 a5 a6 a7 a8 a9 a10 a11 a12 a13 a14 a15 v => RB.mk a0 a1 a2 a3 a4 (RA.rec (motive := fun _ => AV → RA) (fun b0 b1 b2 b3 b4 b5 b6 b7 b8 b9 b10 _ b12 b13 b14 b15 v => RA.mk b0 b1 b2 b3 b4 b5 b6 b7 b8 b9 b10 v b12 b13 b14 b15) a5 v) a6 a7 a8 a9 a10 a11 a12 a13 a14 a15) t v
  | 12 => .mk fun t v => RB.rec (motive := fun _ => AV → RB) (fun a0 a1 a2 a3 a4 a5 a6 a7 a8 a9 a10 a11 a12 a13 a14 a15 v => RB.mk a0 a1 a2 a3 a4 (RA.rec (motive := fun _ => AV → RA) (fun b0 b1 b2 b3 b4 b5 b6 b7 b8 b9 b10 b11 _ b13 b14 b15 v => RA.mk b0 b1 b2 b3 b4 b5 b6 b7 b8 b9 b10 b11 v b13 b14 b15) a5 v) a6 a7 a8 a9 a10 a11 a12 a13 a14 a15) t v
  | 13 => .mk fun t v => RB.rec (motive := fun _ => AV → RB) (fun a0 a1 a2 a3 a4 a5 a6 a7 a8 a9 a10 a11 a12 a13 a14 a15 v => RB.mk a0 a1 a2 a3 a4 (RA.rec (motive := fun _ => AV → RA) (fun b0 b1 b2 b3 b4 b5 b6 b7 b8 b9 b10 b11 b12 _ b14 b15 v => RA.mk b0 b1 b2 b3 b4 b5 b6 b7 b8 b9 b10 b11 b12 v b14 b15) a5 v) a6 a7 a8 a9 a10 a11 a12 a13 a14 a15) t v
  | 14 => .mk fun t v => RB.rec (motive := fun _ => AV → RB) (fun a0 a1 a2 a3 a4 a5 a6 a7 a8 a9 a10 a11 a12 a13 a14 a15 v => RB.mk a0 a1 a2 a3 a4 (RA.rec (motive := fun _ => AV → RA) (fun b0 b1 b2 b3 b4 b5 b6 b7 b8 b9 b10 b11 b12 b13 _ b15 v => RA.mk b0 b1 b2 b3 b4 b5 b6 b7 b8 b9 b10 b11 b12 b13 v b15) a5 v) a6 a7 a8 a9 a10 a11 a12 a13 a14 a15) t v
  | _ => .mk fun t v => RB.rec (motive := fun _ => AV → RB) (fun a0 a1 a2 a3 a4 a5 a6 a7 a8 a9 a10 a11 a12 a13 a14 a15 v => RB.mk a0 a1 a2 a3 a4 (RA.rec (motive := fun _ => AV → RA) (fun b0 b1 b2 b3 b4 b5 b6 b7 b8 b9 b10 b11 b12 b13 b14 _ v => RA.mk b0 b1 b2 b3 b4 b5 b6 b7 b8 b9 b10 b11 b12 b13 b14 v) a5 v) a6 a7 a8 a9 a10 a11 a12 a13 a14 a15) t v
def gk6 (j : Nat) : GK :=
  match j with
  | 0 => .mk fun t => RA.rec (motive := fun _ => AV) (fun a0 _ _ _ _ _ _ _ _ _ _ _ _ _ _ _ => a0) (RB.rec (motive := fun _ => RA) (fun _ _ _ _ _ _ a6 _ _ _ _ _ _ _ _ _ => a6) t)
  | 1 => .mk fun t => RA.rec (motive := fun _ => AV) (fun _ a1 _ _ _ _ _ _ _ _ _ _ _ _ _ _ => a1) (RB.rec (motive := fun _ => RA) (fun _ _ _ _ _ _ a6 _ _ _ _ _ _ _ _ _ => a6) t)
  | 2 => .mk fun t => RA.rec (motive := fun _ => AV) (fun _ _ a2 _ _ _ _ _ _ _ _ _ _ _ _ _ => a2) (RB.rec (motive := fun _ => RA) (fun _ _ _ _ _ _ a6 _ _ _ _ _ _ _ _ _ => a6) t)
  | 3 => .mk fun t => RA.rec (motive := fun _ => AV) (fun _ _ _ a3 _ _ _ _ _ _ _ _ _ _ _ _ => a3) (RB.rec (motive := fun _ => RA) (fun _ _ _ _ _ _ a6 _ _ _ _ _ _ _ _ _ => a6) t)
  | 4 => .mk fun t => RA.rec (motive := fun _ => AV) (fun _ _ _ _ a4 _ _ _ _ _ _ _ _ _ _ _ => a4) (RB.rec (motive := fun _ => RA) (fun _ _ _ _ _ _ a6 _ _ _ _ _ _ _ _ _ => a6) t)
  | 5 => .mk fun t => RA.rec (motive := fun _ => AV) (fun _ _ _ _ _ a5 _ _ _ _ _ _ _ _ _ _ => a5) (RB.rec (motive := fun _ => RA) (fun _ _ _ _ _ _ a6 _ _ _ _ _ _ _ _ _ => a6) t)
  | 6 => .mk fun t => RA.rec (motive := fun _ => AV) (fun _ _ _ _ _ _ a6 _ _ _ _ _ _ _ _ _ => a6) (RB.rec (motive := fun _ => RA) (fun _ _ _ _ _ _ a6 _ _ _ _ _ _ _ _ _ => a6) t)
  | 7 => .mk fun t => RA.rec (motive := fun _ => AV) (fun _ _ _ _ _ _ _ a7 _ _ _ _ _ _ _ _ => a7) (RB.rec (motive := fun _ => RA) (fun _ _ _ _ _ _ a6 _ _ _ _ _ _ _ _ _ => a6) t)
  | 8 => .mk fun t => RA.rec (motive := fun _ => AV) (fun _ _ _ _ _ _ _ _ a8 _ _ _ _ _ _ _ => a8) (RB.rec (motive := fun _ => RA) (fun _ _ _ _ _ _ a6 _ _ _ _ _ _ _ _ _ => a6) t)
  | 9 => .mk fun t => RA.rec (motive := fun _ => AV) (fun _ _ _ _ _ _ _ _ _ a9 _ _ _ _ _ _ => a9) (RB.rec (motive := fun _ => RA) (fun _ _ _ _ _ _ a6 _ _ _ _ _ _ _ _ _ => a6) t)
  | 10 => .mk fun t => RA.rec (motive := fun _ => AV) (fun _ _ _ _ _ _ _ _ _ _ a10 _ _ _ _ _ => a10) (RB.rec (motive := fun _ => RA) (fun _ _ _ _ _ _ a6 _ _ _ _ _ _ _ _ _ => a6) t)
  | 11 => .mk fun t => RA.rec (motive := fun _ => AV) (fun _ _ _ _ _ _ _ _ _ _ _ a11 _ _ _ _ => a11) (RB.rec (motive := fun _ => RA) (fun _ _ _ _ _ _ a6 _ _ _ _ _ _ _ _ _ => a6) t)
  | 12 => .mk fun t => RA.rec (motive := fun _ => AV) (fun _ _ _ _ _ _ _ _ _ _ _ _ a12 _ _ _ => a12) (RB.rec (motive := fun _ => RA) (fun _ _ _ _ _ _ a6 _ _ _ _ _ _ _ _ _ => a6) t)
  | 13 => .mk fun t => RA.rec (motive := fun _ => AV) (fun _ _ _ _ _ _ _ _ _ _ _ _ _ a13 _ _ => a13) (RB.rec (motive := fun _ => RA) (fun _ _ _ _ _ _ a6 _ _ _ _ _ _ _ _ _ => a6) t)
  | 14 => .mk fun t => RA.rec (motive := fun _ => AV) (fun _ _ _ _ _ _ _ _ _ _ _ _ _ _ a14 _ => a14) (RB.rec (motive := fun _ => RA) (fun _ _ _ _ _ _ a6 _ _ _ _ _ _ _ _ _ => a6) t)
  | _ => .mk fun t => RA.rec (motive := fun _ => AV) (fun _ _ _ _ _ _ _ _ _ _ _ _ _ _ _ a15 => a15) (RB.rec (motive := fun _ => RA) (fun _ _ _ _ _ _ a6 _ _ _ _ _ _ _ _ _ => a6) t)
def sk6 (j : Nat) : SK :=
  match j with
  | 0 => .mk fun t v => RB.rec (motive := fun _ => AV → RB) (fun a0 a1 a2 a3 a4 a5 a6 a7 a8 a9 a10 a11 a12 a13 a14 a15 v => RB.mk a0 a1 a2 a3 a4 a5 (RA.rec (motive := fun _ => AV → RA) (fun _ b1 b2 b3 b4 b5 b6 b7 b8 b9 b10 b11 b12 b13 b14 b15 v => RA.mk v b1 b2 b3 b4 b5 b6 b7 b8 b9 b10 b11 b12 b13 b14 b15) a6 v) a7 a8 a9 a10 a11 a12 a13 a14 a15) t v
  | 1 => .mk fun t v => RB.rec (motive := fun _ => AV → RB) (fun a0 a1 a2 a3 a4 a5 a6 a7 a8 a9 a10 a11 a12 a13 a14 a15 v => RB.mk a0 a1 a2 a3 a4 a5 (RA.rec (motive := fun _ => AV → RA) (fun b0 _ b2 b3 b4 b5 b6 b7 b8 b9 b10 b11 b12 b13 b14 b15 v => RA.mk b0 v b2 b3 b4 b5 b6 b7 b8 b9 b10 b11 b12 b13 b14 b15) a6 v) a7 a8 a9 a10 a11 a12 a13 a14 a15) t v
  | 2 => .mk fun t v => RB.rec (motive := fun _ => AV → RB) (fun a0 a1 a2 a3 a4 a5 a6 a7 a8 a9 a10 a11 a12 a13 a14 a15 v => RB.mk a0 a1 a2 a3 a4 a5 (RA.rec (motive := fun _ => AV → RA) (fun b0 b1 _ b3 b4 b5 b6 b7 b8 b9 b10 b11 b12 b13 b14 b15 v => RA.mk b0 b1 v b3 b4 b5 b6 b7 b8 b9 b10 b11 b12 b13 b14 b15) a6 v) a7 a8 a9 a10 a11 a12 a13 a14 a15) t v
  | 3 => .mk fun t v => RB.rec (motive := fun _ => AV → RB) (fun a0 a1 a2 a3 a4 a5 a6 a7 a8 a9 a10 a11 a12 a13 a14 a15 v => RB.mk a0 a1 a2 a3 a4 a5 (RA.rec (motive := fun _ => AV → RA) (fun b0 b1 b2 _ b4 b5 b6 b7 b8 b9 b10 b11 b12 b13 b14 b15 v => RA.mk b0 b1 b2 v b4 b5 b6 b7 b8 b9 b10 b11 b12 b13 b14 b15) a6 v) a7 a8 a9 a10 a11 a12 a13 a14 a15) t v
  | 4 => .mk fun t v => RB.rec (motive := fun _ => AV → RB) (fun a0 a1 a2 a3 a4 a5 a6 a7 a8 a9 a10 a11 a12 a13 a14 a15 v => RB.mk a0 a1 a2 a3 a4 a5 (RA.rec (motive := fun _ => AV → RA) (fun b0 b1 b2 b3 _ b5 b6 b7 b8 b9 b10 b11 b12 b13 b14 b15 v => RA.mk b0 b1 b2 b3 v b5 b6 b7 b8 b9 b10 b11 b12 b13 b14 b15) a6 v) a7 a8 a9 a10 a11 a12 a13 a14 a15) t v
  | 5 => .mk fun t v => RB.rec (motive := fun _ => AV → RB) (fun a0 a1 a2 a3 a4 a5 a6 a7 a8 a9 a10 a11 a12 a13 a14 a15 v => RB.mk a0 a1 a2 a3 a4 a5 (RA.rec (motive := fun _ => AV → RA) (fun b0 b1 b2 b3 b4 _ b6 b7 b8 b9 b10 b11 b12 b13 b14 b15 v => RA.mk b0 b1 b2 b3 b4 v b6 b7 b8 b9 b10 b11 b12 b13 b14 b15) a6 v) a7 a8 a9 a10 a11 a12 a13 a14 a15) t v
  | 6 => .mk fun t v => RB.rec (motive := fun _ => AV → RB) (fun a0 a1 a2 a3 a4 a5 a6 a7 a8 a9 a10 a11 a12 a13 a14 a15 v => RB.mk a0 a1 a2 a3 a4 a5 (RA.rec (motive := fun _ => AV → RA) (fun b0 b1 b2 b3 b4 b5 _ b7 b8 b9 b10 b11 b12 b13 b14 b15 v => RA.mk b0 b1 b2 b3 b4 b5 v b7 b8 b9 b10 b11 b12 b13 b14 b15) a6 v) a7 a8 a9 a10 a11 a12 a13 a14 a15) t v
  | 7 => .mk fun t v => RB.rec (motive := fun _ => AV → RB) (fun a0 a1 a2 a3 a4 a5 a6 a7 a8 a9 a10 a11 a12 a13 a14 a15 v => RB.mk a0 a1 a2 a3 a4 a5 (RA.rec (motive := fun _ => AV → RA) (fun b0 b1 b2 b3 b4 b5 b6 _ b8 b9 b10 b11 b12 b13 b14 b15 v => RA.mk b0 b1 b2 b3 b4 b5 b6 v b8 b9 b10 b11 b12 b13 b14 b15) a6 v) a7 a8 a9 a10 a11 a12 a13 a14 a15) t v
  | 8 => .mk fun t v => RB.rec (motive := fun _ => AV → RB) (fun a0 a1 a2 a3 a4 a5 a6 a7 a8 a9 a10 a11 a12 a13 a14 a15 v => RB.mk a0 a1 a2 a3 a4 a5 (RA.rec (motive := fun _ => AV → RA) (fun b0 b1 b2 b3 b4 b5 b6 b7 _ b9 b10 b11 b12 b13 b14 b15 v => RA.mk b0 b1 b2 b3 b4 b5 b6 b7 v b9 b10 b11 b12 b13 b14 b15) a6 v) a7 a8 a9 a10 a11 a12 a13 a14 a15) t v
  | 9 => .mk fun t v => RB.rec (motive := fun _ => AV → RB) (fun a0 a1 a2 a3 a4 a5 a6 a7 a8 a9 a10 a11 a12 a13 a14 a15 v => RB.mk a0 a1 a2 a3 a4 a5 (RA.rec (motive := fun _ => AV → RA) (fun b0 b1 b2 b3 b4 b5 b6 b7 b8 _ b10 b11 b12 b13 b14 b15 v => RA.mk b0 b1 b2 b3 b4 b5 b6 b7 b8 v b10 b11 b12 b13 b14 b15) a6 v) a7 a8 a9 a10 a11 a12 a13 a14 a15) t v
  | 10 => .mk fun t v => RB.rec (motive := fun _ => AV → RB) (fun a0 a1 a2 a3 a4 a5 a6 a7 a8 a9 a10 a11 a12 a13 a14 a15 v => RB.mk a0 a1 a2 a3 a4 a5 (RA.rec (motive := fun _ => AV → RA) (fun b0 b1 b2 b3 b4 b5 b6 b7 b8 b9 _ b11 b12 b13 b14 b15 v => RA.mk b0 b1 b2 b3 b4 b5 b6 b7 b8 b9 v b11 b12 b13 b14 b15) a6 v) a7 a8 a9 a10 a11 a12 a13 a14 a15) t v
  | 11 => .mk fun t v => RB.rec (motive := fun _ => AV → RB) (fun a0 a1 a2 a3 a4 a5 a6 a7 a8 a9 a10 a11 a12 a13 a14 a15 v => RB.mk a0 a1 a2 a3 a4 a5 (RA.rec (motive := fun _ => AV → RA) (fun b0 b1 b2 b3 b4 b5 b6 b7 b8 b9 b10 _ b12 b13 b14 b15 v => RA.mk b0 b1 b2 b3 b4 b5 b6 b7 b8 b9 b10 v b12 b13 b14 b15) a6 v) a7 a8 a9 a10 a11 a12 a13 a14 a15) t v
  | 12 => .mk fun t v => RB.rec (motive := fun _ => AV → RB) (fun a0 a1 a2 a3 a4 a5 a6 a7 a8 a9 a10 a11 a12 a13 a14 a15 v => RB.mk a0 a1 a2 a3 a4 a5 (RA.rec (motive := fun _ => AV → RA) (fun b0 b1 b2 b3 b4 b5 b6 b7 b8 b9 b10 b11 _ b13 b14 b15 v => RA.mk b0 b1 b2 b3 b4 b5 b6 b7 b8 b9 b10 b11 v b13 b14 b15) a6 v) a7 a8 a9 a10 a11 a12 a13 a14 a15) t v
  | 13 => .mk fun t v => RB.rec (motive := fun _ => AV → RB) (fun a0 a1 a2 a3 a4 a5 a6 a7 a8 a9 a10 a11 a12 a13 a14 a15 v => RB.mk a0 a1 a2 a3 a4 a5 (RA.rec (motive := fun _ => AV → RA) (fun b0 b1 b2 b3 b4 b5 b6 b7 b8 b9 b10 b11 b12 _ b14 b15 v => RA.mk b0 b1 b2 b3 b4 b5 b6 b7 b8 b9 b10 b11 b12 v b14 b15) a6 v) a7 a8 a9 a10 a11 a12 a13 a14 a15) t v
  | 14 => .mk fun t v => RB.rec (motive := fun _ => AV → RB) (fun a0 a1 a2 a3 a4 a5 a6 a7 a8 a9 a10 a11 a12 a13 a14 a15 v => RB.mk a0 a1 a2 a3 a4 a5 (RA.rec (motive := fun _ => AV → RA) (fun b0 b1 b2 b3 b4 b5 b6 b7 b8 b9 b10 b11 b12 b13 _ b15 v => RA.mk b0 b1 b2 b3 b4 b5 b6 b7 b8 b9 b10 b11 b12 b13 v b15) a6 v) a7 a8 a9 a10 a11 a12 a13 a14 a15) t v
  | _ => .mk fun t v => RB.rec (motive := fun _ => AV → RB) (fun a0 a1 a2 a3 a4 a5 a6 a7 a8 a9 a10 a11 a12 a13 a14 a15 v => RB.mk a0 a1 a2 a3 a4 a5 (RA.rec (motive := fun _ => AV → RA) (fun b0 b1 b2 b3 b4 b5 b6 b7 b8 b9 b10 b11 b12 b13 b14 _ v => RA.mk b0 b1 b2 b3 b4 b5 b6 b7 b8 b9 b10 b11 b12 b13 b14 v) a6 v) a7 a8 a9 a10 a11 a12 a13 a14 a15) t v
def gk7 (j : Nat) : GK :=
  match j with
  | 0 => .mk fun t => RA.rec (motive := fun _ => AV) (fun a0 _ _ _ _ _ _ _ _ _ _ _ _ _ _ _ => a0) (RB.rec (motive := fun _ => RA) (fun _ _ _ _ _ _ _ a7 _ _ _ _ _ _ _ _ => a7) t)
  | 1 => .mk fun t => RA.rec (motive := fun _ => AV) (fun _ a1 _ _ _ _ _ _ _ _ _ _ _ _ _ _ => a1) (RB.rec (motive := fun _ => RA) (fun _ _ _ _ _ _ _ a7 _ _ _ _ _ _ _ _ => a7) t)
  | 2 => .mk fun t => RA.rec (motive := fun _ => AV) (fun _ _ a2 _ _ _ _ _ _ _ _ _ _ _ _ _ => a2) (RB.rec (motive := fun _ => RA) (fun _ _ _ _ _ _ _ a7 _ _ _ _ _ _ _ _ => a7) t)
  | 3 => .mk fun t => RA.rec (motive := fun _ => AV) (fun _ _ _ a3 _ _ _ _ _ _ _ _ _ _ _ _ => a3) (RB.rec (motive := fun _ => RA) (fun _ _ _ _ _ _ _ a7 _ _ _ _ _ _ _ _ => a7) t)
  | 4 => .mk fun t => RA.rec (motive := fun _ => AV) (fun _ _ _ _ a4 _ _ _ _ _ _ _ _ _ _ _ => a4) (RB.rec (motive := fun _ => RA) (fun _ _ _ _ _ _ _ a7 _ _ _ _ _ _ _ _ => a7) t)
  | 5 => .mk fun t => RA.rec (motive := fun _ => AV) (fun _ _ _ _ _ a5 _ _ _ _ _ _ _ _ _ _ => a5) (RB.rec (motive := fun _ => RA) (fun _ _ _ _ _ _ _ a7 _ _ _ _ _ _ _ _ => a7) t)
  | 6 => .mk fun t => RA.rec (motive := fun _ => AV) (fun _ _ _ _ _ _ a6 _ _ _ _ _ _ _ _ _ => a6) (RB.rec (motive := fun _ => RA) (fun _ _ _ _ _ _ _ a7 _ _ _ _ _ _ _ _ => a7) t)
  | 7 => .mk fun t => RA.rec (motive := fun _ => AV) (fun _ _ _ _ _ _ _ a7 _ _ _ _ _ _ _ _ => a7) (RB.rec (motive := fun _ => RA) (fun _ _ _ _ _ _ _ a7 _ _ _ _ _ _ _ _ => a7) t)
  | 8 => .mk fun t => RA.rec (motive := fun _ => AV) (fun _ _ _ _ _ _ _ _ a8 _ _ _ _ _ _ _ => a8) (RB.rec (motive := fun _ => RA) (fun _ _ _ _ _ _ _ a7 _ _ _ _ _ _ _ _ => a7) t)
  | 9 => .mk fun t => RA.rec (motive := fun _ => AV) (fun _ _ _ _ _ _ _ _ _ a9 _ _ _ _ _ _ => a9) (RB.rec (motive := fun _ => RA) (fun _ _ _ _ _ _ _ a7 _ _ _ _ _ _ _ _ => a7) t)
  | 10 => .mk fun t => RA.rec (motive := fun _ => AV) (fun _ _ _ _ _ _ _ _ _ _ a10 _ _ _ _ _ => a10) (RB.rec (motive := fun _ => RA) (fun _ _ _ _ _ _ _ a7 _ _ _ _ _ _ _ _ => a7) t)
  | 11 => .mk fun t => RA.rec (motive := fun _ => AV) (fun _ _ _ _ _ _ _ _ _ _ _ a11 _ _ _ _ => a11) (RB.rec (motive := fun _ => RA) (fun _ _ _ _ _ _ _ a7 _ _ _ _ _ _ _ _ => a7) t)
  | 12 => .mk fun t => RA.rec (motive := fun _ => AV) (fun _ _ _ _ _ _ _ _ _ _ _ _ a12 _ _ _ => a12) (RB.rec (motive := fun _ => RA) (fun _ _ _ _ _ _ _ a7 _ _ _ _ _ _ _ _ => a7) t)
  | 13 => .mk fun t => RA.rec (motive := fun _ => AV) (fun _ _ _ _ _ _ _ _ _ _ _ _ _ a13 _ _ => a13) (RB.rec (motive := fun _ => RA) (fun _ _ _ _ _ _ _ a7 _ _ _ _ _ _ _ _ => a7) t)
  | 14 => .mk fun t => RA.rec (motive := fun _ => AV) (fun _ _ _ _ _ _ _ _ _ _ _ _ _ _ a14 _ => a14) (RB.rec (motive := fun _ => RA) (fun _ _ _ _ _ _ _ a7 _ _ _ _ _ _ _ _ => a7) t)
  | _ => .mk fun t => RA.rec (motive := fun _ => AV) (fun _ _ _ _ _ _ _ _ _ _ _ _ _ _ _ a15 => a15) (RB.rec (motive := fun _ => RA) (fun _ _ _ _ _ _ _ a7 _ _ _ _ _ _ _ _ => a7) t)
def sk7 (j : Nat) : SK :=
  match j with
  | 0 => .mk fun t v => RB.rec (motive := fun _ => AV → RB) (fun a0 a1 a2 a3 a4 a5 a6 a7 a8 a9 a10 a11 a12 a13 a14 a15 v => RB.mk a0 a1 a2 a3 a4 a5 a6 (RA.rec (motive := fun _ => AV → RA) (fun _ b1 b2 b3 b4 b5 b6 b7 b8 b9 b10 b11 b12 b13 b14 b15 v => RA.mk v b1 b2 b3 b4 b5 b6 b7 b8 b9 b10 b11 b12 b13 b14 b15) a7 v) a8 a9 a10 a11 a12 a13 a14 a15) t v
  | 1 => .mk fun t v => RB.rec (motive := fun _ => AV → RB) (fun a0 a1 a2 a3 a4 a5 a6 a7 a8 a9 a10 a11 a12 a13 a14 a15 v => RB.mk a0 a1 a2 a3 a4 a5 a6 (RA.rec (motive := fun _ => AV → RA) (fun b0 _ b2 b3 b4 b5 b6 b7 b8 b9 b10 b11 b12 b13 b14 b15 v => RA.mk b0 v b2 b3 b4 b5 b6 b7 b8 b9 b10 b11 b12 b13 b14 b15) a7 v) a8 a9 a10 a11 a12 a13 a14 a15) t v
  | 2 => .mk fun t v => RB.rec (motive := fun _ => AV → RB) (fun a0 a1 a2 a3 a4 a5 a6 a7 a8 a9 a10 a11 a12 a13 a14 a15 v => RB.mk a0 a1 a2 a3 a4 a5 a6 (RA.rec (motive := fun _ => AV → RA) (fun b0 b1 _ b3 b4 b5 b6 b7 b8 b9 b10 b11 b12 b13 b14 b15 v => RA.mk b0 b1 v b3 b4 b5 b6 b7 b8 b9 b10 b11 b12 b13 b14 b15) a7 v) a8 a9 a10 a11 a12 a13 a14 a15) t v
  | 3 => .mk fun t v => RB.rec (motive := fun _ => AV → RB) (fun a0 a1 a2 a3 a4 a5 a6 a7 a8 a9 a10 a11 a12 a13 a14 a15 v => RB.mk a0 a1 a2 a3 a4 a5 a6 (RA.rec (motive := fun _ => AV → RA) (fun b0 b1 b2 _ b4 b5 b6 b7 b8 b9 b10 b11 b12 b13 b14 b15 v => RA.mk b0 b1 b2 v b4 b5 b6 b7 b8 b9 b10 b11 b12 b13 b14 b15) a7 v) a8 a9 a10 a11 a12 a13 a14 a15) t v
  | 4 => .mk fun t v => RB.rec (motive := fun _ => AV → RB) (fun a0 a1 a2 a3 a4 a5 a6 a7 a8 a9 a10 a11 a12 a13 a14 a15 v => RB.mk a0 a1 a2 a3 a4 a5 a6 (RA.rec (motive := fun _ => AV → RA) (fun b0 b1 b2 b3 _ b5 b6 b7 b8 b9 b10 b11 b12 b13 b14 b15 v => RA.mk b0 b1 b2 b3 v b5 b6 b7 b8 b9 b10 b11 b12 b13 b14 b15) a7 v) a8 a9 a10 a11 a12 a13 a14 a15) t v
  | 5 => .mk fun t v => RB.rec (motive := fun _ => AV → RB) (fun a0 a1 a2 a3 a4 a5 a6 a7 a8 a9 a10 a11 a12 a13 a14 a15 v => RB.mk a0 a1 a2 a3 a4 a5 a6 (RA.rec (motive := fun _ => AV → RA) (fun b0 b1 b2 b3 b4 _ b6 b7 b8 b9 b10 b11 b12 b13 b14 b15 v => RA.mk b0 b1 b2 b3 b4 v b6 b7 b8 b9 b10 b11 b12 b13 b14 b15) a7 v) a8 a9 a10 a11 a12 a13 a14 a15) t v
  | 6 => .mk fun t v => RB.rec (motive := fun _ => AV → RB) (fun a0 a1 a2 a3 a4 a5 a6 a7 a8 a9 a10 a11 a12 a13 a14 a15 v => RB.mk a0 a1 a2 a3 a4 a5 a6 (RA.rec (motive := fun _ => AV → RA) (fun b0 b1 b2 b3 b4 b5 _ b7 b8 b9 b10 b11 b12 b13 b14 b15 v => RA.mk b0 b1 b2 b3 b4 b5 v b7 b8 b9 b10 b11 b12 b13 b14 b15) a7 v) a8 a9 a10 a11 a12 a13 a14 a15) t v
  | 7 => .mk fun t v => RB.rec (motive := fun _ => AV → RB) (fun a0 a1 a2 a3 a4 a5 a6 a7 a8 a9 a10 a11 a12 a13 a14 a15 v => RB.mk a0 a1 a2 a3 a4 a5 a6 (RA.rec (motive := fun _ => AV → RA) (fun b0 b1 b2 b3 b4 b5 b6 _ b8 b9 b10 b11 b12 b13 b14 b15 v => RA.mk b0 b1 b2 b3 b4 b5 b6 v b8 b9 b10 b11 b12 b13 b14 b15) a7 v) a8 a9 a10 a11 a12 a13 a14 a15) t v
  | 8 => .mk fun t v => RB.rec (motive := fun _ => AV → RB) (fun a0 a1 a2 a3 a4 a5 a6 a7 a8 a9 a10 a11 a12 a13 a14 a15 v => RB.mk a0 a1 a2 a3 a4 a5 a6 (RA.rec (motive := fun _ => AV → RA) (fun b0 b1 b2 b3 b4 b5 b6 b7 _ b9 b10 b11 b12 b13 b14 b15 v => RA.mk b0 b1 b2 b3 b4 b5 b6 b7 v b9 b10 b11 b12 b13 b14 b15) a7 v) a8 a9 a10 a11 a12 a13 a14 a15) t v
  | 9 => .mk fun t v => RB.rec (motive := fun _ => AV → RB) (fun a0 a1 a2 a3 a4 a5 a6 a7 a8 a9 a10 a11 a12 a13 a14 a15 v => RB.mk a0 a1 a2 a3 a4 a5 a6 (RA.rec (motive := fun _ => AV → RA) (fun b0 b1 b2 b3 b4 b5 b6 b7 b8 _ b10 b11 b12 b13 b14 b15 v => RA.mk b0 b1 b2 b3 b4 b5 b6 b7 b8 v b10 b11 b12 b13 b14 b15) a7 v) a8 a9 a10 a11 a12 a13 a14 a15) t v
  | 10 => .mk fun t v => RB.rec (motive := fun _ => AV → RB) (fun a0 a1 a2 a3 a4 a5 a6 a7 a8 a9 a10 a11 a12 a13 a14 a15 v => RB.mk a0 a1 a2 a3 a4 a5 a6 (RA.rec (motive := fun _ => AV → RA) (fun b0 b1 b2 b3 b4 b5 b6 b7 b8 b9 _ b11 b12 b13 b14 b15 v => RA.mk b0 b1 b2 b3 b4 b5 b6 b7 b8 b9 v b11 b12 b13 b14 b15) a7 v) a8 a9 a10 a11 a12 a13 a14 a15) t v
  | 11 => .mk fun t v => RB.rec (motive := fun _ => AV → RB) (fun a0 a1 a2 a3 a4 a5 a6 a7 a8 a9 a10 a11 a12 a13 a14 a15 v => RB.mk a0 a1 a2 a3 a4 a5 a6 (RA.rec (motive := fun _ => AV → RA) (fun b0 b1 b2 b3 b4 b5 b6 b7 b8 b9 b10 _ b12 b13 b14 b15 v => RA.mk b0 b1 b2 b3 b4 b5 b6 b7 b8 b9 b10 v b12 b13 b14 b15) a7 v) a8 a9 a10 a11 a12 a13 a14 a15) t v
  | 12 => .mk fun t v => RB.rec (motive := fun _ => AV → RB) (fun a0 a1 a2 a3 a4 a5 a6 a7 a8 a9 a10 a11 a12 a13 a14 a15 v => RB.mk a0 a1 a2 a3 a4 a5 a6 (RA.rec (motive := fun _ => AV → RA) (fun b0 b1 b2 b3 b4 b5 b6 b7 b8 b9 b10 b11 _ b13 b14 b15 v => RA.mk b0 b1 b2 b3 b4 b5 b6 b7 b8 b9 b10 b11 v b13 b14 b15) a7 v) a8 a9 a10 a11 a12 a13 a14 a15) t v
  | 13 => .mk fun t v => RB.rec (motive := fun _ => AV → RB) (fun a0 a1 a2 a3 a4 a5 a6 a7 a8 a9 a10 a11 a12 a13 a14 a15 v => RB.mk a0 a1 a2 a3 a4 a5 a6 (RA.rec (motive := fun _ => AV → RA) (fun b0 b1 b2 b3 b4 b5 b6 b7 b8 b9 b10 b11 b12 _ b14 b15 v => RA.mk b0 b1 b2 b3 b4 b5 b6 b7 b8 b9 b10 b11 b12 v b14 b15) a7 v) a8 a9 a10 a11 a12 a13 a14 a15) t v
  | 14 => .mk fun t v => RB.rec (motive := fun _ => AV → RB) (fun a0 a1 a2 a3 a4 a5 a6 a7 a8 a9 a10 a11 a12 a13 a14 a15 v => RB.mk a0 a1 a2 a3 a4 a5 a6 (RA.rec (motive := fun _ => AV → RA) (fun b0 b1 b2 b3 b4 b5 b6 b7 b8 b9 b10 b11 b12 b13 _ b15 v => RA.mk b0 b1 b2 b3 b4 b5 b6 b7 b8 b9 b10 b11 b12 b13 v b15) a7 v) a8 a9 a10 a11 a12 a13 a14 a15) t v
  | _ => .mk fun t v => RB.rec (motive := fun _ => AV → RB) (fun a0 a1 a2 a3 a4 a5 a6 a7 a8 a9 a10 a11 a12 a13 a14 a15 v => RB.mk a0 a1 a2 a3 a4 a5 a6 (RA.rec (motive := fun _ => AV → RA) (fun b0 b1 b2 b3 b4 b5 b6 b7 b8 b9 b10 b11 b12 b13 b14 _ v => RA.mk b0 b1 b2 b3 b4 b5 b6 b7 b8 b9 b10 b11 b12 b13 b14 v) a7 v) a8 a9 a10 a11 a12 a13 a14 a15) t v
def gk8 (j : Nat) : GK :=
  match j with
  | 0 => .mk fun t => RA.rec (motive := fun _ => AV) (fun a0 _ _ _ _ _ _ _ _ _ _ _ _ _ _ _ => a0) (RB.rec (motive := fun _ => RA) (fun _ _ _ _ _ _ _ _ a8 _ _ _ _ _ _ _ => a8) t)
  | 1 => .mk fun t => RA.rec (motive := fun _ => AV) (fun _ a1 _ _ _ _ _ _ _ _ _ _ _ _ _ _ => a1) (RB.rec (motive := fun _ => RA) (fun _ _ _ _ _ _ _ _ a8 _ _ _ _ _ _ _ => a8) t)
  | 2 => .mk fun t => RA.rec (motive := fun _ => AV) (fun _ _ a2 _ _ _ _ _ _ _ _ _ _ _ _ _ => a2) (RB.rec (motive := fun _ => RA) (fun _ _ _ _ _ _ _ _ a8 _ _ _ _ _ _ _ => a8) t)
  | 3 => .mk fun t => RA.rec (motive := fun _ => AV) (fun _ _ _ a3 _ _ _ _ _ _ _ _ _ _ _ _ => a3) (RB.rec (motive := fun _ => RA) (fun _ _ _ _ _ _ _ _ a8 _ _ _ _ _ _ _ => a8) t)
  | 4 => .mk fun t => RA.rec (motive := fun _ => AV) (fun _ _ _ _ a4 _ _ _ _ _ _ _ _ _ _ _ => a4) (RB.rec (motive := fun _ => RA) (fun _ _ _ _ _ _ _ _ a8 _ _ _ _ _ _ _ => a8) t)
  | 5 => .mk fun t => RA.rec (motive := fun _ => AV) (fun _ _ _ _ _ a5 _ _ _ _ _ _ _ _ _ _ => a5) (RB.rec (motive := fun _ => RA) (fun _ _ _ _ _ _ _ _ a8 _ _ _ _ _ _ _ => a8) t)
  | 6 => .mk fun t => RA.rec (motive := fun _ => AV) (fun _ _ _ _ _ _ a6 _ _ _ _ _ _ _ _ _ => a6) (RB.rec (motive := fun _ => RA) (fun _ _ _ _ _ _ _ _ a8 _ _ _ _ _ _ _ => a8) t)
  | 7 => .mk fun t => RA.rec (motive := fun _ => AV) (fun _ _ _ _ _ _ _ a7 _ _ _ _ _ _ _ _ => a7) (RB.rec (motive := fun _ => RA) (fun _ _ _ _ _ _ _ _ a8 _ _ _ _ _ _ _ => a8) t)
  | 8 => .mk fun t => RA.rec (motive := fun _ => AV) (fun _ _ _ _ _ _ _ _ a8 _ _ _ _ _ _ _ => a8) (RB.rec (motive := fun _ => RA) (fun _ _ _ _ _ _ _ _ a8 _ _ _ _ _ _ _ => a8) t)
  | 9 => .mk fun t => RA.rec (motive := fun _ => AV) (fun _ _ _ _ _ _ _ _ _ a9 _ _ _ _ _ _ => a9) (RB.rec (motive := fun _ => RA) (fun _ _ _ _ _ _ _ _ a8 _ _ _ _ _ _ _ => a8) t)
  | 10 => .mk fun t => RA.rec (motive := fun _ => AV) (fun _ _ _ _ _ _ _ _ _ _ a10 _ _ _ _ _ => a10) (RB.rec (motive := fun _ => RA) (fun _ _ _ _ _ _ _ _ a8 _ _ _ _ _ _ _ => a8) t)
  | 11 => .mk fun t => RA.rec (motive := fun _ => AV) (fun _ _ _ _ _ _ _ _ _ _ _ a11 _ _ _ _ => a11) (RB.rec (motive := fun _ => RA) (fun _ _ _ _ _ _ _ _ a8 _ _ _ _ _ _ _ => a8) t)
  | 12 => .mk fun t => RA.rec (motive := fun _ => AV) (fun _ _ _ _ _ _ _ _ _ _ _ _ a12 _ _ _ => a12) (RB.rec (motive := fun _ => RA) (fun _ _ _ _ _ _ _ _ a8 _ _ _ _ _ _ _ => a8) t)
  | 13 => .mk fun t => RA.rec (motive := fun _ => AV) (fun _ _ _ _ _ _ _ _ _ _ _ _ _ a13 _ _ => a13) (RB.rec (motive := fun _ => RA) (fun _ _ _ _ _ _ _ _ a8 _ _ _ _ _ _ _ => a8) t)
  | 14 => .mk fun t => RA.rec (motive := fun _ => AV) (fun _ _ _ _ _ _ _ _ _ _ _ _ _ _ a14 _ => a14) (RB.rec (motive := fun _ => RA) (fun _ _ _ _ _ _ _ _ a8 _ _ _ _ _ _ _ => a8) t)
  | _ => .mk fun t => RA.rec (motive := fun _ => AV) (fun _ _ _ _ _ _ _ _ _ _ _ _ _ _ _ a15 => a15) (RB.rec (motive := fun _ => RA) (fun _ _ _ _ _ _ _ _ a8 _ _ _ _ _ _ _ => a8) t)
def sk8 (j : Nat) : SK :=
  match j with
  | 0 => .mk fun t v => RB.rec (motive := fun _ => AV → RB) (fun a0 a1 a2 a3 a4 a5 a6 a7 a8 a9 a10 a11 a12 a13 a14 a15 v => RB.mk a0 a1 a2 a3 a4 a5 a6 a7 (RA.rec (motive := fun _ => AV → RA) (fun _ b1 b2 b3 b4 b5 b6 b7 b8 b9 b10 b11 b12 b13 b14 b15 v => RA.mk v b1 b2 b3 b4 b5 b6 b7 b8 b9 b10 b11 b12 b13 b14 b15) a8 v) a9 a10 a11 a12 a13 a14 a15) t v
  | 1 => .mk fun t v => RB.rec (motive := fun _ => AV → RB) (fun a0 a1 a2 a3 a4 a5 a6 a7 a8 a9 a10 a11 a12 a13 a14 a15 v => RB.mk a0 a1 a2 a3 a4 a5 a6 a7 (RA.rec (motive := fun _ => AV → RA) (fun b0 _ b2 b3 b4 b5 b6 b7 b8 b9 b10 b11 b12 b13 b14 b15 v => RA.mk b0 v b2 b3 b4 b5 b6 b7 b8 b9 b10 b11 b12 b13 b14 b15) a8 v) a9 a10 a11 a12 a13 a14 a15) t v
  | 2 => .mk fun t v => RB.rec (motive := fun _ => AV → RB) (fun a0 a1 a2 a3 a4 a5 a6 a7 a8 a9 a10 a11 a12 a13 a14 a15 v => RB.mk a0 a1 a2 a3 a4 a5 a6 a7 (RA.rec (motive := fun _ => AV → RA) (fun b0 b1 _ b3 b4 b5 b6 b7 b8 b9 b10 b11 b12 b13 b14 b15 v => RA.mk b0 b1 v b3 b4 b5 b6 b7 b8 b9 b10 b11 b12 b13 b14 b15) a8 v) a9 a10 a11 a12 a13 a14 a15) t v
  | 3 => .mk fun t v => RB.rec (motive := fun _ => AV → RB) (fun a0 a1 a2 a3 a4 a5 a6 a7 a8 a9 a10 a11 a12 a13 a14 a15 v => RB.mk a0 a1 a2 a3 a4 a5 a6 a7 (RA.rec (motive := fun _ => AV → RA) (fun b0 b1 b2 _ b4 b5 b6 b7 b8 b9 b10 b11 b12 b13 b14 b15 v => RA.mk b0 b1 b2 v b4 b5 b6 b7 b8 b9 b10 b11 b12 b13 b14 b15) a8 v) a9 a10 a11 a12 a13 a14 a15) t v
  | 4 => .mk fun t v => RB.rec (motive := fun _ => AV → RB) (fun a0 a1 a2 a3 a4 a5 a6 a7 a8 a9 a10 a11 a12 a13 a14 a15 v => RB.mk a0 a1 a2 a3 a4 a5 a6 a7 (RA.rec (motive := fun _ => AV → RA) (fun b0 b1 b2 b3 _ b5 b6 b7 b8 b9 b10 b11 b12 b13 b14 b15 v => RA.mk b0 b1 b2 b3 v b5 b6 b7 b8 b9 b10 b11 b12 b13 b14 b15) a8 v) a9 a10 a11 a12 a13 a14 a15) t v
  | 5 => .mk fun t v => RB.rec (motive := fun _ => AV → RB) (fun a0 a1 a2 a3 a4 a5 a6 a7 a8 a9 a10 a11 a12 a13 a14 a15 v => RB.mk a0 a1 a2 a3 a4 a5 a6 a7 (RA.rec (motive := fun _ => AV → RA) (fun b0 b1 b2 b3 b4 _ b6 b7 b8 b9 b10 b11 b12 b13 b14 b15 v => RA.mk b0 b1 b2 b3 b4 v b6 b7 b8 b9 b10 b11 b12 b13 b14 b15) a8 v) a9 a10 a11 a12 a13 a14 a15) t v
  | 6 => .mk fun t v => RB.rec (motive := fun _ => AV → RB) (fun a0 a1 a2 a3 a4 a5 a6 a7 a8 a9 a10 a11 a12 a13 a14 a15 v => RB.mk a0 a1 a2 a3 a4 a5 a6 a7 (RA.rec (motive := fun _ => AV → RA) (fun b0 b1 b2 b3 b4 b5 _ b7 b8 b9 b10 b11 b12 b13 b14 b15 v => RA.mk b0 b1 b2 b3 b4 b5 v b7 b8 b9 b10 b11 b12 b13 b14 b15) a8 v) a9 a10 a11 a12 a13 a14 a15) t v
  | 7 => .mk fun t v => RB.rec (motive := fun _ => AV → RB) (fun a0 a1 a2 a3 a4 a5 a6 a7 a8 a9 a10 a11 a12 a13 a14 a15 v => RB.mk a0 a1 a2 a3 a4 a5 a6 a7 (RA.rec (motive := fun _ => AV → RA) (fun b0 b1 b2 b3 b4 b5 b6 _ b8 b9 b10 b11 b12 b13 b14 b15 v => RA.mk b0 b1 b2 b3 b4 b5 b6 v b8 b9 b10 b11 b12 b13 b14 b15) a8 v) a9 a10 a11 a12 a13 a14 a15) t v
  | 8 => .mk fun t v => RB.rec (motive := fun _ => AV → RB) (fun a0 a1 a2 a3 a4 a5 a6 a7 a8 a9 a10 a11 a12 a13 a14 a15 v => RB.mk a0 a1 a2 a3 a4 a5 a6 a7 (RA.rec (motive := fun _ => AV → RA) (fun b0 b1 b2 b3 b4 b5 b6 b7 _ b9 b10 b11 b12 b13 b14 b15 v => RA.mk b0 b1 b2 b3 b4 b5 b6 b7 v b9 b10 b11 b12 b13 b14 b15) a8 v) a9 a10 a11 a12 a13 a14 a15) t v
  | 9 => .mk fun t v => RB.rec (motive := fun _ => AV → RB) (fun a0 a1 a2 a3 a4 a5 a6 a7 a8 a9 a10 a11 a12 a13 a14 a15 v => RB.mk a0 a1 a2 a3 a4 a5 a6 a7 (RA.rec (motive := fun _ => AV → RA) (fun b0 b1 b2 b3 b4 b5 b6 b7 b8 _ b10 b11 b12 b13 b14 b15 v => RA.mk b0 b1 b2 b3 b4 b5 b6 b7 b8 v b10 b11 b12 b13 b14 b15) a8 v) a9 a10 a11 a12 a13 a14 a15) t v
  | 10 => .mk fun t v => RB.rec (motive := fun _ => AV → RB) (fun a0 a1 a2 a3 a4 a5 a6 a7 a8 a9 a10 a11 a12 a13 a14 a15 v => RB.mk a0 a1 a2 a3 a4 a5 a6 a7 (RA.rec (motive := fun _ => AV → RA) (fun b0 b1 b2 b3 b4 b5 b6 b7 b8 b9 _ b11 b12 b13 b14 b15 v => RA.mk b0 b1 b2 b3 b4 b5 b6 b7 b8 b9 v b11 b12 b13 b14 b15) a8 v) a9 a10 a11 a12 a13 a14 a15) t v
  | 11 => .mk fun t v => RB.rec (motive := fun _ => AV → RB) (fun a0 a1 a2 a3 a4 a5 a6 a7 a8 a9 a10 a11 a12 a13 a14 a15 v => RB.mk a0 a1 a2 a3 a4 a5 a6 a7 (RA.rec (motive := fun _ => AV → RA) (fun b0 b1 b2 b3 b4 b5 b6 b7 b8 b9 b10 _ b12 b13 b14 b15 v => RA.mk b0 b1 b2 b3 b4 b5 b6 b7 b8 b9 b10 v b12 b13 b14 b15) a8 v) a9 a10 a11 a12 a13 a14 a15) t v
  | 12 => .mk fun t v => RB.rec (motive := fun _ => AV → RB) (fun a0 a1 a2 a3 a4 a5 a6 a7 a8 a9 a10 a11 a12 a13 a14 a15 v => RB.mk a0 a1 a2 a3 a4 a5 a6 a7 (RA.rec (motive := fun _ => AV → RA) (fun b0 b1 b2 b3 b4 b5 b6 b7 b8 b9 b10 b11 _ b13 b14 b15 v => RA.mk b0 b1 b2 b3 b4 b5 b6 b7 b8 b9 b10 b11 v b13 b14 b15) a8 v) a9 a10 a11 a12 a13 a14 a15) t v
  | 13 => .mk fun t v => RB.rec (motive := fun _ => AV → RB) (fun a0 a1 a2 a3 a4 a5 a6 a7 a8 a9 a10 a11 a12 a13 a14 a15 v => RB.mk a0 a1 a2 a3 a4 a5 a6 a7 (RA.rec (motive := fun _ => AV → RA) (fun b0 b1 b2 b3 b4 b5 b6 b7 b8 b9 b10 b11 b12 _ b14 b15 v => RA.mk b0 b1 b2 b3 b4 b5 b6 b7 b8 b9 b10 b11 b12 v b14 b15) a8 v) a9 a10 a11 a12 a13 a14 a15) t v
  | 14 => .mk fun t v => RB.rec (motive := fun _ => AV → RB) (fun a0 a1 a2 a3 a4 a5 a6 a7 a8 a9 a10 a11 a12 a13 a14 a15 v => RB.mk a0 a1 a2 a3 a4 a5 a6 a7 (RA.rec (motive := fun _ => AV → RA) (fun b0 b1 b2 b3 b4 b5 b6 b7 b8 b9 b10 b11 b12 b13 _ b15 v => RA.mk b0 b1 b2 b3 b4 b5 b6 b7 b8 b9 b10 b11 b12 b13 v b15) a8 v) a9 a10 a11 a12 a13 a14 a15) t v
  | _ => .mk fun t v => RB.rec (motive := fun _ => AV → RB) (fun a0 a1 a2 a3 a4 a5 a6 a7 a8 a9 a10 a11 a12 a13 a14 a15 v => RB.mk a0 a1 a2 a3 a4 a5 a6 a7 (RA.rec (motive := fun _ => AV → RA) (fun b0 b1 b2 b3 b4 b5 b6 b7 b8 b9 b10 b11 b12 b13 b14 _ v => RA.mk b0 b1 b2 b3 b4 b5 b6 b7 b8 b9 b10 b11 b12 b13 b14 v) a8 v) a9 a10 a11 a12 a13 a14 a15) t v
def gk9 (j : Nat) : GK :=
  match j with
  | 0 => .mk fun t => RA.rec (motive := fun _ => AV) (fun a0 _ _ _ _ _ _ _ _ _ _ _ _ _ _ _ => a0) (RB.rec (motive := fun _ => RA) (fun _ _ _ _ _ _ _ _ _ a9 _ _ _ _ _ _ => a9) t)
  | 1 => .mk fun t => RA.rec (motive := fun _ => AV) (fun _ a1 _ _ _ _ _ _ _ _ _ _ _ _ _ _ => a1) (RB.rec (motive := fun _ => RA) (fun _ _ _ _ _ _ _ _ _ a9 _ _ _ _ _ _ => a9) t)
  | 2 => .mk fun t => RA.rec (motive := fun _ => AV) (fun _ _ a2 _ _ _ _ _ _ _ _ _ _ _ _ _ => a2) (RB.rec (motive := fun _ => RA) (fun _ _ _ _ _ _ _ _ _ a9 _ _ _ _ _ _ => a9) t)
  | 3 => .mk fun t => RA.rec (motive := fun _ => AV) (fun _ _ _ a3 _ _ _ _ _ _ _ _ _ _ _ _ => a3) (RB.rec (motive := fun _ => RA) (fun _ _ _ _ _ _ _ _ _ a9 _ _ _ _ _ _ => a9) t)
  | 4 => .mk fun t => RA.rec (motive := fun _ => AV) (fun _ _ _ _ a4 _ _ _ _ _ _ _ _ _ _ _ => a4) (RB.rec (motive := fun _ => RA) (fun _ _ _ _ _ _ _ _ _ a9 _ _ _ _ _ _ => a9) t)
  | 5 => .mk fun t => RA.rec (motive := fun _ => AV) (fun _ _ _ _ _ a5 _ _ _ _ _ _ _ _ _ _ => a5) (RB.rec (motive := fun _ => RA) (fun _ _ _ _ _ _ _ _ _ a9 _ _ _ _ _ _ => a9) t)
  | 6 => .mk fun t => RA.rec (motive := fun _ => AV) (fun _ _ _ _ _ _ a6 _ _ _ _ _ _ _ _ _ => a6) (RB.rec (motive := fun _ => RA) (fun _ _ _ _ _ _ _ _ _ a9 _ _ _ _ _ _ => a9) t)
  | 7 => .mk fun t => RA.rec (motive := fun _ => AV) (fun _ _ _ _ _ _ _ a7 _ _ _ _ _ _ _ _ => a7) (RB.rec (motive := fun _ => RA) (fun _ _ _ _ _ _ _ _ _ a9 _ _ _ _ _ _ => a9) t)
  | 8 => .mk fun t => RA.rec (motive := fun _ => AV) (fun _ _ _ _ _ _ _ _ a8 _ _ _ _ _ _ _ => a8) (RB.rec (motive := fun _ => RA) (fun _ _ _ _ _ _ _ _ _ a9 _ _ _ _ _ _ => a9) t)
  | 9 => .mk fun t => RA.rec (motive := fun _ => AV) (fun _ _ _ _ _ _ _ _ _ a9 _ _ _ _ _ _ => a9) (RB.rec (motive := fun _ => RA) (fun _ _ _ _ _ _ _ _ _ a9 _ _ _ _ _ _ => a9) t)
  | 10 => .mk fun t => RA.rec (motive := fun _ => AV) (fun _ _ _ _ _ _ _ _ _ _ a10 _ _ _ _ _ => a10) (RB.rec (motive := fun _ => RA) (fun _ _ _ _ _ _ _ _ _ a9 _ _ _ _ _ _ => a9) t)
  | 11 => .mk fun t => RA.rec (motive := fun _ => AV) (fun _ _ _ _ _ _ _ _ _ _ _ a11 _ _ _ _ => a11) (RB.rec (motive := fun _ => RA) (fun _ _ _ _ _ _ _ _ _ a9 _ _ _ _ _ _ => a9) t)
  | 12 => .mk fun t => RA.rec (motive := fun _ => AV) (fun _ _ _ _ _ _ _ _ _ _ _ _ a12 _ _ _ => a12) (RB.rec (motive := fun _ => RA) (fun _ _ _ _ _ _ _ _ _ a9 _ _ _ _ _ _ => a9) t)
  | 13 => .mk fun t => RA.rec (motive := fun _ => AV) (fun _ _ _ _ _ _ _ _ _ _ _ _ _ a13 _ _ => a13) (RB.rec (motive := fun _ => RA) (fun _ _ _ _ _ _ _ _ _ a9 _ _ _ _ _ _ => a9) t)
  | 14 => .mk fun t => RA.rec (motive := fun _ => AV) (fun _ _ _ _ _ _ _ _ _ _ _ _ _ _ a14 _ => a14) (RB.rec (motive := fun _ => RA) (fun _ _ _ _ _ _ _ _ _ a9 _ _ _ _ _ _ => a9) t)
  | _ => .mk fun t => RA.rec (motive := fun _ => AV) (fun _ _ _ _ _ _ _ _ _ _ _ _ _ _ _ a15 => a15) (RB.rec (motive := fun _ => RA) (fun _ _ _ _ _ _ _ _ _ a9 _ _ _ _ _ _ => a9) t)
def sk9 (j : Nat) : SK :=
  match j with
  | 0 => .mk fun t v => RB.rec (motive := fun _ => AV → RB) (fun a0 a1 a2 a3 a4 a5 a6 a7 a8 a9 a10 a11 a12 a13 a14 a15 v => RB.mk a0 a1 a2 a3 a4 a5 a6 a7 a8 (RA.rec (motive := fun _ => AV → RA) (fun _ b1 b2 b3 b4 b5 b6 b7 b8 b9 b10 b11 b12 b13 b14 b15 v => RA.mk v b1 b2 b3 b4 b5 b6 b7 b8 b9 b10 b11 b12 b13 b14 b15) a9 v) a10 a11 a12 a13 a14 a15) t v
  | 1 => .mk fun t v => RB.rec (motive := fun _ => AV → RB) (fun a0 a1 a2 a3 a4 a5 a6 a7 a8 a9 a10 a11 a12 a13 a14 a15 v => RB.mk a0 a1 a2 a3 a4 a5 a6 a7 a8 (RA.rec (motive := fun _ => AV → RA) (fun b0 _ b2 b3 b4 b5 b6 b7 b8 b9 b10 b11 b12 b13 b14 b15 v => RA.mk b0 v b2 b3 b4 b5 b6 b7 b8 b9 b10 b11 b12 b13 b14 b15) a9 v) a10 a11 a12 a13 a14 a15) t v
  | 2 => .mk fun t v => RB.rec (motive := fun _ => AV → RB) (fun a0 a1 a2 a3 a4 a5 a6 a7 a8 a9 a10 a11 a12 a13 a14 a15 v => RB.mk a0 a1 a2 a3 a4 a5 a6 a7 a8 (RA.rec (motive := fun _ => AV → RA) (fun b0 b1 _ b3 b4 b5 b6 b7 b8 b9 b10 b11 b12 b13 b14 b15 v => RA.mk b0 b1 v b3 b4 b5 b6 b7 b8 b9 b10 b11 b12 b13 b14 b15) a9 v) a10 a11 a12 a13 a14 a15) t v
  | 3 => .mk fun t v => RB.rec (motive := fun _ => AV → RB) (fun a0 a1 a2 a3 a4 a5 a6 a7 a8 a9 a10 a11 a12 a13 a14 a15 v => RB.mk a0 a1 a2 a3 a4 a5 a6 a7 a8 (RA.rec (motive := fun _ => AV → RA) (fun b0 b1 b2 _ b4 b5 b6 b7 b8 b9 b10 b11 b12 b13 b14 b15 v => RA.mk b0 b1 b2 v b4 b5 b6 b7 b8 b9 b10 b11 b12 b13 b14 b15) a9 v) a10 a11 a12 a13 a14 a15) t v
  | 4 => .mk fun t v => RB.rec (motive := fun _ => AV → RB) (fun a0 a1 a2 a3 a4 a5 a6 a7 a8 a9 a10 a11 a12 a13 a14 a15 v => RB.mk a0 a1 a2 a3 a4 a5 a6 a7 a8 (RA.rec (motive := fun _ => AV → RA) (fun b0 b1 b2 b3 _ b5 b6 b7 b8 b9 b10 b11 b12 b13 b14 b15 v => RA.mk b0 b1 b2 b3 v b5 b6 b7 b8 b9 b10 b11 b12 b13 b14 b15) a9 v) a10 a11 a12 a13 a14 a15) t v
  | 5 => .mk fun t v => RB.rec (motive := fun _ => AV → RB) (fun a0 a1 a2 a3 a4 a5 a6 a7 a8 a9 a10 a11 a12 a13 a14 a15 v => RB.mk a0 a1 a2 a3 a4 a5 a6 a7 a8 (RA.rec (motive := fun _ => AV → RA) (fun b0 b1 b2 b3 b4 _ b6 b7 b8 b9 b10 b11 b12 b13 b14 b15 v => RA.mk b0 b1 b2 b3 b4 v b6 b7 b8 b9 b10 b11 b12 b13 b14 b15) a9 v) a10 a11 a12 a13 a14 a15) t v
  | 6 => .mk fun t v => RB.rec (motive := fun _ => AV → RB) (fun a0 a1 a2 a3 a4 a5 a6 a7 a8 a9 a10 a11 a12 a13 a14 a15 v => RB.mk a0 a1 a2 a3 a4 a5 a6 a7 a8 (RA.rec (motive := fun _ => AV → RA) (fun b0 b1 b2 b3 b4 b5 _ b7 b8 b9 b10 b11 b12 b13 b14 b15 v => RA.mk b0 b1 b2 b3 b4 b5 v b7 b8 b9 b10 b11 b12 b13 b14 b15) a9 v) a10 a11 a12 a13 a14 a15) t v
  | 7 => .mk fun t v => RB.rec (motive := fun _ => AV → RB) (fun a0 a1 a2 a3 a4 a5 a6 a7 a8 a9 a10 a11 a12 a13 a14 a15 v => RB.mk a0 a1 a2 a3 a4 a5 a6 a7 a8 (RA.rec (motive := fun _ => AV → RA) (fun b0 b1 b2 b3 b4 b5 b6 _ b8 b9 b10 b11 b12 b13 b14 b15 v => RA.mk b0 b1 b2 b3 b4 b5 b6 v b8 b9 b10 b11 b12 b13 b14 b15) a9 v) a10 a11 a12 a13 a14 a15) t v
  | 8 => .mk fun t v => RB.rec (motive := fun _ => AV → RB) (fun a0 a1 a2 a3 a4 a5 a6 a7 a8 a9 a10 a11 a12 a13 a14 a15 v => RB.mk a0 a1 a2 a3 a4 a5 a6 a7 a8 (RA.rec (motive := fun _ => AV → RA) (fun b0 b1 b2 b3 b4 b5 b6 b7 _ b9 b10 b11 b12 b13 b14 b15 v => RA.mk b0 b1 b2 b3 b4 b5 b6 b7 v b9 b10 b11 b12 b13 b14 b15) a9 v) a10 a11 a12 a13 a14 a15) t v
  | 9 => .mk fun t v => RB.rec (motive := fun _ => AV → RB) (fun a0 a1 a2 a3 a4 a5 a6 a7 a8 a9 a10 a11 a12 a13 a14 a15 v => RB.mk a0 a1 a2 a3 a4 a5 a6 a7 a8 (RA.rec (motive := fun _ => AV → RA) (fun b0 b1 b2 b3 b4 b5 b6 b7 b8 _ b10 b11 b12 b13 b14 b15 v => RA.mk b0 b1 b2 b3 b4 b5 b6 b7 b8 v b10 b11 b12 b13 b14 b15) a9 v) a10 a11 a12 a13 a14 a15) t v
  | 10 => .mk fun t v => RB.rec (motive := fun _ => AV → RB) (fun a0 a1 a2 a3 a4 a5 a6 a7 a8 a9 a10 a11 a12 a13 a14 a15 v => RB.mk a0 a1 a2 a3 a4 a5 a6 a7 a8 (RA.rec (motive := fun _ => AV → RA) (fun b0 b1 b2 b3 b4 b5 b6 b7 b8 b9 _ b11 b12 b13 b14 b15 v => RA.mk b0 b1 b2 b3 b4 b5 b6 b7 b8 b9 v b11 b12 b13 b14 b15) a9 v) a10 a11 a12 a13 a14 a15) t v
  | 11 => .mk fun t v => RB.rec (motive := fun _ => AV → RB) (fun a0 a1 a2 a3 a4 a5 a6 a7 a8 a9 a10 a11 a12 a13 a14 a15 v => RB.mk a0 a1 a2 a3 a4 a5 a6 a7 a8 (RA.rec (motive := fun _ => AV → RA) (fun b0 b1 b2 b3 b4 b5 b6 b7 b8 b9 b10 _ b12 b13 b14 b15 v => RA.mk b0 b1 b2 b3 b4 b5 b6 b7 b8 b9 b10 v b12 b13 b14 b15) a9 v) a10 a11 a12 a13 a14 a15) t v
  | 12 => .mk fun t v => RB.rec (motive := fun _ => AV → RB) (fun a0 a1 a2 a3 a4 a5 a6 a7 a8 a9 a10 a11 a12 a13 a14 a15 v => RB.mk a0 a1 a2 a3 a4 a5 a6 a7 a8 (RA.rec (motive := fun _ => AV → RA) (fun b0 b1 b2 b3 b4 b5 b6 b7 b8 b9 b10 b11 _ b13 b14 b15 v => RA.mk b0 b1 b2 b3 b4 b5 b6 b7 b8 b9 b10 b11 v b13 b14 b15) a9 v) a10 a11 a12 a13 a14 a15) t v
  | 13 => .mk fun t v => RB.rec (motive := fun _ => AV → RB) (fun a0 a1 a2 a3 a4 a5 a6 a7 a8 a9 a10 a11 a12 a13 a14 a15 v => RB.mk a0 a1 a2 a3 a4 a5 a6 a7 a8 (RA.rec (motive := fun _ => AV → RA) (fun b0 b1 b2 b3 b4 b5 b6 b7 b8 b9 b10 b11 b12 _ b14 b15 v => RA.mk b0 b1 b2 b3 b4 b5 b6 b7 b8 b9 b10 b11 b12 v b14 b15) a9 v) a10 a11 a12 a13 a14 a15) t v
  | 14 => .mk fun t v => RB.rec (motive := fun _ => AV → RB) (fun a0 a1 a2 a3 a4 a5 a6 a7 a8 a9 a10 a11 a12 a13 a14 a15 v => RB.mk a0 a1 a2 a3 a4 a5 a6 a7 a8 (RA.rec (motive := fun _ => AV → RA) (fun b0 b1 b2 b3 b4 b5 b6 b7 b8 b9 b10 b11 b12 b13 _ b15 v => RA.mk b0 b1 b2 b3 b4 b5 b6 b7 b8 b9 b10 b11 b12 b13 v b15) a9 v) a10 a11 a12 a13 a14 a15) t v
  | _ => .mk fun t v => RB.rec (motive := fun _ => AV → RB) (fun a0 a1 a2 a3 a4 a5 a6 a7 a8 a9 a10 a11 a12 a13 a14 a15 v => RB.mk a0 a1 a2 a3 a4 a5 a6 a7 a8 (RA.rec (motive := fun _ => AV → RA) (fun b0 b1 b2 b3 b4 b5 b6 b7 b8 b9 b10 b11 b12 b13 b14 _ v => RA.mk b0 b1 b2 b3 b4 b5 b6 b7 b8 b9 b10 b11 b12 b13 b14 v) a9 v) a10 a11 a12 a13 a14 a15) t v
def gk10 (j : Nat) : GK :=
  match j with
  | 0 => .mk fun t => RA.rec (motive := fun _ => AV) (fun a0 _ _ _ _ _ _ _ _ _ _ _ _ _ _ _ => a0) (RB.rec (motive := fun _ => RA) (fun _ _ _ _ _ _ _ _ _ _ a10 _ _ _ _ _ => a10) t)
  | 1 => .mk fun t => RA.rec (motive := fun _ => AV) (fun _ a1 _ _ _ _ _ _ _ _ _ _ _ _ _ _ => a1) (RB.rec (motive := fun _ => RA) (fun _ _ _ _ _ _ _ _ _ _ a10 _ _ _ _ _ => a10) t)
  | 2 => .mk fun t => RA.rec (motive := fun _ => AV) (fun _ _ a2 _ _ _ _ _ _ _ _ _ _ _ _ _ => a2) (RB.rec (motive := fun _ => RA) (fun _ _ _ _ _ _ _ _ _ _ a10 _ _ _ _ _ => a10) t)
  | 3 => .mk fun t => RA.rec (motive := fun _ => AV) (fun _ _ _ a3 _ _ _ _ _ _ _ _ _ _ _ _ => a3) (RB.rec (motive := fun _ => RA) (fun _ _ _ _ _ _ _ _ _ _ a10 _ _ _ _ _ => a10) t)
  | 4 => .mk fun t => RA.rec (motive := fun _ => AV) (fun _ _ _ _ a4 _ _ _ _ _ _ _ _ _ _ _ => a4) (RB.rec (motive := fun _ => RA) (fun _ _ _ _ _ _ _ _ _ _ a10 _ _ _ _ _ => a10) t)
  | 5 => .mk fun t => RA.rec (motive := fun _ => AV) (fun _ _ _ _ _ a5 _ _ _ _ _ _ _ _ _ _ => a5) (RB.rec (motive := fun _ => RA) (fun _ _ _ _ _ _ _ _ _ _ a10 _ _ _ _ _ => a10) t)
  | 6 => .mk fun t => RA.rec (motive := fun _ => AV) (fun _ _ _ _ _ _ a6 _ _ _ _ _ _ _ _ _ => a6) (RB.rec (motive := fun _ => RA) (fun _ _ _ _ _ _ _ _ _ _ a10 _ _ _ _ _ => a10) t)
  | 7 => .mk fun t => RA.rec (motive := fun _ => AV) (fun _ _ _ _ _ _ _ a7 _ _ _ _ _ _ _ _ => a7) (RB.rec (motive := fun _ => RA) (fun _ _ _ _ _ _ _ _ _ _ a10 _ _ _ _ _ => a10) t)
  | 8 => .mk fun t => RA.rec (motive := fun _ => AV) (fun _ _ _ _ _ _ _ _ a8 _ _ _ _ _ _ _ => a8) (RB.rec (motive := fun _ => RA) (fun _ _ _ _ _ _ _ _ _ _ a10 _ _ _ _ _ => a10) t)
  | 9 => .mk fun t => RA.rec (motive := fun _ => AV) (fun _ _ _ _ _ _ _ _ _ a9 _ _ _ _ _ _ => a9) (RB.rec (motive := fun _ => RA) (fun _ _ _ _ _ _ _ _ _ _ a10 _ _ _ _ _ => a10) t)
  | 10 => .mk fun t => RA.rec (motive := fun _ => AV) (fun _ _ _ _ _ _ _ _ _ _ a10 _ _ _ _ _ => a10) (RB.rec (motive := fun _ => RA) (fun _ _ _ _ _ _ _ _ _ _ a10 _ _ _ _ _ => a10) t)
  | 11 => .mk fun t => RA.rec (motive := fun _ => AV) (fun _ _ _ _ _ _ _ _ _ _ _ a11 _ _ _ _ => a11) (RB.rec (motive := fun _ => RA) (fun _ _ _ _ _ _ _ _ _ _ a10 _ _ _ _ _ => a10) t)
  | 12 => .mk fun t => RA.rec (motive := fun _ => AV) (fun _ _ _ _ _ _ _ _ _ _ _ _ a12 _ _ _ => a12) (RB.rec (motive := fun _ => RA) (fun _ _ _ _ _ _ _ _ _ _ a10 _ _ _ _ _ => a10) t)
  | 13 => .mk fun t => RA.rec (motive := fun _ => AV) (fun _ _ _ _ _ _ _ _ _ _ _ _ _ a13 _ _ => a13) (RB.rec (motive := fun _ => RA) (fun _ _ _ _ _ _ _ _ _ _ a10 _ _ _ _ _ => a10) t)
  | 14 => .mk fun t => RA.rec (motive := fun _ => AV) (fun _ _ _ _ _ _ _ _ _ _ _ _ _ _ a14 _ => a14) (RB.rec (motive := fun _ => RA) (fun _ _ _ _ _ _ _ _ _ _ a10 _ _ _ _ _ => a10) t)
  | _ => .mk fun t => RA.rec (motive := fun _ => AV) (fun _ _ _ _ _ _ _ _ _ _ _ _ _ _ _ a15 => a15) (RB.rec (motive := fun _ => RA) (fun _ _ _ _ _ _ _ _ _ _ a10 _ _ _ _ _ => a10) t)
def sk10 (j : Nat) : SK :=
  match j with
  | 0 => .mk fun t v => RB.rec (motive := fun _ => AV → RB) (fun a0 a1 a2 a3 a4 a5 a6 a7 a8 a9 a10 a11 a12 a13 a14 a15 v => RB.mk a0 a1 a2 a3 a4 a5 a6 a7 a8 a9 (RA.rec (motive := fun _ => AV → RA) (fun _ b1 b2 b3 b4 b5 b6 b7 b8 b9 b10 b11 b12 b13 b14 b15 v => RA.mk v b1 b2 b3 b4 b5 b6 b7 b8 b9 b10 b11 b12 b13 b14 b15) a10 v) a11 a12 a13 a14 a15) t v
  | 1 => .mk fun t v => RB.rec (motive := fun _ => AV → RB) (fun a0 a1 a2 a3 a4 a5 a6 a7 a8 a9 a10 a11 a12 a13 a14 a15 v => RB.mk a0 a1 a2 a3 a4 a5 a6 a7 a8 a9 (RA.rec (motive := fun _ => AV → RA) (fun b0 _ b2 b3 b4 b5 b6 b7 b8 b9 b10 b11 b12 b13 b14 b15 v => RA.mk b0 v b2 b3 b4 b5 b6 b7 b8 b9 b10 b11 b12 b13 b14 b15) a10 v) a11 a12 a13 a14 a15) t v
  | 2 => .mk fun t v => RB.rec (motive := fun _ => AV → RB) (fun a0 a1 a2 a3 a4 a5 a6 a7 a8 a9 a10 a11 a12 a13 a14 a15 v => RB.mk a0 a1 a2 a3 a4 a5 a6 a7 a8 a9 (RA.rec (motive := fun _ => AV → RA) (fun b0 b1 _ b3 b4 b5 b6 b7 b8 b9 b10 b11 b12 b13 b14 b15 v => RA.mk b0 b1 v b3 b4 b5 b6 b7 b8 b9 b10 b11 b12 b13 b14 b15) a10 v) a11 a12 a13 a14 a15) t v
  | 3 => .mk fun t v => RB.rec (motive := fun _ => AV → RB) (fun a0 a1 a2 a3 a4 a5 a6 a7 a8 a9 a10 a11 a12 a13 a14 a15 v => RB.mk a0 a1 a2 a3 a4 a5 a6 a7 a8 a9 (RA.rec (motive := fun _ => AV → RA) (fun b0 b1 b2 _ b4 b5 b6 b7 b8 b9 b10 b11 b12 b13 b14 b15 v => RA.mk b0 b1 b2 v b4 b5 b6 b7 b8 b9 b10 b11 b12 b13 b14 b15) a10 v) a11 a12 a13 a14 a15) t v
  | 4 => .mk fun t v => RB.rec (motive := fun _ => AV → RB) (fun a0 a1 a2 a3 a4 a5 a6 a7 a8 a9 a10 a11 a12 a13 a14 a15 v => RB.mk a0 a1 a2 a3 a4 a5 a6 a7 a8 a9 (RA.rec (motive := fun _ => AV → RA) (fun b0 b1 b2 b3 _ b5 b6 b7 b8 b9 b10 b11 b12 b13 b14 b15 v => RA.mk b0 b1 b2 b3 v b5 b6 b7 b8 b9 b10 b11 b12 b13 b14 b15) a10 v) a11 a12 a13 a14 a15) t v
  | 5 => .mk fun t v => RB.rec (motive := fun _ => AV → RB) (fun a0 a1 a2 a3 a4 a5 a6 a7 a8 a9 a10 a11 a12 a13 a14 a15 v => RB.mk a0 a1 a2 a3 a4 a5 a6 a7 a8 a9 (RA.rec (motive := fun _ => AV → RA) (fun b0 b1 b2 b3 b4 _ b6 b7 b8 b9 b10 b11 b12 b13 b14 b15 v => RA.mk b0 b1 b2 b3 b4 v b6 b7 b8 b9 b10 b11 b12 b13 b14 b15) a10 v) a11 a12 a13 a14 a15) t v
  | 6 => .mk fun t v => RB.rec (motive := fun _ => AV → RB) (fun a0 a1 a2 a3 a4 a5 a6 a7 a8 a9 a10 a11 a12 a13 a14 a15 v => RB.mk a0 a1 a2 a3 a4 a5 a6 a7 a8 a9 (RA.rec (motive := fun _ => AV → RA) (fun b0 b1 b2 b3 b4 b5 _ b7 b8 b9 b10 b11 b12 b13 b14 b15 v => RA.mk b0 b1 b2 b3 b4 b5 v b7 b8 b9 b10 b11 b12 b13 b14 b15) a10 v) a11 a12 a13 a14 a15) t v
  | 7 => .mk fun t v => RB.rec (motive := fun _ => AV → RB) (fun a0 a1 a2 a3 a4 a5 a6 a7 a8 a9 a10 a11 a12 a13 a14 a15 v => RB.mk a0 a1 a2 a3 a4 a5 a6 a7 a8 a9 (RA.rec (motive := fun _ => AV → RA) (fun b0 b1 b2 b3 b4 b5 b6 _ b8 b9 b10 b11 b12 b13 b14 b15 v => RA.mk b0 b1 b2 b3 b4 b5 b6 v b8 b9 b10 b11 b12 b13 b14 b15) a10 v) a11 a12 a13 a14 a15) t v
  | 8 => .mk fun t v => RB.rec (motive := fun _ => AV → RB) (fun a0 a1 a2 a3 a4 a5 a6 a7 a8 a9 a10 a11 a12 a13 a14 a15 v => RB.mk a0 a1 a2 a3 a4 a5 a6 a7 a8 a9 (RA.rec (motive := fun _ => AV → RA) (fun b0 b1 b2 b3 b4 b5 b6 b7 _ b9 b10 b11 b12 b13 b14 b15 v => RA.mk b0 b1 b2 b3 b4 b5 b6 b7 v b9 b10 b11 b12 b13 b14 b15) a10 v) a11 a12 a13 a14 a15) t v
  | 9 => .mk fun t v => RB.rec (motive := fun _ => AV → RB) (fun a0 a1 a2 a3 a4 a5 a6 a7 a8 a9 a10 a11 a12 a13 a14 a15 v => RB.mk a0 a1 a2 a3 a4 a5 a6 a7 a8 a9 (RA.rec (motive := fun _ => AV → RA) (fun b0 b1 b2 b3 b4 b5 b6 b7 b8 _ b10 b11 b12 b13 b14 b15 v => RA.mk b0 b1 b2 b3 b4 b5 b6 b7 b8 v b10 b11 b12 b13 b14 b15) a10 v) a11 a12 a13 a14 a15) t v
  | 10 => .mk fun t v => RB.rec (motive := fun _ => AV → RB) (fun a0 a1 a2 a3 a4 a5 a6 a7 a8 a9 a10 a11 a12 a13 a14 a15 v => RB.mk a0 a1 a2 a3 a4 a5 a6 a7 a8 a9 (RA.rec (motive := fun _ => AV → RA) (fun b0 b1 b2 b3 b4 b5 b6 b7 b8 b9 _ b11 b12 b13 b14 b15 v => RA.mk b0 b1 b2 b3 b4 b5 b6 b7 b8 b9 v b11 b12 b13 b14 b15) a10 v) a11 a12 a13 a14 a15) t v
  | 11 => .mk fun t v => RB.rec (motive := fun _ => AV → RB) (fun a0 a1 a2 a3 a4 a5 a6 a7 a8 a9 a10 a11 a12 a13 a14 a15 v => RB.mk a0 a1 a2 a3 a4 a5 a6 a7 a8 a9 (RA.rec (motive := fun _ => AV → RA) (fun b0 b1 b2 b3 b4 b5 b6 b7 b8 b9 b10 _ b12 b13 b14 b15 v => RA.mk b0 b1 b2 b3 b4 b5 b6 b7 b8 b9 b10 v b12 b13 b14 b15) a10 v) a11 a12 a13 a14 a15) t v
  | 12 => .mk fun t v => RB.rec (motive := fun _ => AV → RB) (fun a0 a1 a2 a3 a4 a5 a6 a7 a8 a9 a10 a11 a12 a13 a14 a15 v => RB.mk a0 a1 a2 a3 a4 a5 a6 a7 a8 a9 (RA.rec (motive := fun _ => AV → RA) (fun b0 b1 b2 b3 b4 b5 b6 b7 b8 b9 b10 b11 _ b13 b14 b15 v => RA.mk b0 b1 b2 b3 b4 b5 b6 b7 b8 b9 b10 b11 v b13 b14 b15) a10 v) a11 a12 a13 a14 a15) t v
  | 13 => .mk fun t v => RB.rec (motive := fun _ => AV → RB) (fun a0 a1 a2 a3 a4 a5 a6 a7 a8 a9 a10 a11 a12 a13 a14 a15 v => RB.mk a0 a1 a2 a3 a4 a5 a6 a7 a8 a9 (RA.rec (motive := fun _ => AV → RA) (fun b0 b1 b2 b3 b4 b5 b6 b7 b8 b9 b10 b11 b12 _ b14 b15 v => RA.mk b0 b1 b2 b3 b4 b5 b6 b7 b8 b9 b10 b11 b12 v b14 b15) a10 v) a11 a12 a13 a14 a15) t v
  | 14 => .mk fun t v => RB.rec (motive := fun _ => AV → RB) (fun a0 a1 a2 a3 a4 a5 a6 a7 a8 a9 a10 a11 a12 a13 a14 a15 v => RB.mk a0 a1 a2 a3 a4 a5 a6 a7 a8 a9 (RA.rec (motive := fun _ => AV → RA) (fun b0 b1 b2 b3 b4 b5 b6 b7 b8 b9 b10 b11 b12 b13 _ b15 v => RA.mk b0 b1 b2 b3 b4 b5 b6 b7 b8 b9 b10 b11 b12 b13 v b15) a10 v) a11 a12 a13 a14 a15) t v
  | _ => .mk fun t v => RB.rec (motive := fun _ => AV → RB) (fun a0 a1 a2 a3 a4 a5 a6 a7 a8 a9 a10 a11 a12 a13 a14 a15 v => RB.mk a0 a1 a2 a3 a4 a5 a6 a7 a8 a9 (RA.rec (motive := fun _ => AV → RA) (fun b0 b1 b2 b3 b4 b5 b6 b7 b8 b9 b10 b11 b12 b13 b14 _ v => RA.mk b0 b1 b2 b3 b4 b5 b6 b7 b8 b9 b10 b11 b12 b13 b14 v) a10 v) a11 a12 a13 a14 a15) t v
def gk11 (j : Nat) : GK :=
  match j with
  | 0 => .mk fun t => RA.rec (motive := fun _ => AV) (fun a0 _ _ _ _ _ _ _ _ _ _ _ _ _ _ _ => a0) (RB.rec (motive := fun _ => RA) (fun _ _ _ _ _ _ _ _ _ _ _ a11 _ _ _ _ => a11) t)
  | 1 => .mk fun t => RA.rec (motive := fun _ => AV) (fun _ a1 _ _ _ _ _ _ _ _ _ _ _ _ _ _ => a1) (RB.rec (motive := fun _ => RA) (fun _ _ _ _ _ _ _ _ _ _ _ a11 _ _ _ _ => a11) t)
  | 2 => .mk fun t => RA.rec (motive := fun _ => AV) (fun _ _ a2 _ _ _ _ _ _ _ _ _ _ _ _ _ => a2) (RB.rec (motive := fun _ => RA) (fun _ _ _ _ _ _ _ _ _ _ _ a11 _ _ _ _ => a11) t)
  | 3 => .mk fun t => RA.rec (motive := fun _ => AV) (fun _ _ _ a3 _ _ _ _ _ _ _ _ _ _ _ _ => a3) (RB.rec (motive := fun _ => RA) (fun _ _ _ _ _ _ _ _ _ _ _ a11 _ _ _ _ => a11) t)
  | 4 => .mk fun t => RA.rec (motive := fun _ => AV) (fun _ _ _ _ a4 _ _ _ _ _ _ _ _ _ _ _ => a4) (RB.rec (motive := fun _ => RA) (fun _ _ _ _ _ _ _ _ _ _ _ a11 _ _ _ _ => a11) t)
  | 5 => .mk fun t => RA.rec (motive := fun _ => AV) (fun _ _ _ _ _ a5 _ _ _ _ _ _ _ _ _ _ => a5) (RB.rec (motive := fun _ => RA) (fun _ _ _ _ _ _ _ _ _ _ _ a11 _ _ _ _ => a11) t)
  | 6 => .mk fun t => RA.rec (motive := fun _ => AV) (fun _ _ _ _ _ _ a6 _ _ _ _ _ _ _ _ _ => a6) (RB.rec (motive := fun _ => RA) (fun _ _ _ _ _ _ _ _ _ _ _ a11 _ _ _ _ => a11) t)
  | 7 => .mk fun t => RA.rec (motive := fun _ => AV) (fun _ _ _ _ _ _ _ a7 _ _ _ _ _ _ _ _ => a7) (RB.rec (motive := fun _ => RA) (fun _ _ _ _ _ _ _ _ _ _ _ a11 _ _ _ _ => a11) t)
  | 8 => .mk fun t => RA.rec (motive := fun _ => AV) (fun _ _ _ _ _ _ _ _ a8 _ _ _ _ _ _ _ => a8) (RB.rec (motive := fun _ => RA) (fun _ _ _ _ _ _ _ _ _ _ _ a11 _ _ _ _ => a11) t)
  | 9 => .mk fun t => RA.rec (motive := fun _ => AV) (fun _ _ _ _ _ _ _ _ _ a9 _ _ _ _ _ _ => a9) (RB.rec (motive := fun _ => RA) (fun _ _ _ _ _ _ _ _ _ _ _ a11 _ _ _ _ => a11) t)
  | 10 => .mk fun t => RA.rec (motive := fun _ => AV) (fun _ _ _ _ _ _ _ _ _ _ a10 _ _ _ _ _ => a10) (RB.rec (motive := fun _ => RA) (fun _ _ _ _ _ _ _ _ _ _ _ a11 _ _ _ _ => a11) t)
  | 11 => .mk fun t => RA.rec (motive := fun _ => AV) (fun _ _ _ _ _ _ _ _ _ _ _ a11 _ _ _ _ => a11) (RB.rec (motive := fun _ => RA) (fun _ _ _ _ _ _ _ _ _ _ _ a11 _ _ _ _ => a11) t)
  | 12 => .mk fun t => RA.rec (motive := fun _ => AV) (fun _ _ _ _ _ _ _ _ _ _ _ _ a12 _ _ _ => a12) (RB.rec (motive := fun _ => RA) (fun _ _ _ _ _ _ _ _ _ _ _ a11 _ _ _ _ => a11) t)
  | 13 => .mk fun t => RA.rec (motive := fun _ => AV) (fun _ _ _ _ _ _ _ _ _ _ _ _ _ a13 _ _ => a13) (RB.rec (motive := fun _ => RA) (fun _ _ _ _ _ _ _ _ _ _ _ a11 _ _ _ _ => a11) t)
  | 14 => .mk fun t => RA.rec (motive := fun _ => AV) (fun _ _ _ _ _ _ _ _ _ _ _ _ _ _ a14 _ => a14) (RB.rec (motive := fun _ => RA) (fun _ _ _ _ _ _ _ _ _ _ _ a11 _ _ _ _ => a11) t)
  | _ => .mk fun t => RA.rec (motive := fun _ => AV) (fun _ _ _ _ _ _ _ _ _ _ _ _ _ _ _ a15 => a15) (RB.rec (motive := fun _ => RA) (fun _ _ _ _ _ _ _ _ _ _ _ a11 _ _ _ _ => a11) t)
def sk11 (j : Nat) : SK :=
  match j with
  | 0 => .mk fun t v => RB.rec (motive := fun _ => AV → RB) (fun a0 a1 a2 a3 a4 a5 a6 a7 a8 a9 a10 a11 a12 a13 a14 a15 v => RB.mk a0 a1 a2 a3 a4 a5 a6 a7 a8 a9 a10 (RA.rec (motive := fun _ => AV → RA) (fun _ b1 b2 b3 b4 b5 b6 b7 b8 b9 b10 b11 b12 b13 b14 b15 v => RA.mk v b1 b2 b3 b4 b5 b6 b7 b8 b9 b10 b11 b12 b13 b14 b15) a11 v) a12 a13 a14 a15) t v
  | 1 => .mk fun t v => RB.rec (motive := fun _ => AV → RB) (fun a0 a1 a2 a3 a4 a5 a6 a7 a8 a9 a10 a11 a12 a13 a14 a15 v => RB.mk a0 a1 a2 a3 a4 a5 a6 a7 a8 a9 a10 (RA.rec (motive := fun _ => AV → RA) (fun b0 _ b2 b3 b4 b5 b6 b7 b8 b9 b10 b11 b12 b13 b14 b15 v => RA.mk b0 v b2 b3 b4 b5 b6 b7 b8 b9 b10 b11 b12 b13 b14 b15) a11 v) a12 a13 a14 a15) t v
  | 2 => .mk fun t v => RB.rec (motive := fun _ => AV → RB) (fun a0 a1 a2 a3 a4 a5 a6 a7 a8 a9 a10 a11 a12 a13 a14 a15 v => RB.mk a0 a1 a2 a3 a4 a5 a6 a7 a8 a9 a10 (RA.rec (motive := fun _ => AV → RA) (fun b0 b1 _ b3 b4 b5 b6 b7 b8 b9 b10 b11 b12 b13 b14 b15 v => RA.mk b0 b1 v b3 b4 b5 b6 b7 b8 b9 b10 b11 b12 b13 b14 b15) a11 v) a12 a13 a14 a15) t v
  | 3 => .mk fun t v => RB.rec (motive := fun _ => AV → RB) (fun a0 a1 a2 a3 a4 a5 a6 a7 a8 a9 a10 a11 a12 a13 a14 a15 v => RB.mk a0 a1 a2 a3 a4 a5 a6 a7 a8 a9 a10 (RA.rec (motive := fun _ => AV → RA) (fun b0 b1 b2 _ b4 b5 b6 b7 b8 b9 b10 b11 b12 b13 b14 b15 v => RA.mk b0 b1 b2 v b4 b5 b6 b7 b8 b9 b10 b11 b12 b13 b14 b15) a11 v) a12 a13 a14 a15) t v
  | 4 => .mk fun t v => RB.rec (motive := fun _ => AV → RB) (fun a0 a1 a2 a3 a4 a5 a6 a7 a8 a9 a10 a11 a12 a13 a14 a15 v => RB.mk a0 a1 a2 a3 a4 a5 a6 a7 a8 a9 a10 (RA.rec (motive := fun _ => AV → RA) (fun b0 b1 b2 b3 _ b5 b6 b7 b8 b9 b10 b11 b12 b13 b14 b15 v => RA.mk b0 b1 b2 b3 v b5 b6 b7 b8 b9 b10 b11 b12 b13 b14 b15) a11 v) a12 a13 a14 a15) t v
  | 5 => .mk fun t v => RB.rec (motive := fun _ => AV → RB) (fun a0 a1 a2 a3 a4 a5 a6 a7 a8 a9 a10 a11 a12 a13 a14 a15 v => RB.mk a0 a1 a2 a3 a4 a5 a6 a7 a8 a9 a10 (RA.rec (motive := fun _ => AV → RA) (fun b0 b1 b2 b3 b4 _ b6 b7 b8 b9 b10 b11 b12 b13 b14 b15 v => RA.mk b0 b1 b2 b3 b4 v b6 b7 b8 b9 b10 b11 b12 b13 b14 b15) a11 v) a12 a13 a14 a15) t v
  | 6 => .mk fun t v => RB.rec (motive := fun _ => AV → RB) (fun a0 a1 a2 a3 a4 a5 a6 a7 a8 a9 a10 a11 a12 a13 a14 a15 v => RB.mk a0 a1 a2 a3 a4 a5 a6 a7 a8 a9 a10 (RA.rec (motive := fun _ => AV → RA) (fun b0 b1 b2 b3 b4 b5 _ b7 b8 b9 b10 b11 b12 b13 b14 b15 v => RA.mk b0 b1 b2 b3 b4 b5 v b7 b8 b9 b10 b11 b12 b13 b14 b15) a11 v) a12 a13 a14 a15) t v
  | 7 => .mk fun t v => RB.rec (motive := fun _ => AV → RB) (fun a0 a1 a2 a3 a4 a5 a6 a7 a8 a9 a10 a11 a12 a13 a14 a15 v => RB.mk a0 a1 a2 a3 a4 a5 a6 a7 a8 a9 a10 (RA.rec (motive := fun _ => AV → RA) (fun b0 b1 b2 b3 b4 b5 b6 _ b8 b9 b10 b11 b12 b13 b14 b15 v => RA.mk b0 b1 b2 b3 b4 b5 b6 v b8 b9 b10 b11 b12 b13 b14 b15) a11 v) a12 a13 a14 a15) t v
  | 8 => .mk fun t v => RB.rec (motive := fun _ => AV → RB) (fun a0 a1 a2 a3 a4 a5 a6 a7 a8 a9 a10 a11 a12 a13 a14 a15 v => RB.mk a0 a1 a2 a3 a4 a5 a6 a7 a8 a9 a10 (RA.rec (motive := fun _ => AV → RA) (fun b0 b1 b2 b3 b4 b5 b6 b7 _ b9 b10 b11 b12 b13 b14 b15 v => RA.mk b0 b1 b2 b3 b4 b5 b6 b7 v b9 b10 b11 b12 b13 b14 b15) a11 v) a12 a13 a14 a15) t v
  | 9 => .mk fun t v => RB.rec (motive := fun _ => AV → RB) (fun a0 a1 a2 a3 a4 a5 a6 a7 a8 a9 a10 a11 a12 a13 a14 a15 v => RB.mk a0 a1 a2 a3 a4 a5 a6 a7 a8 a9 a10 (RA.rec (motive := fun _ => AV → RA) (fun b0 b1 b2 b3 b4 b5 b6 b7 b8 _ b10 b11 b12 b13 b14 b15 v => RA.mk b0 b1 b2 b3 b4 b5 b6 b7 b8 v b10 b11 b12 b13 b14 b15) a11 v) a12 a13 a14 a15) t v
  | 10 => .mk fun t v => RB.rec (motive := fun _ => AV → RB) (fun a0 a1 a2 a3 a4 a5 a6 a7 a8 a9 a10 a11 a12 a13 a14 a15 v => RB.mk a0 a1 a2 a3 a4 a5 a6 a7 a8 a9 a10 (RA.rec (motive := fun _ => AV → RA) (fun b0 b1 b2 b3 b4 b5 b6 b7 b8 b9 _ b11 b12 b13 b14 b15 v => RA.mk b0 b1 b2 b3 b4 b5 b6 b7 b8 b9 v b11 b12 b13 b14 b15) a11 v) a12 a13 a14 a15) t v
  | 11 => .mk fun t v => RB.rec (motive := fun _ => AV → RB) (fun a0 a1 a2 a3 a4 a5 a6 a7 a8 a9 a10 a11 a12 a13 a14 a15 v => RB.mk a0 a1 a2 a3 a4 a5 a6 a7 a8 a9 a10 (RA.rec (motive := fun _ => AV → RA) (fun b0 b1 b2 b3 b4 b5 b6 b7 b8 b9 b10 _ b12 b13 b14 b15 v => RA.mk b0 b1 b2 b3 b4 b5 b6 b7 b8 b9 b10 v b12 b13 b14 b15) a11 v) a12 a13 a14 a15) t v
  | 12 => .mk fun t v => RB.rec (motive := fun _ => AV → RB) (fun a0 a1 a2 a3 a4 a5 a6 a7 a8 a9 a10 a11 a12 a13 a14 a15 v => RB.mk a0 a1 a2 a3 a4 a5 a6 a7 a8 a9 a10 (RA.rec (motive := fun _ => AV → RA) (fun b0 b1 b2 b3 b4 b5 b6 b7 b8 b9 b10 b11 _ b13 b14 b15 v => RA.mk b0 b1 b2 b3 b4 b5 b6 b7 b8 b9 b10 b11 v b13 b14 b15) a11 v) a12 a13 a14 a15) t v
  | 13 => .mk fun t v => RB.rec (motive := fun _ => AV → RB) (fun a0 a1 a2 a3 a4 a5 a6 a7 a8 a9 a10 a11 a12 a13 a14 a15 v => RB.mk a0 a1 a2 a3 a4 a5 a6 a7 a8 a9 a10 (RA.rec (motive := fun _ => AV → RA) (fun b0 b1 b2 b3 b4 b5 b6 b7 b8 b9 b10 b11 b12 _ b14 b15 v => RA.mk b0 b1 b2 b3 b4 b5 b6 b7 b8 b9 b10 b11 b12 v b14 b15) a11 v) a12 a13 a14 a15) t v
  | 14 => .mk fun t v => RB.rec (motive := fun _ => AV → RB) (fun a0 a1 a2 a3 a4 a5 a6 a7 a8 a9 a10 a11 a12 a13 a14 a15 v => RB.mk a0 a1 a2 a3 a4 a5 a6 a7 a8 a9 a10 (RA.rec (motive := fun _ => AV → RA) (fun b0 b1 b2 b3 b4 b5 b6 b7 b8 b9 b10 b11 b12 b13 _ b15 v => RA.mk b0 b1 b2 b3 b4 b5 b6 b7 b8 b9 b10 b11 b12 b13 v b15) a11 v) a12 a13 a14 a15) t v
  | _ => .mk fun t v => RB.rec (motive := fun _ => AV → RB) (fun a0 a1 a2 a3 a4 a5 a6 a7 a8 a9 a10 a11 a12 a13 a14 a15 v => RB.mk a0 a1 a2 a3 a4 a5 a6 a7 a8 a9 a10 (RA.rec (motive := fun _ => AV → RA) (fun b0 b1 b2 b3 b4 b5 b6 b7 b8 b9 b10 b11 b12 b13 b14 _ v => RA.mk b0 b1 b2 b3 b4 b5 b6 b7 b8 b9 b10 b11 b12 b13 b14 v) a11 v) a12 a13 a14 a15) t v
def gk12 (j : Nat) : GK :=
  match j with
  | 0 => .mk fun t => RA.rec (motive := fun _ => AV) (fun a0 _ _ _ _ _ _ _ _ _ _ _ _ _ _ _ => a0) (RB.rec (motive := fun _ => RA) (fun _ _ _ _ _ _ _ _ _ _ _ _ a12 _ _ _ => a12) t)
  | 1 => .mk fun t => RA.rec (motive := fun _ => AV) (fun _ a1 _ _ _ _ _ _ _ _ _ _ _ _ _ _ => a1) (RB.rec (motive := fun _ => RA) (fun _ _ _ _ _ _ _ _ _ _ _ _ a12 _ _ _ => a12) t)
  | 2 => .mk fun t => RA.rec (motive := fun _ => AV) (fun _ _ a2 _ _ _ _ _ _ _ _ _ _ _ _ _ => a2) (RB.rec (motive := fun _ => RA) (fun _ _ _ _ _ _ _ _ _ _ _ _ a12 _ _ _ => a12) t)
  | 3 => .mk fun t => RA.rec (motive := fun _ => AV) (fun _ _ _ a3 _ _ _ _ _ _ _ _ _ _ _ _ => a3) (RB.rec (motive := fun _ => RA) (fun _ _ _ _ _ _ _ _ _ _ _ _ a12 _ _ _ => a12) t)
  | 4 => .mk fun t => RA.rec (motive := fun _ => AV) (fun _ _ _ _ a4 _ _ _ _ _ _ _ _ _ _ _ => a4) (RB.rec (motive := fun _ => RA) (fun _ _ _ _ _ _ _ _ _ _ _ _ a12 _ _ _ => a12) t)
  | 5 => .mk fun t => RA.rec (motive := fun _ => AV) (fun _ _ _ _ _ a5 _ _ _ _ _ _ _ _ _ _ => a5) (RB.rec (motive := fun _ => RA) (fun _ _ _ _ _ _ _ _ _ _ _ _ a12 _ _ _ => a12) t)
  | 6 => .mk fun t => RA.rec (motive := fun _ => AV) (fun _ _ _ _ _ _ a6 _ _ _ _ _ _ _ _ _ => a6) (RB.rec (motive := fun _ => RA) (fun _ _ _ _ _ _ _ _ _ _ _ _ a12 _ _ _ => a12) t)
  | 7 => .mk fun t => RA.rec (motive := fun _ => AV) (fun _ _ _ _ _ _ _ a7 _ _ _ _ _ _ _ _ => a7) (RB.rec (motive := fun _ => RA) (fun _ _ _ _ _ _ _ _ _ _ _ _ a12 _ _ _ => a12) t)
  | 8 => .mk fun t => RA.rec (motive := fun _ => AV) (fun _ _ _ _ _ _ _ _ a8 _ _ _ _ _ _ _ => a8) (RB.rec (motive := fun _ => RA) (fun _ _ _ _ _ _ _ _ _ _ _ _ a12 _ _ _ => a12) t)
  | 9 => .mk fun t => RA.rec (motive := fun _ => AV) (fun _ _ _ _ _ _ _ _ _ a9 _ _ _ _ _ _ => a9) (RB.rec (motive := fun _ => RA) (fun _ _ _ _ _ _ _ _ _ _ _ _ a12 _ _ _ => a12) t)
  | 10 => .mk fun t => RA.rec (motive := fun _ => AV) (fun _ _ _ _ _ _ _ _ _ _ a10 _ _ _ _ _ => a10) (RB.rec (motive := fun _ => RA) (fun _ _ _ _ _ _ _ _ _ _ _ _ a12 _ _ _ => a12) t)
  | 11 => .mk fun t => RA.rec (motive := fun _ => AV) (fun _ _ _ _ _ _ _ _ _ _ _ a11 _ _ _ _ => a11) (RB.rec (motive := fun _ => RA) (fun _ _ _ _ _ _ _ _ _ _ _ _ a12 _ _ _ => a12) t)
  | 12 => .mk fun t => RA.rec (motive := fun _ => AV) (fun _ _ _ _ _ _ _ _ _ _ _ _ a12 _ _ _ => a12) (RB.rec (motive := fun _ => RA) (fun _ _ _ _ _ _ _ _ _ _ _ _ a12 _ _ _ => a12) t)
  | 13 => .mk fun t => RA.rec (motive := fun _ => AV) (fun _ _ _ _ _ _ _ _ _ _ _ _ _ a13 _ _ => a13) (RB.rec (motive := fun _ => RA) (fun _ _ _ _ _ _ _ _ _ _ _ _ a12 _ _ _ => a12) t)
  | 14 => .mk fun t => RA.rec (motive := fun _ => AV) (fun _ _ _ _ _ _ _ _ _ _ _ _ _ _ a14 _ => a14) (RB.rec (motive := fun _ => RA) (fun _ _ _ _ _ _ _ _ _ _ _ _ a12 _ _ _ => a12) t)
  | _ => .mk fun t => RA.rec (motive := fun _ => AV) (fun _ _ _ _ _ _ _ _ _ _ _ _ _ _ _ a15 => a15) (RB.rec (motive := fun _ => RA) (fun _ _ _ _ _ _ _ _ _ _ _ _ a12 _ _ _ => a12) t)
def sk12 (j : Nat) : SK :=
  match j with
  | 0 => .mk fun t v => RB.rec (motive := fun _ => AV → RB) (fun a0 a1 a2 a3 a4 a5 a6 a7 a8 a9 a10 a11 a12 a13 a14 a15 v => RB.mk a0 a1 a2 a3 a4 a5 a6 a7 a8 a9 a10 a11 (RA.rec (motive := fun _ => AV → RA) (fun _ b1 b2 b3 b4 b5 b6 b7 b8 b9 b10 b11 b12 b13 b14 b15 v => RA.mk v b1 b2 b3 b4 b5 b6 b7 b8 b9 b10 b11 b12 b13 b14 b15) a12 v) a13 a14 a15) t v
  | 1 => .mk fun t v => RB.rec (motive := fun _ => AV → RB) (fun a0 a1 a2 a3 a4 a5 a6 a7 a8 a9 a10 a11 a12 a13 a14 a15 v => RB.mk a0 a1 a2 a3 a4 a5 a6 a7 a8 a9 a10 a11 (RA.rec (motive := fun _ => AV → RA) (fun b0 _ b2 b3 b4 b5 b6 b7 b8 b9 b10 b11 b12 b13 b14 b15 v => RA.mk b0 v b2 b3 b4 b5 b6 b7 b8 b9 b10 b11 b12 b13 b14 b15) a12 v) a13 a14 a15) t v
  | 2 => .mk fun t v => RB.rec (motive := fun _ => AV → RB) (fun a0 a1 a2 a3 a4 a5 a6 a7 a8 a9 a10 a11 a12 a13 a14 a15 v => RB.mk a0 a1 a2 a3 a4 a5 a6 a7 a8 a9 a10 a11 (RA.rec (motive := fun _ => AV → RA) (fun b0 b1 _ b3 b4 b5 b6 b7 b8 b9 b10 b11 b12 b13 b14 b15 v => RA.mk b0 b1 v b3 b4 b5 b6 b7 b8 b9 b10 b11 b12 b13 b14 b15) a12 v) a13 a14 a15) t v
  | 3 => .mk fun t v => RB.rec (motive := fun _ => AV → RB) (fun a0 a1 a2 a3 a4 a5 a6 a7 a8 a9 a10 a11 a12 a13 a14 a15 v => RB.mk a0 a1 a2 a3 a4 a5 a6 a7 a8 a9 a10 a11 (RA.rec (motive := fun _ => AV → RA) (fun b0 b1 b2 _ b4 b5 b6 b7 b8 b9 b10 b11 b12 b13 b14 b15 v => RA.mk b0 b1 b2 v b4 b5 b6 b7 b8 b9 b10 b11 b12 b13 b14 b15) a12 v) a13 a14 a15) t v
  | 4 => .mk fun t v => RB.rec (motive := fun _ => AV → RB) (fun a0 a1 a2 a3 a4 a5 a6 a7 a8 a9 a10 a11 a12 a13 a14 a15 v => RB.mk a0 a1 a2 a3 a4 a5 a6 a7 a8 a9 a10 a11 (RA.rec (motive := fun _ => AV → RA) (fun b0 b1 b2 b3 _ b5 b6 b7 b8 b9 b10 b11 b12 b13 b14 b15 v => RA.mk b0 b1 b2 b3 v b5 b6 b7 b8 b9 b10 b11 b12 b13 b14 b15) a12 v) a13 a14 a15) t v
  | 5 => .mk fun t v => RB.rec (motive := fun _ => AV → RB) (fun a0 a1 a2 a3 a4 a5 a6 a7 a8 a9 a10 a11 a12 a13 a14 a15 v => RB.mk a0 a1 a2 a3 a4 a5 a6 a7 a8 a9 a10 a11 (RA.rec (motive := fun _ => AV → RA) (fun b0 b1 b2 b3 b4 _ b6 b7 b8 b9 b10 b11 b12 b13 b14 b15 v => RA.mk b0 b1 b2 b3 b4 v b6 b7 b8 b9 b10 b11 b12 b13 b14 b15) a12 v) a13 a14 a15) t v
  | 6 => .mk fun t v => RB.rec (motive := fun _ => AV → RB) (fun a0 a1 a2 a3 a4 a5 a6 a7 a8 a9 a10 a11 a12 a13 a14 a15 v => RB.mk a0 a1 a2 a3 a4 a5 a6 a7 a8 a9 a10 a11 (RA.rec (motive := fun _ => AV → RA) (fun b0 b1 b2 b3 b4 b5 _ b7 b8 b9 b10 b11 b12 b13 b14 b15 v => RA.mk b0 b1 b2 b3 b4 b5 v b7 b8 b9 b10 b11 b12 b13 b14 b15) a12 v) a13 a14 a15) t v
  | 7 => .mk fun t v => RB.rec (motive := fun _ => AV → RB) (fun a0 a1 a2 a3 a4 a5 a6 a7 a8 a9 a10 a11 a12 a13 a14 a15 v => RB.mk a0 a1 a2 a3 a4 a5 a6 a7 a8 a9 a10 a11 (RA.rec (motive := fun _ => AV → RA) (fun b0 b1 b2 b3 b4 b5 b6 _ b8 b9 b10 b11 b12 b13 b14 b15 v => RA.mk b0 b1 b2 b3 b4 b5 b6 v b8 b9 b10 b11 b12 b13 b14 b15) a12 v) a13 a14 a15) t v
  | 8 => .mk fun t v => RB.rec (motive := fun _ => AV → RB) (fun a0 a1 a2 a3 a4 a5 a6 a7 a8 a9 a10 a11 a12 a13 a14 a15 v => RB.mk a0 a1 a2 a3 a4 a5 a6 a7 a8 a9 a10 a11 (RA.rec (motive := fun _ => AV → RA) (fun b0 b1 b2 b3 b4 b5 b6 b7 _ b9 b10 b11 b12 b13 b14 b15 v => RA.mk b0 b1 b2 b3 b4 b5 b6 b7 v b9 b10 b11 b12 b13 b14 b15) a12 v) a13 a14 a15) t v
  | 9 => .mk fun t v => RB.rec (motive := fun _ => AV → RB) (fun a0 a1 a2 a3 a4 a5 a6 a7 a8 a9 a10 a11 a12 a13 a14 a15 v => RB.mk a0 a1 a2 a3 a4 a5 a6 a7 a8 a9 a10 a11 (RA.rec (motive := fun _ => AV → RA) (fun b0 b1 b2 b3 b4 b5 b6 b7 b8 _ b10 b11 b12 b13 b14 b15 v => RA.mk b0 b1 b2 b3 b4 b5 b6 b7 b8 v b10 b11 b12 b13 b14 b15) a12 v) a13 a14 a15) t v
  | 10 => .mk fun t v => RB.rec (motive := fun _ => AV → RB) (fun a0 a1 a2 a3 a4 a5 a6 a7 a8 a9 a10 a11 a12 a13 a14 a15 v => RB.mk a0 a1 a2 a3 a4 a5 a6 a7 a8 a9 a10 a11 (RA.rec (motive := fun _ => AV → RA) (fun b0 b1 b2 b3 b4 b5 b6 b7 b8 b9 _ b11 b12 b13 b14 b15 v => RA.mk b0 b1 b2 b3 b4 b5 b6 b7 b8 b9 v b11 b12 b13 b14 b15) a12 v) a13 a14 a15) t v
  | 11 => .mk fun t v => RB.rec (motive := fun _ => AV → RB) (fun a0 a1 a2 a3 a4 a5 a6 a7 a8 a9 a10 a11 a12 a13 a14 a15 v => RB.mk a0 a1 a2 a3 a4 a5 a6 a7 a8 a9 a10 a11 (RA.rec (motive := fun _ => AV → RA) (fun b0 b1 b2 b3 b4 b5 b6 b7 b8 b9 b10 _ b12 b13 b14 b15 v => RA.mk b0 b1 b2 b3 b4 b5 b6 b7 b8 b9 b10 v b12 b13 b14 b15) a12 v) a13 a14 a15) t v
  | 12 => .mk fun t v => RB.rec (motive := fun _ => AV → RB) (fun a0 a1 a2 a3 a4 a5 a6 a7 a8 a9 a10 a11 a12 a13 a14 a15 v => RB.mk a0 a1 a2 a3 a4 a5 a6 a7 a8 a9 a10 a11 (RA.rec (motive := fun _ => AV → RA) (fun b0 b1 b2 b3 b4 b5 b6 b7 b8 b9 b10 b11 _ b13 b14 b15 v => RA.mk b0 b1 b2 b3 b4 b5 b6 b7 b8 b9 b10 b11 v b13 b14 b15) a12 v) a13 a14 a15) t v
  | 13 => .mk fun t v => RB.rec (motive := fun _ => AV → RB) (fun a0 a1 a2 a3 a4 a5 a6 a7 a8 a9 a10 a11 a12 a13 a14 a15 v => RB.mk a0 a1 a2 a3 a4 a5 a6 a7 a8 a9 a10 a11 (RA.rec (motive := fun _ => AV → RA) (fun b0 b1 b2 b3 b4 b5 b6 b7 b8 b9 b10 b11 b12 _ b14 b15 v => RA.mk b0 b1 b2 b3 b4 b5 b6 b7 b8 b9 b10 b11 b12 v b14 b15) a12 v) a13 a14 a15) t v
  | 14 => .mk fun t v => RB.rec (motive := fun _ => AV → RB) (fun a0 a1 a2 a3 a4 a5 a6 a7 a8 a9 a10 a11 a12 a13 a14 a15 v => RB.mk a0 a1 a2 a3 a4 a5 a6 a7 a8 a9 a10 a11 (RA.rec (motive := fun _ => AV → RA) (fun b0 b1 b2 b3 b4 b5 b6 b7 b8 b9 b10 b11 b12 b13 _ b15 v => RA.mk b0 b1 b2 b3 b4 b5 b6 b7 b8 b9 b10 b11 b12 b13 v b15) a12 v) a13 a14 a15) t v
  | _ => .mk fun t v => RB.rec (motive := fun _ => AV → RB) (fun a0 a1 a2 a3 a4 a5 a6 a7 a8 a9 a10 a11 a12 a13 a14 a15 v => RB.mk a0 a1 a2 a3 a4 a5 a6 a7 a8 a9 a10 a11 (RA.rec (motive := fun _ => AV → RA) (fun b0 b1 b2 b3 b4 b5 b6 b7 b8 b9 b10 b11 b12 b13 b14 _ v => RA.mk b0 b1 b2 b3 b4 b5 b6 b7 b8 b9 b10 b11 b12 b13 b14 v) a12 v) a13 a14 a15) t v
def gk13 (j : Nat) : GK :=
  match j with
  | 0 => .mk fun t => RA.rec (motive := fun _ => AV) (fun a0 _ _ _ _ _ _ _ _ _ _ _ _ _ _ _ => a0) (RB.rec (motive := fun _ => RA) (fun _ _ _ _ _ _ _ _ _ _ _ _ _ a13 _ _ => a13) t)
  | 1 => .mk fun t => RA.rec (motive := fun _ => AV) (fun _ a1 _ _ _ _ _ _ _ _ _ _ _ _ _ _ => a1) (RB.rec (motive := fun _ => RA) (fun _ _ _ _ _ _ _ _ _ _ _ _ _ a13 _ _ => a13) t)
  | 2 => .mk fun t => RA.rec (motive := fun _ => AV) (fun _ _ a2 _ _ _ _ _ _ _ _ _ _ _ _ _ => a2) (RB.rec (motive := fun _ => RA) (fun _ _ _ _ _ _ _ _ _ _ _ _ _ a13 _ _ => a13) t)
  | 3 => .mk fun t => RA.rec (motive := fun _ => AV) (fun _ _ _ a3 _ _ _ _ _ _ _ _ _ _ _ _ => a3) (RB.rec (motive := fun _ => RA) (fun _ _ _ _ _ _ _ _ _ _ _ _ _ a13 _ _ => a13) t)
  | 4 => .mk fun t => RA.rec (motive := fun _ => AV) (fun _ _ _ _ a4 _ _ _ _ _ _ _ _ _ _ _ => a4) (RB.rec (motive := fun _ => RA) (fun _ _ _ _ _ _ _ _ _ _ _ _ _ a13 _ _ => a13) t)
  | 5 => .mk fun t => RA.rec (motive := fun _ => AV) (fun _ _ _ _ _ a5 _ _ _ _ _ _ _ _ _ _ => a5) (RB.rec (motive := fun _ => RA) (fun _ _ _ _ _ _ _ _ _ _ _ _ _ a13 _ _ => a13) t)
  | 6 => .mk fun t => RA.rec (motive := fun _ => AV) (fun _ _ _ _ _ _ a6 _ _ _ _ _ _ _ _ _ => a6) (RB.rec (motive := fun _ => RA) (fun _ _ _ _ _ _ _ _ _ _ _ _ _ a13 _ _ => a13) t)
  | 7 => .mk fun t => RA.rec (motive := fun _ => AV) (fun _ _ _ _ _ _ _ a7 _ _ _ _ _ _ _ _ => a7) (RB.rec (motive := fun _ => RA) (fun _ _ _ _ _ _ _ _ _ _ _ _ _ a13 _ _ => a13) t)
  | 8 => .mk fun t => RA.rec (motive := fun _ => AV) (fun _ _ _ _ _ _ _ _ a8 _ _ _ _ _ _ _ => a8) (RB.rec (motive := fun _ => RA) (fun _ _ _ _ _ _ _ _ _ _ _ _ _ a13 _ _ => a13) t)
  | 9 => .mk fun t => RA.rec (motive := fun _ => AV) (fun _ _ _ _ _ _ _ _ _ a9 _ _ _ _ _ _ => a9) (RB.rec (motive := fun _ => RA) (fun _ _ _ _ _ _ _ _ _ _ _ _ _ a13 _ _ => a13) t)
  | 10 => .mk fun t => RA.rec (motive := fun _ => AV) (fun _ _ _ _ _ _ _ _ _ _ a10 _ _ _ _ _ => a10) (RB.rec (motive := fun _ => RA) (fun _ _ _ _ _ _ _ _ _ _ _ _ _ a13 _ _ => a13) t)
  | 11 => .mk fun t => RA.rec (motive := fun _ => AV) (fun _ _ _ _ _ _ _ _ _ _ _ a11 _ _ _ _ => a11) (RB.rec (motive := fun _ => RA) (fun _ _ _ _ _ _ _ _ _ _ _ _ _ a13 _ _ => a13) t)
  | 12 => .mk fun t => RA.rec (motive := fun _ => AV) (fun _ _ _ _ _ _ _ _ _ _ _ _ a12 _ _ _ => a12) (RB.rec (motive := fun _ => RA) (fun _ _ _ _ _ _ _ _ _ _ _ _ _ a13 _ _ => a13) t)
  | 13 => .mk fun t => RA.rec (motive := fun _ => AV) (fun _ _ _ _ _ _ _ _ _ _ _ _ _ a13 _ _ => a13) (RB.rec (motive := fun _ => RA) (fun _ _ _ _ _ _ _ _ _ _ _ _ _ a13 _ _ => a13) t)
  | 14 => .mk fun t => RA.rec (motive := fun _ => AV) (fun _ _ _ _ _ _ _ _ _ _ _ _ _ _ a14 _ => a14) (RB.rec (motive := fun _ => RA) (fun _ _ _ _ _ _ _ _ _ _ _ _ _ a13 _ _ => a13) t)
  | _ => .mk fun t => RA.rec (motive := fun _ => AV) (fun _ _ _ _ _ _ _ _ _ _ _ _ _ _ _ a15 => a15) (RB.rec (motive := fun _ => RA) (fun _ _ _ _ _ _ _ _ _ _ _ _ _ a13 _ _ => a13) t)
def sk13 (j : Nat) : SK :=
  match j with
  | 0 => .mk fun t v => RB.rec (motive := fun _ => AV → RB) (fun a0 a1 a2 a3 a4 a5 a6 a7 a8 a9 a10 a11 a12 a13 a14 a15 v => RB.mk a0 a1 a2 a3 a4 a5 a6 a7 a8 a9 a10 a11 a12 (RA.rec (motive := fun _ => AV → RA) (fun _ b1 b2 b3 b4 b5 b6 b7 b8 b9 b10 b11 b12 b13 b14 b15 v => RA.mk v b1 b2 b3 b4 b5 b6 b7 b8 b9 b10 b11 b12 b13 b14 b15) a13 v) a14 a15) t v
  | 1 => .mk fun t v => RB.rec (motive := fun _ => AV → RB) (fun a0 a1 a2 a3 a4 a5 a6 a7 a8 a9 a10 a11 a12 a13 a14 a15 v => RB.mk a0 a1 a2 a3 a4 a5 a6 a7 a8 a9 a10 a11 a12 (RA.rec (motive := fun _ => AV → RA) (fun b0 _ b2 b3 b4 b5 b6 b7 b8 b9 b10 b11 b12 b13 b14 b15 v => RA.mk b0 v b2 b3 b4 b5 b6 b7 b8 b9 b10 b11 b12 b13 b14 b15) a13 v) a14 a15) t v
  | 2 => .mk fun t v => RB.rec (motive := fun _ => AV → RB) (fun a0 a1 a2 a3 a4 a5 a6 a7 a8 a9 a10 a11 a12 a13 a14 a15 v => RB.mk a0 a1 a2 a3 a4 a5 a6 a7 a8 a9 a10 a11 a12 (RA.rec (motive := fun _ => AV → RA) (fun b0 b1 _ b3 b4 b5 b6 b7 b8 b9 b10 b11 b12 b13 b14 b15 v => RA.mk b0 b1 v b3 b4 b5 b6 b7 b8 b9 b10 b11 b12 b13 b14 b15) a13 v) a14 a15) t v
  | 3 => .mk fun t v => RB.rec (motive := fun _ => AV → RB) (fun a0 a1 a2 a3 a4 a5 a6 a7 a8 a9 a10 a11 a12 a13 a14 a15 v => RB.mk a0 a1 a2 a3 a4 a5 a6 a7 a8 a9 a10 a11 a12 (RA.rec (motive := fun _ => AV → RA) (fun b0 b1 b2 _ b4 b5 b6 b7 b8 b9 b10 b11 b12 b13 b14 b15 v => RA.mk b0 b1 b2 v b4 b5 b6 b7 b8 b9 b10 b11 b12 b13 b14 b15) a13 v) a14 a15) t v
  | 4 => .mk fun t v => RB.rec (motive := fun _ => AV → RB) (fun a0 a1 a2 a3 a4 a5 a6 a7 a8 a9 a10 a11 a12 a13 a14 a15 v => RB.mk a0 a1 a2 a3 a4 a5 a6 a7 a8 a9 a10 a11 a12 (RA.rec (motive := fun _ => AV → RA) (fun b0 b1 b2 b3 _ b5 b6 b7 b8 b9 b10 b11 b12 b13 b14 b15 v => RA.mk b0 b1 b2 b3 v b5 b6 b7 b8 b9 b10 b11 b12 b13 b14 b15) a13 v) a14 a15) t v
  | 5 => .mk fun t v => RB.rec (motive := fun _ => AV → RB) (fun a0 a1 a2 a3 a4 a5 a6 a7 a8 a9 a10 a11 a12 a13 a14 a15 v => RB.mk a0 a1 a2 a3 a4 a5 a6 a7 a8 a9 a10 a11 a12 (RA.rec (motive := fun _ => AV → RA) (fun b0 b1 b2 b3 b4 _ b6 b7 b8 b9 b10 b11 b12 b13 b14 b15 v => RA.mk b0 b1 b2 b3 b4 v b6 b7 b8 b9 b10 b11 b12 b13 b14 b15) a13 v) a14 a15) t v
  | 6 => .mk fun t v => RB.rec (motive := fun _ => AV → RB) (fun a0 a1 a2 a3 a4 a5 a6 a7 a8 a9 a10 a11 a12 a13 a14 a15 v => RB.mk a0 a1 a2 a3 a4 a5 a6 a7 a8 a9 a10 a11 a12 (RA.rec (motive := fun _ => AV → RA) (fun b0 b1 b2 b3 b4 b5 _ b7 b8 b9 b10 b11 b12 b13 b14 b15 v => RA.mk b0 b1 b2 b3 b4 b5 v b7 b8 b9 b10 b11 b12 b13 b14 b15) a13 v) a14 a15) t v
  | 7 => .mk fun t v => RB.rec (motive := fun _ => AV → RB) (fun a0 a1 a2 a3 a4 a5 a6 a7 a8 a9 a10 a11 a12 a13 a14 a15 v => RB.mk a0 a1 a2 a3 a4 a5 a6 a7 a8 a9 a10 a11 a12 (RA.rec (motive := fun _ => AV → RA) (fun b0 b1 b2 b3 b4 b5 b6 _ b8 b9 b10 b11 b12 b13 b14 b15 v => RA.mk b0 b1 b2 b3 b4 b5 b6 v b8 b9 b10 b11 b12 b13 b14 b15) a13 v) a14 a15) t v
  | 8 => .mk fun t v => RB.rec (motive := fun _ => AV → RB) (fun a0 a1 a2 a3 a4 a5 a6 a7 a8 a9 a10 a11 a12 a13 a14 a15 v => RB.mk a0 a1 a2 a3 a4 a5 a6 a7 a8 a9 a10 a11 a12 (RA.rec (motive := fun _ => AV → RA) (fun b0 b1 b2 b3 b4 b5 b6 b7 _ b9 b10 b11 b12 b13 b14 b15 v => RA.mk b0 b1 b2 b3 b4 b5 b6 b7 v b9 b10 b11 b12 b13 b14 b15) a13 v) a14 a15) t v
  | 9 => .mk fun t v => RB.rec (motive := fun _ => AV → RB) (fun a0 a1 a2 a3 a4 a5 a6 a7 a8 a9 a10 a11 a12 a13 a14 a15 v => RB.mk a0 a1 a2 a3 a4 a5 a6 a7 a8 a9 a10 a11 a12 (RA.rec (motive := fun _ => AV → RA) (fun b0 b1 b2 b3 b4 b5 b6 b7 b8 _ b10 b11 b12 b13 b14 b15 v => RA.mk b0 b1 b2 b3 b4 b5 b6 b7 b8 v b10 b11 b12 b13 b14 b15) a13 v) a14 a15) t v
  | 10 => .mk fun t v => RB.rec (motive := fun _ => AV → RB) (fun a0 a1 a2 a3 a4 a5 a6 a7 a8 a9 a10 a11 a12 a13 a14 a15 v => RB.mk a0 a1 a2 a3 a4 a5 a6 a7 a8 a9 a10 a11 a12 (RA.rec (motive := fun _ => AV → RA) (fun b0 b1 b2 b3 b4 b5 b6 b7 b8 b9 _ b11 b12 b13 b14 b15 v => RA.mk b0 b1 b2 b3 b4 b5 b6 b7 b8 b9 v b11 b12 b13 b14 b15) a13 v) a14 a15) t v
  | 11 => .mk fun t v => RB.rec (motive := fun _ => AV → RB) (fun a0 a1 a2 a3 a4 a5 a6 a7 a8 a9 a10 a11 a12 a13 a14 a15 v => RB.mk a0 a1 a2 a3 a4 a5 a6 a7 a8 a9 a10 a11 a12 (RA.rec (motive := fun _ => AV → RA) (fun b0 b1 b2 b3 b4 b5 b6 b7 b8 b9 b10 _ b12 b13 b14 b15 v => RA.mk b0 b1 b2 b3 b4 b5 b6 b7 b8 b9 b10 v b12 b13 b14 b15) a13 v) a14 a15) t v
  | 12 => .mk fun t v => RB.rec (motive := fun _ => AV → RB) (fun a0 a1 a2 a3 a4 a5 a6 a7 a8 a9 a10 a11 a12 a13 a14 a15 v => RB.mk a0 a1 a2 a3 a4 a5 a6 a7 a8 a9 a10 a11 a12 (RA.rec (motive := fun _ => AV → RA) (fun b0 b1 b2 b3 b4 b5 b6 b7 b8 b9 b10 b11 _ b13 b14 b15 v => RA.mk b0 b1 b2 b3 b4 b5 b6 b7 b8 b9 b10 b11 v b13 b14 b15) a13 v) a14 a15) t v
  | 13 => .mk fun t v => RB.rec (motive := fun _ => AV → RB) (fun a0 a1 a2 a3 a4 a5 a6 a7 a8 a9 a10 a11 a12 a13 a14 a15 v => RB.mk a0 a1 a2 a3 a4 a5 a6 a7 a8 a9 a10 a11 a12 (RA.rec (motive := fun _ => AV → RA) (fun b0 b1 b2 b3 b4 b5 b6 b7 b8 b9 b10 b11 b12 _ b14 b15 v => RA.mk b0 b1 b2 b3 b4 b5 b6 b7 b8 b9 b10 b11 b12 v b14 b15) a13 v) a14 a15) t v
  | 14 => .mk fun t v => RB.rec (motive := fun _ => AV → RB) (fun a0 a1 a2 a3 a4 a5 a6 a7 a8 a9 a10 a11 a12 a13 a14 a15 v => RB.mk a0 a1 a2 a3 a4 a5 a6 a7 a8 a9 a10 a11 a12 (RA.rec (motive := fun _ => AV → RA) (fun b0 b1 b2 b3 b4 b5 b6 b7 b8 b9 b10 b11 b12 b13 _ b15 v => RA.mk b0 b1 b2 b3 b4 b5 b6 b7 b8 b9 b10 b11 b12 b13 v b15) a13 v) a14 a15) t v
  | _ => .mk fun t v => RB.rec (motive := fun _ => AV → RB) (fun a0 a1 a2 a3 a4 a5 a6 a7 a8 a9 a10 a11 a12 a13 a14 a15 v => RB.mk a0 a1 a2 a3 a4 a5 a6 a7 a8 a9 a10 a11 a12 (RA.rec (motive := fun _ => AV → RA) (fun b0 b1 b2 b3 b4 b5 b6 b7 b8 b9 b10 b11 b12 b13 b14 _ v => RA.mk b0 b1 b2 b3 b4 b5 b6 b7 b8 b9 b10 b11 b12 b13 b14 v) a13 v) a14 a15) t v
def gk14 (j : Nat) : GK :=
  match j with
  | 0 => .mk fun t => RA.rec (motive := fun _ => AV) (fun a0 _ _ _ _ _ _ _ _ _ _ _ _ _ _ _ => a0) (RB.rec (motive := fun _ => RA) (fun _ _ _ _ _ _ _ _ _ _ _ _ _ _ a14 _ => a14) t)
  | 1 => .mk fun t => RA.rec (motive := fun _ => AV) (fun _ a1 _ _ _ _ _ _ _ _ _ _ _ _ _ _ => a1) (RB.rec (motive := fun _ => RA) (fun _ _ _ _ _ _ _ _ _ _ _ _ _ _ a14 _ => a14) t)
  | 2 => .mk fun t => RA.rec (motive := fun _ => AV) (fun _ _ a2 _ _ _ _ _ _ _ _ _ _ _ _ _ => a2) (RB.rec (motive := fun _ => RA) (fun _ _ _ _ _ _ _ _ _ _ _ _ _ _ a14 _ => a14) t)
  | 3 => .mk fun t => RA.rec (motive := fun _ => AV) (fun _ _ _ a3 _ _ _ _ _ _ _ _ _ _ _ _ => a3) (RB.rec (motive := fun _ => RA) (fun _ _ _ _ _ _ _ _ _ _ _ _ _ _ a14 _ => a14) t)
  | 4 => .mk fun t => RA.rec (motive := fun _ => AV) (fun _ _ _ _ a4 _ _ _ _ _ _ _ _ _ _ _ => a4) (RB.rec (motive := fun _ => RA) (fun _ _ _ _ _ _ _ _ _ _ _ _ _ _ a14 _ => a14) t)
  | 5 => .mk fun t => RA.rec (motive := fun _ => AV) (fun _ _ _ _ _ a5 _ _ _ _ _ _ _ _ _ _ => a5) (RB.rec (motive := fun _ => RA) (fun _ _ _ _ _ _ _ _ _ _ _ _ _ _ a14 _ => a14) t)
  | 6 => .mk fun t => RA.rec (motive := fun _ => AV) (fun _ _ _ _ _ _ a6 _ _ _ _ _ _ _ _ _ => a6) (RB.rec (motive := fun _ => RA) (fun _ _ _ _ _ _ _ _ _ _ _ _ _ _ a14 _ => a14) t)
  | 7 => .mk fun t => RA.rec (motive := fun _ => AV) (fun _ _ _ _ _ _ _ a7 _ _ _ _ _ _ _ _ => a7) (RB.rec (motive := fun _ => RA) (fun _ _ _ _ _ _ _ _ _ _ _ _ _ _ a14 _ => a14) t)
  | 8 => .mk fun t => RA.rec (motive := fun _ => AV) (fun _ _ _ _ _ _ _ _ a8 _ _ _ _ _ _ _ => a8) (RB.rec (motive := fun _ => RA) (fun _ _ _ _ _ _ _ _ _ _ _ _ _ _ a14 _ => a14) t)
  | 9 => .mk fun t => RA.rec (motive := fun _ => AV) (fun _ _ _ _ _ _ _ _ _ a9 _ _ _ _ _ _ => a9) (RB.rec (motive := fun _ => RA) (fun _ _ _ _ _ _ _ _ _ _ _ _ _ _ a14 _ => a14) t)
  | 10 => .mk fun t => RA.rec (motive := fun _ => AV) (fun _ _ _ _ _ _ _ _ _ _ a10 _ _ _ _ _ => a10) (RB.rec (motive := fun _ => RA) (fun _ _ _ _ _ _ _ _ _ _ _ _ _ _ a14 _ => a14) t)
  | 11 => .mk fun t => RA.rec (motive := fun _ => AV) (fun _ _ _ _ _ _ _ _ _ _ _ a11 _ _ _ _ => a11) (RB.rec (motive := fun _ => RA) (fun _ _ _ _ _ _ _ _ _ _ _ _ _ _ a14 _ => a14) t)
  | 12 => .mk fun t => RA.rec (motive := fun _ => AV) (fun _ _ _ _ _ _ _ _ _ _ _ _ a12 _ _ _ => a12) (RB.rec (motive := fun _ => RA) (fun _ _ _ _ _ _ _ _ _ _ _ _ _ _ a14 _ => a14) t)
  | 13 => .mk fun t => RA.rec (motive := fun _ => AV) (fun _ _ _ _ _ _ _ _ _ _ _ _ _ a13 _ _ => a13) (RB.rec (motive := fun _ => RA) (fun _ _ _ _ _ _ _ _ _ _ _ _ _ _ a14 _ => a14) t)
  | 14 => .mk fun t => RA.rec (motive := fun _ => AV) (fun _ _ _ _ _ _ _ _ _ _ _ _ _ _ a14 _ => a14) (RB.rec (motive := fun _ => RA) (fun _ _ _ _ _ _ _ _ _ _ _ _ _ _ a14 _ => a14) t)
  | _ => .mk fun t => RA.rec (motive := fun _ => AV) (fun _ _ _ _ _ _ _ _ _ _ _ _ _ _ _ a15 => a15) (RB.rec (motive := fun _ => RA) (fun _ _ _ _ _ _ _ _ _ _ _ _ _ _ a14 _ => a14) t)
def sk14 (j : Nat) : SK :=
  match j with
  | 0 => .mk fun t v => RB.rec (motive := fun _ => AV → RB) (fun a0 a1 a2 a3 a4 a5 a6 a7 a8 a9 a10 a11 a12 a13 a14 a15 v => RB.mk a0 a1 a2 a3 a4 a5 a6 a7 a8 a9 a10 a11 a12 a13 (RA.rec (motive := fun _ => AV → RA) (fun _ b1 b2 b3 b4 b5 b6 b7 b8 b9 b10 b11 b12 b13 b14 b15 v => RA.mk v b1 b2 b3 b4 b5 b6 b7 b8 b9 b10 b11 b12 b13 b14 b15) a14 v) a15) t v
  | 1 => .mk fun t v => RB.rec (motive := fun _ => AV → RB) (fun a0 a1 a2 a3 a4 a5 a6 a7 a8 a9 a10 a11 a12 a13 a14 a15 v => RB.mk a0 a1 a2 a3 a4 a5 a6 a7 a8 a9 a10 a11 a12 a13 (RA.rec (motive := fun _ => AV → RA) (fun b0 _ b2 b3 b4 b5 b6 b7 b8 b9 b10 b11 b12 b13 b14 b15 v => RA.mk b0 v b2 b3 b4 b5 b6 b7 b8 b9 b10 b11 b12 b13 b14 b15) a14 v) a15) t v
  | 2 => .mk fun t v => RB.rec (motive := fun _ => AV → RB) (fun a0 a1 a2 a3 a4 a5 a6 a7 a8 a9 a10 a11 a12 a13 a14 a15 v => RB.mk a0 a1 a2 a3 a4 a5 a6 a7 a8 a9 a10 a11 a12 a13 (RA.rec (motive := fun _ => AV → RA) (fun b0 b1 _ b3 b4 b5 b6 b7 b8 b9 b10 b11 b12 b13 b14 b15 v => RA.mk b0 b1 v b3 b4 b5 b6 b7 b8 b9 b10 b11 b12 b13 b14 b15) a14 v) a15) t v
  | 3 => .mk fun t v => RB.rec (motive := fun _ => AV → RB) (fun a0 a1 a2 a3 a4 a5 a6 a7 a8 a9 a10 a11 a12 a13 a14 a15 v => RB.mk a0 a1 a2 a3 a4 a5 a6 a7 a8 a9 a10 a11 a12 a13 (RA.rec (motive := fun _ => AV → RA) (fun b0 b1 b2 _ b4 b5 b6 b7 b8 b9 b10 b11 b12 b13 b14 b15 v => RA.mk b0 b1 b2 v b4 b5 b6 b7 b8 b9 b10 b11 b12 b13 b14 b15) a14 v) a15) t v
  | 4 => .mk fun t v => RB.rec (motive := fun _ => AV → RB) (fun a0 a1 a2 a3 a4 a5 a6 a7 a8 a9 a10 a11 a12 a13 a14 a15 v => RB.mk a0 a1 a2 a3 a4 a5 a6 a7 a8 a9 a10 a11 a12 a13 (RA.rec (motive := fun _ => AV → RA) (fun b0 b1 b2 b3 _ b5 b6 b7 b8 b9 b10 b11 b12 b13 b14 b15 v => RA.mk b0 b1 b2 b3 v b5 b6 b7 b8 b9 b10 b11 b12 b13 b14 b15) a14 v) a15) t v
  | 5 => .mk fun t v => RB.rec (motive := fun _ => AV → RB) (fun a0 a1 a2 a3 a4 a5 a6 a7 a8 a9 a10 a11 a12 a13 a14 a15 v => RB.mk a0 a1 a2 a3 a4 a5 a6 a7 a8 a9 a10 a11 a12 a13 (RA.rec (motive := fun _ => AV → RA) (fun b0 b1 b2 b3 b4 _ b6 b7 b8 b9 b10 b11 b12 b13 b14 b15 v => RA.mk b0 b1 b2 b3 b4 v b6 b7 b8 b9 b10 b11 b12 b13 b14 b15) a14 v) a15) t v
  | 6 => .mk fun t v => RB.rec (motive := fun _ => AV → RB) (fun a0 a1 a2 a3 a4 a5 a6 a7 a8 a9 a10 a11 a12 a13 a14 a15 v => RB.mk a0 a1 a2 a3 a4 a5 a6 a7 a8 a9 a10 a11 a12 a13 (RA.rec (motive := fun _ => AV → RA) (fun b0 b1 b2 b3 b4 b5 _ b7 b8 b9 b10 b11 b12 b13 b14 b15 v => RA.mk b0 b1 b2 b3 b4 b5 v b7 b8 b9 b10 b11 b12 b13 b14 b15) a14 v) a15) t v
  | 7 => .mk fun t v => RB.rec (motive := fun _ => AV → RB) (fun a0 a1 a2 a3 a4 a5 a6 a7 a8 a9 a10 a11 a12 a13 a14 a15 v => RB.mk a0 a1 a2 a3 a4 a5 a6 a7 a8 a9 a10 a11 a12 a13 (RA.rec (motive := fun _ => AV → RA) (fun b0 b1 b2 b3 b4 b5 b6 _ b8 b9 b10 b11 b12 b13 b14 b15 v => RA.mk b0 b1 b2 b3 b4 b5 b6 v b8 b9 b10 b11 b12 b13 b14 b15) a14 v) a15) t v
  | 8 => .mk fun t v => RB.rec (motive := fun _ => AV → RB) (fun a0 a1 a2 a3 a4 a5 a6 a7 a8 a9 a10 a11 a12 a13 a14 a15 v => RB.mk a0 a1 a2 a3 a4 a5 a6 a7 a8 a9 a10 a11 a12 a13 (RA.rec (motive := fun _ => AV → RA) (fun b0 b1 b2 b3 b4 b5 b6 b7 _ b9 b10 b11 b12 b13 b14 b15 v => RA.mk b0 b1 b2 b3 b4 b5 b6 b7 v b9 b10 b11 b12 b13 b14 b15) a14 v) a15) t v
  | 9 => .mk fun t v => RB.rec (motive := fun _ => AV → RB) (fun a0 a1 a2 a3 a4 a5 a6 a7 a8 a9 a10 a11 a12 a13 a14 a15 v => RB.mk a0 a1 a2 a3 a4 a5 a6 a7 a8 a9 a10 a11 a12 a13 (RA.rec (motive := fun _ => AV → RA) (fun b0 b1 b2 b3 b4 b5 b6 b7 b8 _ b10 b11 b12 b13 b14 b15 v => RA.mk b0 b1 b2 b3 b4 b5 b6 b7 b8 v b10 b11 b12 b13 b14 b15) a14 v) a15) t v
  | 10 => .mk fun t v => RB.rec (motive := fun _ => AV → RB) (fun a0 a1 a2 a3 a4 a5 a6 a7 a8 a9 a10 a11 a12 a13 a14 a15 v => RB.mk a0 a1 a2 a3 a4 a5 a6 a7 a8 a9 a10 a11 a12 a13 (RA.rec (motive := fun _ => AV → RA) (fun b0 b1 b2 b3 b4 b5 b6 b7 b8 b9 _ b11 b12 b13 b14 b15 v => RA.mk b0 b1 b2 b3 b4 b5 b6 b7 b8 b9 v b11 b12 b13 b14 b15) a14 v) a15) t v
  | 11 => .mk fun t v => RB.rec (motive := fun _ => AV → RB) (fun a0 a1 a2 a3 a4 a5 a6 a7 a8 a9 a10 a11 a12 a13 a14 a15 v => RB.mk a0 a1 a2 a3 a4 a5 a6 a7 a8 a9 a10 a11 a12 a13 (RA.rec (motive := fun _ => AV → RA) (fun b0 b1 b2 b3 b4 b5 b6 b7 b8 b9 b10 _ b12 b13 b14 b15 v => RA.mk b0 b1 b2 b3 b4 b5 b6 b7 b8 b9 b10 v b12 b13 b14 b15) a14 v) a15) t v
  | 12 => .mk fun t v => RB.rec (motive := fun _ => AV → RB) (fun a0 a1 a2 a3 a4 a5 a6 a7 a8 a9 a10 a11 a12 a13 a14 a15 v => RB.mk a0 a1 a2 a3 a4 a5 a6 a7 a8 a9 a10 a11 a12 a13 (RA.rec (motive := fun _ => AV → RA) (fun b0 b1 b2 b3 b4 b5 b6 b7 b8 b9 b10 b11 _ b13 b14 b15 v => RA.mk b0 b1 b2 b3 b4 b5 b6 b7 b8 b9 b10 b11 v b13 b14 b15) a14 v) a15) t v
  | 13 => .mk fun t v => RB.rec (motive := fun _ => AV → RB) (fun a0 a1 a2 a3 a4 a5 a6 a7 a8 a9 a10 a11 a12 a13 a14 a15 v => RB.mk a0 a1 a2 a3 a4 a5 a6 a7 a8 a9 a10 a11 a12 a13 (RA.rec (motive := fun _ => AV → RA) (fun b0 b1 b2 b3 b4 b5 b6 b7 b8 b9 b10 b11 b12 _ b14 b15 v => RA.mk b0 b1 b2 b3 b4 b5 b6 b7 b8 b9 b10 b11 b12 v b14 b15) a14 v) a15) t v
  | 14 => .mk fun t v => RB.rec (motive := fun _ => AV → RB) (fun a0 a1 a2 a3 a4 a5 a6 a7 a8 a9 a10 a11 a12 a13 a14 a15 v => RB.mk a0 a1 a2 a3 a4 a5 a6 a7 a8 a9 a10 a11 a12 a13 (RA.rec (motive := fun _ => AV → RA) (fun b0 b1 b2 b3 b4 b5 b6 b7 b8 b9 b10 b11 b12 b13 _ b15 v => RA.mk b0 b1 b2 b3 b4 b5 b6 b7 b8 b9 b10 b11 b12 b13 v b15) a14 v) a15) t v
  | _ => .mk fun t v => RB.rec (motive := fun _ => AV → RB) (fun a0 a1 a2 a3 a4 a5 a6 a7 a8 a9 a10 a11 a12 a13 a14 a15 v => RB.mk a0 a1 a2 a3 a4 a5 a6 a7 a8 a9 a10 a11 a12 a13 (RA.rec (motive := fun _ => AV → RA) (fun b0 b1 b2 b3 b4 b5 b6 b7 b8 b9 b10 b11 b12 b13 b14 _ v => RA.mk b0 b1 b2 b3 b4 b5 b6 b7 b8 b9 b10 b11 b12 b13 b14 v) a14 v) a15) t v
def gk15 (j : Nat) : GK :=
  match j with
  | 0 => .mk fun t => RA.rec (motive := fun _ => AV) (fun a0 _ _ _ _ _ _ _ _ _ _ _ _ _ _ _ => a0) (RB.rec (motive := fun _ => RA) (fun _ _ _ _ _ _ _ _ _ _ _ _ _ _ _ a15 => a15) t)
  | 1 => .mk fun t => RA.rec (motive := fun _ => AV) (fun _ a1 _ _ _ _ _ _ _ _ _ _ _ _ _ _ => a1) (RB.rec (motive := fun _ => RA) (fun _ _ _ _ _ _ _ _ _ _ _ _ _ _ _ a15 => a15) t)
  | 2 => .mk fun t => RA.rec (motive := fun _ => AV) (fun _ _ a2 _ _ _ _ _ _ _ _ _ _ _ _ _ => a2) (RB.rec (motive := fun _ => RA) (fun _ _ _ _ _ _ _ _ _ _ _ _ _ _ _ a15 => a15) t)
  | 3 => .mk fun t => RA.rec (motive := fun _ => AV) (fun _ _ _ a3 _ _ _ _ _ _ _ _ _ _ _ _ => a3) (RB.rec (motive := fun _ => RA) (fun _ _ _ _ _ _ _ _ _ _ _ _ _ _ _ a15 => a15) t)
  | 4 => .mk fun t => RA.rec (motive := fun _ => AV) (fun _ _ _ _ a4 _ _ _ _ _ _ _ _ _ _ _ => a4) (RB.rec (motive := fun _ => RA) (fun _ _ _ _ _ _ _ _ _ _ _ _ _ _ _ a15 => a15) t)
  | 5 => .mk fun t => RA.rec (motive := fun _ => AV) (fun _ _ _ _ _ a5 _ _ _ _ _ _ _ _ _ _ => a5) (RB.rec (motive := fun _ => RA) (fun _ _ _ _ _ _ _ _ _ _ _ _ _ _ _ a15 => a15) t)
  | 6 => .mk fun t => RA.rec (motive := fun _ => AV) (fun _ _ _ _ _ _ a6 _ _ _ _ _ _ _ _ _ => a6) (RB.rec (motive := fun _ => RA) (fun _ _ _ _ _ _ _ _ _ _ _ _ _ _ _ a15 => a15) t)
  | 7 => .mk fun t => RA.rec (motive := fun _ => AV) (fun _ _ _ _ _ _ _ a7 _ _ _ _ _ _ _ _ => a7) (RB.rec (motive := fun _ => RA) (fun _ _ _ _ _ _ _ _ _ _ _ _ _ _ _ a15 => a15) t)
  | 8 => .mk fun t => RA.rec (motive := fun _ => AV) (fun _ _ _ _ _ _ _ _ a8 _ _ _ _ _ _ _ => a8) (RB.rec (motive := fun _ => RA) (fun _ _ _ _ _ _ _ _ _ _ _ _ _ _ _ a15 => a15) t)
  | 9 => .mk fun t => RA.rec (motive := fun _ => AV) (fun _ _ _ _ _ _ _ _ _ a9 _ _ _ _ _ _ => a9) (RB.rec (motive := fun _ => RA) (fun _ _ _ _ _ _ _ _ _ _ _ _ _ _ _ a15 => a15) t)
  | 10 => .mk fun t => RA.rec (motive := fun _ => AV) (fun _ _ _ _ _ _ _ _ _ _ a10 _ _ _ _ _ => a10) (RB.rec (motive := fun _ => RA) (fun _ _ _ _ _ _ _ _ _ _ _ _ _ _ _ a15 => a15) t)
  | 11 => .mk fun t => RA.rec (motive := fun _ => AV) (fun _ _ _ _ _ _ _ _ _ _ _ a11 _ _ _ _ => a11) (RB.rec (motive := fun _ => RA) (fun _ _ _ _ _ _ _ _ _ _ _ _ _ _ _ a15 => a15) t)
  | 12 => .mk fun t => RA.rec (motive := fun _ => AV) (fun _ _ _ _ _ _ _ _ _ _ _ _ a12 _ _ _ => a12) (RB.rec (motive := fun _ => RA) (fun _ _ _ _ _ _ _ _ _ _ _ _ _ _ _ a15 => a15) t)
  | 13 => .mk fun t => RA.rec (motive := fun _ => AV) (fun _ _ _ _ _ _ _ _ _ _ _ _ _ a13 _ _ => a13) (RB.rec (motive := fun _ => RA) (fun _ _ _ _ _ _ _ _ _ _ _ _ _ _ _ a15 => a15) t)
  | 14 => .mk fun t => RA.rec (motive := fun _ => AV) (fun _ _ _ _ _ _ _ _ _ _ _ _ _ _ a14 _ => a14) (RB.rec (motive := fun _ => RA) (fun _ _ _ _ _ _ _ _ _ _ _ _ _ _ _ a15 => a15) t)
  | _ => .mk fun t => RA.rec (motive := fun _ => AV) (fun _ _ _ _ _ _ _ _ _ _ _ _ _ _ _ a15 => a15) (RB.rec (motive := fun _ => RA) (fun _ _ _ _ _ _ _ _ _ _ _ _ _ _ _ a15 => a15) t)
def sk15 (j : Nat) : SK :=
  match j with
  | 0 => .mk fun t v => RB.rec (motive := fun _ => AV → RB) (fun a0 a1 a2 a3 a4 a5 a6 a7 a8 a9 a10 a11 a12 a13 a14 a15 v => RB.mk a0 a1 a2 a3 a4 a5 a6 a7 a8 a9 a10 a11 a12 a13 a14 (RA.rec (motive := fun _ => AV → RA) (fun _ b1 b2 b3 b4 b5 b6 b7 b8 b9 b10 b11 b12 b13 b14 b15 v => RA.mk v b1 b2 b3 b4 b5 b6 b7 b8 b9 b10 b11 b12 b13 b14 b15) a15 v)) t v
  | 1 => .mk fun t v => RB.rec (motive := fun _ => AV → RB) (fun a0 a1 a2 a3 a4 a5 a6 a7 a8 a9 a10 a11 a12 a13 a14 a15 v => RB.mk a0 a1 a2 a3 a4 a5 a6 a7 a8 a9 a10 a11 a12 a13 a14 (RA.rec (motive := fun _ => AV → RA) (fun b0 _ b2 b3 b4 b5 b6 b7 b8 b9 b10 b11 b12 b13 b14 b15 v => RA.mk b0 v b2 b3 b4 b5 b6 b7 b8 b9 b10 b11 b12 b13 b14 b15) a15 v)) t v
  | 2 => .mk fun t v => RB.rec (motive := fun _ => AV → RB) (fun a0 a1 a2 a3 a4 a5 a6 a7 a8 a9 a10 a11 a12 a13 a14 a15 v => RB.mk a0 a1 a2 a3 a4 a5 a6 a7 a8 a9 a10 a11 a12 a13 a14 (RA.rec (motive := fun _ => AV → RA) (fun b0 b1 _ b3 b4 b5 b6 b7 b8 b9 b10 b11 b12 b13 b14 b15 v => RA.mk b0 b1 v b3 b4 b5 b6 b7 b8 b9 b10 b11 b12 b13 b14 b15) a15 v)) t v
  | 3 => .mk fun t v => RB.rec (motive := fun _ => AV → RB) (fun a0 a1 a2 a3 a4 a5 a6 a7 a8 a9 a10 a11 a12 a13 a14 a15 v => RB.mk a0 a1 a2 a3 a4 a5 a6 a7 a8 a9 a10 a11 a12 a13 a14 (RA.rec (motive := fun _ => AV → RA) (fun b0 b1 b2 _ b4 b5 b6 b7 b8 b9 b10 b11 b12 b13 b14 b15 v => RA.mk b0 b1 b2 v b4 b5 b6 b7 b8 b9 b10 b11 b12 b13 b14 b15) a15 v)) t v
  | 4 => .mk fun t v => RB.rec (motive := fun _ => AV → RB) (fun a0 a1 a2 a3 a4 a5 a6 a7 a8 a9 a10 a11 a12 a13 a14 a15 v => RB.mk a0 a1 a2 a3 a4 a5 a6 a7 a8 a9 a10 a11 a12 a13 a14 (RA.rec (motive := fun _ => AV → RA) (fun b0 b1 b2 b3 _ b5 b6 b7 b8 b9 b10 b11 b12 b13 b14 b15 v => RA.mk b0 b1 b2 b3 v b5 b6 b7 b8 b9 b10 b11 b12 b13 b14 b15) a15 v)) t v
  | 5 => .mk fun t v => RB.rec (motive := fun _ => AV → RB) (fun a0 a1 a2 a3 a4 a5 a6 a7 a8 a9 a10 a11 a12 a13 a14 a15 v => RB.mk a0 a1 a2 a3 a4 a5 a6 a7 a8 a9 a10 a11 a12 a13 a14 (RA.rec (motive := fun _ => AV → RA) (fun b0 b1 b2 b3 b4 _ b6 b7 b8 b9 b10 b11 b12 b13 b14 b15 v => RA.mk b0 b1 b2 b3 b4 v b6 b7 b8 b9 b10 b11 b12 b13 b14 b15) a15 v)) t v
  | 6 => .mk fun t v => RB.rec (motive := fun _ => AV → RB) (fun a0 a1 a2 a3 a4 a5 a6 a7 a8 a9 a10 a11 a12 a13 a14 a15 v => RB.mk a0 a1 a2 a3 a4 a5 a6 a7 a8 a9 a10 a11 a12 a13 a14 (RA.rec (motive := fun _ => AV → RA) (fun b0 b1 b2 b3 b4 b5 _ b7 b8 b9 b10 b11 b12 b13 b14 b15 v => RA.mk b0 b1 b2 b3 b4 b5 v b7 b8 b9 b10 b11 b12 b13 b14 b15) a15 v)) t v
  | 7 => .mk fun t v => RB.rec (motive := fun _ => AV → RB) (fun a0 a1 a2 a3 a4 a5 a6 a7 a8 a9 a10 a11 a12 a13 a14 a15 v => RB.mk a0 a1 a2 a3 a4 a5 a6 a7 a8 a9 a10 a11 a12 a13 a14 (RA.rec (motive := fun _ => AV → RA) (fun b0 b1 b2 b3 b4 b5 b6 _ b8 b9 b10 b11 b12 b13 b14 b15 v => RA.mk b0 b1 b2 b3 b4 b5 b6 v b8 b9 b10 b11 b12 b13 b14 b15) a15 v)) t v
  | 8 => .mk fun t v => RB.rec (motive := fun _ => AV → RB) (fun a0 a1 a2 a3 a4 a5 a6 a7 a8 a9 a10 a11 a12 a13 a14 a15 v => RB.mk a0 a1 a2 a3 a4 a5 a6 a7 a8 a9 a10 a11 a12 a13 a14 (RA.rec (motive := fun _ => AV → RA) (fun b0 b1 b2 b3 b4 b5 b6 b7 _ b9 b10 b11 b12 b13 b14 b15 v => RA.mk b0 b1 b2 b3 b4 b5 b6 b7 v b9 b10 b11 b12 b13 b14 b15) a15 v)) t v
  | 9 => .mk fun t v => RB.rec (motive := fun _ => AV → RB) (fun a0 a1 a2 a3 a4 a5 a6 a7 a8 a9 a10 a11 a12 a13 a14 a15 v => RB.mk a0 a1 a2 a3 a4 a5 a6 a7 a8 a9 a10 a11 a12 a13 a14 (RA.rec (motive := fun _ => AV → RA) (fun b0 b1 b2 b3 b4 b5 b6 b7 b8 _ b10 b11 b12 b13 b14 b15 v => RA.mk b0 b1 b2 b3 b4 b5 b6 b7 b8 v b10 b11 b12 b13 b14 b15) a15 v)) t v
  | 10 => .mk fun t v => RB.rec (motive := fun _ => AV → RB) (fun a0 a1 a2 a3 a4 a5 a6 a7 a8 a9 a10 a11 a12 a13 a14 a15 v => RB.mk a0 a1 a2 a3 a4 a5 a6 a7 a8 a9 a10 a11 a12 a13 a14 (RA.rec (motive := fun _ => AV → RA) (fun b0 b1 b2 b3 b4 b5 b6 b7 b8 b9 _ b11 b12 b13 b14 b15 v => RA.mk b0 b1 b2 b3 b4 b5 b6 b7 b8 b9 v b11 b12 b13 b14 b15) a15 v)) t v
  | 11 => .mk fun t v => RB.rec (motive := fun _ => AV → RB) (fun a0 a1 a2 a3 a4 a5 a6 a7 a8 a9 a10 a11 a12 a13 a14 a15 v => RB.mk a0 a1 a2 a3 a4 a5 a6 a7 a8 a9 a10 a11 a12 a13 a14 (RA.rec (motive := fun _ => AV → RA) (fun b0 b1 b2 b3 b4 b5 b6 b7 b8 b9 b10 _ b12 b13 b14 b15 v => RA.mk b0 b1 b2 b3 b4 b5 b6 b7 b8 b9 b10 v b12 b13 b14 b15) a15 v)) t v
  | 12 => .mk fun t v => RB.rec (motive := fun _ => AV → RB) (fun a0 a1 a2 a3 a4 a5 a6 a7 a8 a9 a10 a11 a12 a13 a14 a15 v => RB.mk a0 a1 a2 a3 a4 a5 a6 a7 a8 a9 a10 a11 a12 a13 a14 (RA.rec (motive := fun _ => AV → RA) (fun b0 b1 b2 b3 b4 b5 b6 b7 b8 b9 b10 b11 _ b13 b14 b15 v => RA.mk b0 b1 b2 b3 b4 b5 b6 b7 b8 b9 b10 b11 v b13 b14 b15) a15 v)) t v
  | 13 => .mk fun t v => RB.rec (motive := fun _ => AV → RB) (fun a0 a1 a2 a3 a4 a5 a6 a7 a8 a9 a10 a11 a12 a13 a14 a15 v => RB.mk a0 a1 a2 a3 a4 a5 a6 a7 a8 a9 a10 a11 a12 a13 a14 (RA.rec (motive := fun _ => AV → RA) (fun b0 b1 b2 b3 b4 b5 b6 b7 b8 b9 b10 b11 b12 _ b14 b15 v => RA.mk b0 b1 b2 b3 b4 b5 b6 b7 b8 b9 b10 b11 b12 v b14 b15) a15 v)) t v
  | 14 => .mk fun t v => RB.rec (motive := fun _ => AV → RB) (fun a0 a1 a2 a3 a4 a5 a6 a7 a8 a9 a10 a11 a12 a13 a14 a15 v => RB.mk a0 a1 a2 a3 a4 a5 a6 a7 a8 a9 a10 a11 a12 a13 a14 (RA.rec (motive := fun _ => AV → RA) (fun b0 b1 b2 b3 b4 b5 b6 b7 b8 b9 b10 b11 b12 b13 _ b15 v => RA.mk b0 b1 b2 b3 b4 b5 b6 b7 b8 b9 b10 b11 b12 b13 v b15) a15 v)) t v
  | _ => .mk fun t v => RB.rec (motive := fun _ => AV → RB) (fun a0 a1 a2 a3 a4 a5 a6 a7 a8 a9 a10 a11 a12 a13 a14 a15 v => RB.mk a0 a1 a2 a3 a4 a5 a6 a7 a8 a9 a10 a11 a12 a13 a14 (RA.rec (motive := fun _ => AV → RA) (fun b0 b1 b2 b3 b4 b5 b6 b7 b8 b9 b10 b11 b12 b13 b14 _ v => RA.mk b0 b1 b2 b3 b4 b5 b6 b7 b8 b9 b10 b11 b12 b13 b14 v) a15 v)) t v
def gk (k : Nat) : GK :=
  match k / 16 with
  | 0 => gk0 (k % 16)
  | 1 => gk1 (k % 16)
  | 2 => gk2 (k % 16)
  | 3 => gk3 (k % 16)
  | 4 => gk4 (k % 16)
  | 5 => gk5 (k % 16)
  | 6 => gk6 (k % 16)
  | 7 => gk7 (k % 16)
  | 8 => gk8 (k % 16)
  | 9 => gk9 (k % 16)
  | 10 => gk10 (k % 16)
  | 11 => gk11 (k % 16)
  | 12 => gk12 (k % 16)
  | 13 => gk13 (k % 16)
  | 14 => gk14 (k % 16)
  | _ => gk15 (k % 16)
def sk (k : Nat) : SK :=
  match k / 16 with
  | 0 => sk0 (k % 16)
  | 1 => sk1 (k % 16)
  | 2 => sk2 (k % 16)
  | 3 => sk3 (k % 16)
  | 4 => sk4 (k % 16)
  | 5 => sk5 (k % 16)
  | 6 => sk6 (k % 16)
  | 7 => sk7 (k % 16)
  | 8 => sk8 (k % 16)
  | 9 => sk9 (k % 16)
  | 10 => sk10 (k % 16)
  | 11 => sk11 (k % 16)
  | 12 => sk12 (k % 16)
  | 13 => sk13 (k % 16)
  | 14 => sk14 (k % 16)
  | _ => sk15 (k % 16)
theorem gk_run {k : Nat} (hk : k < 256) (t : TT2) : (gk k).run t = (pA (k % 16)).run ((pB (k / 16)).run t) := by
  unfold gk
  have h1 : k / 16 < 16 := by omega
  have h2 : k % 16 < 16 := by omega
  generalize k / 16 = i at h1
  generalize k % 16 = j at h2
  rcases lt16 h1 with rfl | rfl | rfl | rfl | rfl | rfl | rfl | rfl | rfl | rfl | rfl | rfl | rfl | rfl | rfl | rfl <;> rcases lt16 h2 with rfl | rfl | rfl | rfl | rfl | rfl | rfl | rfl | rfl | rfl | rfl | rfl | rfl | rfl | rfl | rfl <;> rfl
theorem sk_run {k : Nat} (hk : k < 256) (t : TT2) (v : AV) : (sk k).run t v = (sB (k / 16)).run t ((sA (k % 16)).run ((pB (k / 16)).run t) v) := by
  unfold sk
  have h1 : k / 16 < 16 := by omega
  have h2 : k % 16 < 16 := by omega
  generalize k / 16 = i at h1
  generalize k % 16 = j at h2
  obtain ⟨_, _, _, _, _, _, _, _, _, _, _, _, _, _, _, _⟩ := t
  rcases lt16 h1 with rfl | rfl | rfl | rfl | rfl | rfl | rfl | rfl | rfl | rfl | rfl | rfl | rfl | rfl | rfl | rfl <;> rcases lt16 h2 with rfl | rfl | rfl | rfl | rfl | rfl | rfl | rfl | rfl | rfl | rfl | rfl | rfl | rfl | rfl | rfl <;> rfl
theorem gk_sk {k j : Nat} (hk : k < 256) (hj : j < 256) (t : TT2) (v : AV) : (gk k).run ((sk j).run t v) = if k = j then v else (gk k).run t := by
  rw [gk_run hk, sk_run hj, gk_run hk, pB_s (by omega) (by omega)]
  by_cases h1 : k / 16 = j / 16
  · rw [if_pos h1, pA_s (by omega) (by omega)]
    by_cases h2 : k % 16 = j % 16
    · rw [if_pos h2, if_pos (by omega)]
    · rw [if_neg h2, if_neg (by omega), h1]
  · rw [if_neg h1, if_neg (by omega)]
def r0 : RA := .mk (.tup []) (.tup []) (.tup []) (.tup []) (.tup []) (.tup []) (.tup []) (.tup []) (.tup []) (.tup []) (.tup []) (.tup []) (.tup []) (.tup []) (.tup []) (.tup [])
def t0 : TT2 := .mk r0 r0 r0 r0 r0 r0 r0 r0 r0 r0 r0 r0 r0 r0 r0 r0
theorem gk_t0 {k : Nat} (hk : k < 256) : (gk k).run t0 = .tup [] := by
  rw [gk_run hk]
  have h1 : (pB (k / 16)).run t0 = r0 := by
    have h : k / 16 < 16 := by omega
    generalize k / 16 = i at h
    rcases lt16 h with rfl | rfl | rfl | rfl | rfl | rfl | rfl | rfl | rfl | rfl | rfl | rfl | rfl | rfl | rfl | rfl <;> rfl
  rw [h1]
  have h : k % 16 < 16 := by omega
  generalize k % 16 = i at h
  rcases lt16 h with rfl | rfl | rfl | rfl | rfl | rfl | rfl | rfl | rfl | rfl | rfl | rfl | rfl | rfl | rfl | rfl <;> rfl
def Agr (n : Nat) (t : TT2) (tm : Tm) : Prop := tm.length = n ∧ ∀ k, k < n → (gk k).run t = Tm.at tm k
def sdK (d : Option Nat) : SK :=
  match d with
  | some d => sk d
  | none => .mk fun t _ => t
theorem Agr.put {n : Nat} {t : TT2} {tm : Tm} (ag : Agr n t tm) (hn : n ≤ 256) (d : Option Nat) (v : AV) (hd : (match d with | some d => Nat.blt d n | none => true) = true) :
    Agr n ((sdK d).run t v) (putD tm d v) := by
  cases d with
  | none => exact ag
  | some d =>
    have hd' : d < n := by simpa [Nat.blt_eq] using hd
    refine ⟨by simp [putD, Tm.put_length, ag.1], fun k hk => ?_⟩
    show (gk k).run ((sk d).run t v) = _
    rw [gk_sk (by omega) (by omega), ag.2 k hk]
    rw [Tm.at_eq, Tm.at_eq]
    simp only [putD, Tm.put_get, ag.1]
    by_cases e : k = d
    · subst e; simp [hk]
    · simp [e]
def gxK : Operand → GK
  | .tmp k => gk k
  | .const v => .mk fun _ => ofConst v
  | .func f => .mk fun _ => .fn f [] []
  | .global _ => .mk fun _ => .dead
theorem gxK_run {n : Nat} {t : TT2} {tm : Tm} (ag : Agr n t tm) (x : Operand) (h : okX n x = true) : (gxK x).run t = evX tm x := by
  cases x with
  | tmp k => exact ag.2 k (by simpa [okX, Nat.blt_eq] using h)
  | _ => rfl
/-- The temporaries as a list. -/
def toLK (n : Nat) (t : TT2) : Tm := (List.range n).map fun k => (gk k).run t
theorem toLK_eq {n : Nat} {t : TT2} {tm : Tm} (ag : Agr n t tm) : toLK n t = tm := by
  apply List.ext_getElem?
  intro i
  unfold toLK
  rw [List.getElem?_map]
  by_cases hi : i < n
  · rw [List.getElem?_range hi, Option.map_some, ag.2 i hi, Tm.at_eq]
    have : i < tm.length := by rw [ag.1]; exact hi
    rw [List.getElem?_eq_getElem this]; rfl
  · rw [List.getElem?_eq_none (by simpa using hi), List.getElem?_eq_none (by rw [ag.1]; omega)]; rfl
inductive LK where | mk (f : TT2 → List AV)
def LK.run (g : LK) (t : TT2) : List AV := LK.rec (motive := fun _ => List AV) (fun f => f t) g
def glK (xs : List Operand) : LK :=
  List.rec (motive := fun _ => LK) (.mk fun _ => []) (fun x _ ih => .mk fun t => (gxK x).run t :: ih.run t) xs
theorem glK_run {n : Nat} {t : TT2} {tm : Tm} (ag : Agr n t tm) (xs : List Operand) (h : xs.all (okX n) = true) : (glK xs).run t = xs.map (evX tm) := by
  induction xs with
  | nil => rfl
  | cons x xs ih =>
    simp only [List.all_cons, Bool.and_eq_true] at h
    show (gxK x).run t :: (glK xs).run t = _
    rw [ih h.2, gxK_run ag x h.1]; rfl

def avInt (v : AV) (k : IntKind → Int → R) : R :=
  AV.rec (motive_1 := fun _ => R) (motive_2 := fun _ => Unit) (fun _ => none) (k) (fun _ => none) (fun _ => none) none (fun _ _ => none) none (fun _ _ _ _ _ => none) none (fun _ => none) none (fun _ _ _ _ _ => none) (fun _ _ => none) (fun _ _ => none) (fun _ => none) (fun _ _ => none) none () (fun _ _ _ _ => ()) v
theorem avInt_inv {v : AV} {k : IntKind → Int → R} {r : AV × Hp} (h : avInt v k = some r) : ∃ j n, v = .int j n ∧ k j n = some r := by
  cases v <;> first | exact ⟨_, _, rfl, h⟩ | (exact nomatch h)
def avPtr (v : AV) (k : Nat → Nat → R) : R :=
  AV.rec (motive_1 := fun _ => R) (motive_2 := fun _ => Unit) (fun _ => none) (fun _ _ => none) (fun _ => none) (fun _ => none) none (k) none (fun _ _ _ _ _ => none) none (fun _ => none) none (fun _ _ _ _ _ => none) (fun _ _ => none) (fun _ _ => none) (fun _ => none) (fun _ _ => none) none () (fun _ _ _ _ => ()) v
theorem avPtr_inv {v : AV} {k : Nat → Nat → R} {r : AV × Hp} (h : avPtr v k = some r) : ∃ i o, v = .ptr i o ∧ k i o = some r := by
  cases v <;> first | exact ⟨_, _, rfl, h⟩ | (exact nomatch h)
def avSl (v : AV) (k : Nat → Nat → Nat → Nat → Nat → R) : R :=
  AV.rec (motive_1 := fun _ => R) (motive_2 := fun _ => Unit) (fun _ => none) (fun _ _ => none) (fun _ => none) (fun _ => none) none (fun _ _ => none) none (k) none (fun _ => none) none (fun _ _ _ _ _ => none) (fun _ _ => none) (fun _ _ => none) (fun _ => none) (fun _ _ => none) none () (fun _ _ _ _ => ()) v
theorem avSl_inv {v : AV} {k : Nat → Nat → Nat → Nat → Nat → R} {r : AV × Hp} (h : avSl v k = some r) : ∃ a b c d e, v = .sl a b c d e ∧ k a b c d e = some r := by
  cases v <;> first | exact ⟨_, _, _, _, _, rfl, h⟩ | (exact nomatch h)
def avStr (v : AV) (k : List Nat → R) : R :=
  AV.rec (motive_1 := fun _ => R) (motive_2 := fun _ => Unit) (fun _ => none) (fun _ _ => none) (fun _ => none) (k) none (fun _ _ => none) none (fun _ _ _ _ _ => none) none (fun _ => none) none (fun _ _ _ _ _ => none) (fun _ _ => none) (fun _ _ => none) (fun _ => none) (fun _ _ => none) none () (fun _ _ _ _ => ()) v
theorem avStr_inv {v : AV} {k : List Nat → R} {r : AV × Hp} (h : avStr v k = some r) : ∃ l, v = .str l ∧ k l = some r := by
  cases v <;> first | exact ⟨_, rfl, h⟩ | (exact nomatch h)
def avTup (v : AV) (k : List AV → R) : R :=
  AV.rec (motive_1 := fun _ => R) (motive_2 := fun _ => Unit) (fun _ => none) (fun _ _ => none) (fun _ => none) (fun _ => none) none (fun _ _ => none) none (fun _ _ _ _ _ => none) none (fun _ => none) none (fun _ _ _ _ _ => none) (fun _ _ => none) (fun vs _ => k vs) (fun _ => none) (fun _ _ => none) none () (fun _ _ _ _ => ()) v
theorem avTup_inv {v : AV} {k : List AV → R} {r : AV × Hp} (h : avTup v k = some r) : ∃ l, v = .tup l ∧ k l = some r := by
  cases v <;> first | exact ⟨_, rfl, h⟩ | (exact nomatch h)
def avBool (v : AV) (kt kf : R) : R :=
  AV.rec (motive_1 := fun _ => R) (motive_2 := fun _ => Unit) (fun b => Bool.rec (motive := fun _ => R) kf kt b) (fun _ _ => none) (fun _ => none) (fun _ => none) none (fun _ _ => none) none (fun _ _ _ _ _ => none) none (fun _ => none) none (fun _ _ _ _ _ => none) (fun _ _ => none) (fun _ _ => none) (fun _ => none) (fun _ _ => none) none () (fun _ _ _ _ => ()) v
theorem avBool_inv {v : AV} {kt kf : R} {r : AV × Hp} (h : avBool v kt kf = some r) : ∃ b, v = .bool b ∧ (bif b then kt else kf) = some r := by
  cases v <;> first | (rename_i b; cases b <;> exact ⟨_, rfl, h⟩) | (exact nomatch h)
def avWant (v : AV) (kt kf skip : R) : R :=
  AV.rec (motive_1 := fun _ => R) (motive_2 := fun _ => Unit) (fun b => Bool.rec (motive := fun _ => R) kf kt b) (fun _ _ => none) (fun _ => none) (fun _ => none) none (fun _ _ => none) none (fun _ _ _ _ _ => none) none (fun _ => none) none (fun _ _ _ _ _ => none) (fun _ _ => none) (fun vs _ => List.rec (motive := fun _ => R) skip (fun _ _ _ => none) vs) (fun _ => none) (fun _ _ => none) none () (fun _ _ _ _ => ()) v
theorem avWant_inv {v : AV} {kt kf skip : R} {r : AV × Hp} (h : avWant v kt kf skip = some r) : (v = .bool true ∧ kt = some r) ∨ (v = .bool false ∧ kf = some r) ∨ (v = .tup [] ∧ skip = some r) := by
  cases v <;> first | (rename_i b; cases b <;> first | exact .inl ⟨rfl, h⟩ | exact .inr (.inl ⟨rfl, h⟩) | exact .inr (.inr ⟨rfl, h⟩) | (exact nomatch h)) | (exact nomatch h)
def avRef (v : AV) (k : AV → R) : R :=
  AV.rec (motive_1 := fun _ => R) (motive_2 := fun _ => Unit) (fun _ => none) (fun _ _ => none) (fun _ => none) (fun _ => none) none (fun id off => k (.ptr id off)) none (fun _ _ _ _ _ => none) none (fun _ => none) none (fun f xs ys _ _ => k (.fn f xs ys)) (fun _ _ => none) (fun _ _ => none) (fun _ => none) (fun _ _ => none) none () (fun _ _ _ _ => ()) v
theorem avRef_inv {v : AV} {k : AV → R} {r : AV × Hp} (h : avRef v k = some r) : ((∃ i o, v = .ptr i o) ∨ ∃ f xs ys, v = .fn f xs ys) ∧ k v = some r := by
  cases v <;> first | exact ⟨.inl ⟨_, _, rfl⟩, h⟩ | exact ⟨.inr ⟨_, _, _, rfl⟩, h⟩ | (exact nomatch h)
def avFn (v : AV) (k : Nat → List AV → List AV → R) : R :=
  AV.rec (motive_1 := fun _ => R) (motive_2 := fun _ => Unit) (fun _ => none) (fun _ _ => none) (fun _ => none) (fun _ => none) none (fun _ _ => none) none (fun _ _ _ _ _ => none) none (fun _ => none) none (fun f xs ys _ _ => k f xs ys) (fun _ _ => none) (fun _ _ => none) (fun _ => none) (fun _ _ => none) none () (fun _ _ _ _ => ()) v
theorem avFn_inv {v : AV} {k : Nat → List AV → List AV → R} {r : AV × Hp} (h : avFn v k = some r) : ∃ f xs ys, v = .fn f xs ys ∧ k f xs ys = some r := by
  cases v <;> first | exact ⟨_, _, _, rfl, h⟩ | (exact nomatch h)
def avSeq (v : AV) (kn : R) (k : Nat → Nat → Nat → Nat → Nat → R) : R :=
  AV.rec (motive_1 := fun _ => R) (motive_2 := fun _ => Unit) (fun _ => none) (fun _ _ => none) (fun _ => none) (fun _ => none) none (fun _ _ => none) (kn) (k) none (fun _ => none) none (fun _ _ _ _ _ => none) (fun _ _ => none) (fun _ _ => none) (fun _ => none) (fun _ _ => none) none () (fun _ _ _ _ => ()) v
theorem avSeq_inv {v : AV} {kn : R} {k : Nat → Nat → Nat → Nat → Nat → R} {r : AV × Hp} (h : avSeq v kn k = some r) : (v = .nils ∧ kn = some r) ∨ ∃ a b c d e, v = .sl a b c d e ∧ k a b c d e = some r := by
  cases v <;> first | exact .inl ⟨rfl, h⟩ | exact .inr ⟨_, _, _, _, _, rfl, h⟩ | (exact nomatch h)
def avLen (v : AV) (k : Nat → R) : R :=
  AV.rec (motive_1 := fun _ => R) (motive_2 := fun _ => Unit) (fun _ => none) (fun _ _ => none) (fun _ => none) (fun _ => none) none (fun _ _ => none) (k 0) (fun _ _ len _ _ => k len) none (fun _ => none) none (fun _ _ _ _ _ => none) (fun _ _ => none) (fun _ _ => none) (fun _ => none) (fun _ _ => none) none () (fun _ _ _ _ => ()) v
theorem avLen_inv {v : AV} {k : Nat → R} {r : AV × Hp} (h : avLen v k = some r) : (v = .nils ∧ k 0 = some r) ∨ ∃ a b c d e, v = .sl a b c d e ∧ k c = some r := by
  cases v <;> first | exact .inl ⟨rfl, h⟩ | exact .inr ⟨_, _, _, _, _, rfl, h⟩ | (exact nomatch h)
def avCells (v : AV) (k : List AV → R) : R :=
  AV.rec (motive_1 := fun _ => R) (motive_2 := fun _ => Unit) (fun b => k [.bool b]) (fun j n => k [.int j n]) (fun b => k [.flt b]) (fun l => k [.str l]) (k [.nilp]) (fun id off => k [.ptr id off]) (k [.nils]) (fun id off len cap sz => k [.sl id off len cap sz]) (k [.nilm]) (fun id => k [.mp id]) (k [.nilf]) (fun f xs ys _ _ => k [.fn f xs ys]) (fun cs _ => k cs) (fun _ _ => none) (fun i => k [.tok i]) (fun m r => k [.cls m r]) none () (fun _ _ _ _ => ()) v
theorem avCells_inv {v : AV} {k : List AV → R} {r : AV × Hp} (h : avCells v k = some r) : k v.cells = some r := by
  cases v <;> first | exact h | (exact nomatch h)
def oneJ (v : AV) : Bool :=
  AV.rec (motive_1 := fun _ => Bool) (motive_2 := fun _ => Unit) (fun _ => true) (fun _ _ => true) (fun _ => true) (fun _ => true) (true) (fun _ _ => true) (true) (fun _ _ _ _ _ => true) (true) (fun _ => true) (true) (fun _ _ _ _ _ => true) (fun _ _ => false) (fun _ _ => false) (fun _ => true) (fun _ _ => true) false () (fun _ _ _ _ => ()) v
theorem oneJ_eq (v : AV) : oneJ v = v.one := by cases v <;> rfl
def avNat (v : AV) (k : Nat → R) : R := avInt v fun _ n => Int.rec (motive := fun _ => R) (fun n => k n) (fun _ => none) n
theorem avNat_inv {v : AV} {k : Nat → R} {r : AV × Hp} (h : avNat v k = some r) : ∃ j n, v = .int j (.ofNat n) ∧ k n = some r := by
  obtain ⟨j, n, rfl, h⟩ := avInt_inv h
  cases n with
  | ofNat n => exact ⟨j, n, rfl, h⟩
  | negSucc n => exact nomatch h
def andR (b : Bool) (k : R) : R := Bool.rec (motive := fun _ => R) none k b
theorem andR_inv {b : Bool} {k : R} {r : AV × Hp} (h : andR b k = some r) : b = true ∧ k = some r := by
  cases b with
  | true => exact ⟨rfl, h⟩
  | false => exact nomatch h
def o2 {α : Type} (x : Option α) (k : α → R) : R := Option.rec (motive := fun _ => R) none k x
theorem o2_inv {α : Type} {x : Option α} {k : α → R} {r : AV × Hp} (h : o2 x k = some r) : ∃ v, x = some v ∧ k v = some r := by
  cases x with
  | none => exact nomatch h
  | some v => exact ⟨v, rfl, h⟩
def oh (x : Option (AV × Hp)) (k : AV → Hp → R) : R := Option.rec (motive := fun _ => R) none (fun p => Prod.rec (motive := fun _ => R) k p) x
theorem oh_inv {x : Option (AV × Hp)} {k : AV → Hp → R} {r : AV × Hp} (h : oh x k = some r) : ∃ v h', x = some (v, h') ∧ k v h' = some r := by
  cases x with
  | none => exact nomatch h
  | some p => obtain ⟨v, h'⟩ := p; exact ⟨v, h', rfl, h⟩
def kindN (k : IntKind) : Nat := IntKind.rec (motive := fun _ => Nat) 0 1 2 3 4 5 6 7 k
theorem kindN_inj {j k : IntKind} (h : Nat.beq (kindN j) (kindN k) = true) : j = k := by
  cases j <;> cases k <;> first | rfl | (exact nomatch h)
/-- Lists. -/
def nthA (cs : List AV) : Nat → (AV → R) → R :=
  List.rec (motive := fun _ => Nat → (AV → R) → R) (fun _ _ => none) (fun a _ ih n k => Bool.rec (motive := fun _ => R) (ih (Nat.sub n 1) k) (k a) (Nat.beq n 0)) cs
theorem nthA_inv {cs : List AV} : ∀ {n : Nat} {k : AV → R} {r : AV × Hp}, nthA cs n k = some r → ∃ a, cs[n]? = some a ∧ k a = some r := by
  induction cs with
  | nil => intro n k r h; exact nomatch h
  | cons a cs ih =>
    intro n k r h
    have h2 : (Bool.rec (motive := fun _ => R) (nthA cs (Nat.sub n 1) k) (k a) (Nat.beq n 0)) = some r := h
    cases n with
    | zero => exact ⟨a, rfl, h2⟩
    | succ n =>
      obtain ⟨b, h3, h4⟩ := ih (n := n) h2
      exact ⟨b, by simpa using h3, h4⟩
def nthN (cs : List Nat) : Nat → (Nat → R) → R :=
  List.rec (motive := fun _ => Nat → (Nat → R) → R) (fun _ _ => none) (fun a _ ih n k => Bool.rec (motive := fun _ => R) (ih (Nat.sub n 1) k) (k a) (Nat.beq n 0)) cs
theorem nthN_inv {cs : List Nat} : ∀ {n : Nat} {k : Nat → R} {r : AV × Hp}, nthN cs n k = some r → ∃ a, cs[n]? = some a ∧ k a = some r := by
  induction cs with
  | nil => intro n k r h; exact nomatch h
  | cons a cs ih =>
    intro n k r h
    have h2 : (Bool.rec (motive := fun _ => R) (nthN cs (Nat.sub n 1) k) (k a) (Nat.beq n 0)) = some r := h
    cases n with
    | zero => exact ⟨a, rfl, h2⟩
    | succ n =>
      obtain ⟨b, h3, h4⟩ := ih (n := n) h2
      exact ⟨b, by simpa using h3, h4⟩
def lenJ {α : Type} (l : List α) : Nat → Nat := List.rec (motive := fun _ => Nat → Nat) (fun n => n) (fun _ _ ih n => ih (Nat.add n 1)) l
theorem lenJ_eq {α : Type} (l : List α) : ∀ n, lenJ l n = n + l.length := by
  induction l with
  | nil => intro n; rfl
  | cons a l ih =>
    intro n
    show lenJ l (n + 1) = _
    rw [ih]; simp; omega
def allOneJ (l : List AV) : Bool := List.rec (motive := fun _ => Bool) true (fun a _ ih => Bool.rec (motive := fun _ => Bool) false ih (oneJ a)) l
theorem allOneJ_eq (l : List AV) : allOneJ l = l.all AV.one := by
  induction l with
  | nil => rfl
  | cons a l ih =>
    show Bool.rec (motive := fun _ => Bool) false (allOneJ l) (oneJ a) = _
    rw [oneJ_eq, ih, List.all_cons]; cases a.one <;> rfl
def eqLJ (l : List Nat) : List Nat → Bool :=
  List.rec (motive := fun _ => List Nat → Bool) (fun m => List.rec (motive := fun _ => Bool) true (fun _ _ _ => false) m)
    (fun a _ ih m => List.rec (motive := fun _ => Bool) false (fun b bs _ => Bool.rec (motive := fun _ => Bool) false (ih bs) (Nat.beq a b)) m) l
theorem eqLJ_eq (l : List Nat) : ∀ m, eqLJ l m = eqL l m := by
  induction l with
  | nil => intro m; cases m <;> rfl
  | cons a l ih =>
    intro m
    cases m with
    | nil => rfl
    | cons b m =>
      show Bool.rec (motive := fun _ => Bool) false (eqLJ l m) (Nat.beq a b) = _
      rw [ih, eqL]; cases Nat.beq a b <;> rfl
def dropJ (cs : List AV) : Nat → (List AV → R) → R :=
  List.rec (motive := fun _ => Nat → (List AV → R) → R) (fun _ k => k []) (fun a as ih n k => Bool.rec (motive := fun _ => R) (ih (Nat.sub n 1) k) (k (a :: as)) (Nat.beq n 0)) cs
theorem dropJ_eq (cs : List AV) : ∀ (n : Nat) (k : List AV → R), dropJ cs n k = k (cs.drop n) := by
  induction cs with
  | nil => intro n k; simp; rfl
  | cons a cs ih =>
    intro n k
    cases n with
    | zero => rfl
    | succ n => exact ih n k
def takeJ (n : Nat) : List AV → (List AV → R) → R :=
  Nat.rec (motive := fun _ => List AV → (List AV → R) → R) (fun _ k => k []) (fun _ ih cs k => List.rec (motive := fun _ => R) none (fun x xs _ => ih xs fun l => k (x :: l)) cs) n
theorem takeJ_inv : ∀ (n : Nat) {cs : List AV} {k : List AV → R} {r : AV × Hp}, takeJ n cs k = some r → ∃ l, takeN n cs = some l ∧ k l = some r := by
  intro n
  induction n with
  | zero => intro cs k r h; exact ⟨[], by simp [takeN], h⟩
  | succ n ih =>
    intro cs k r h
    cases cs with
    | nil => exact nomatch h
    | cons x xs =>
      have h2 : takeJ n xs (fun l => k (x :: l)) = some r := h
      obtain ⟨l, h3, h4⟩ := ih h2
      exact ⟨x :: l, by simp [takeN, h3], h4⟩
def cutJ (off n : Nat) (cs : List AV) (k : List AV → R) : R := dropJ cs off fun l => takeJ n l k
theorem cutJ_inv {off n : Nat} {cs : List AV} {k : List AV → R} {r : AV × Hp} (h : cutJ off n cs k = some r) : ∃ l, cut off n cs = some l ∧ k l = some r := by
  unfold cutJ at h
  rw [dropJ_eq] at h
  exact takeJ_inv n h
def dropN (cs : List Nat) : Nat → (List Nat → R) → R :=
  List.rec (motive := fun _ => Nat → (List Nat → R) → R) (fun _ k => k []) (fun a as ih n k => Bool.rec (motive := fun _ => R) (ih (Nat.sub n 1) k) (k (a :: as)) (Nat.beq n 0)) cs
theorem dropN_eq (cs : List Nat) : ∀ (n : Nat) (k : List Nat → R), dropN cs n k = k (cs.drop n) := by
  induction cs with
  | nil => intro n k; simp; rfl
  | cons a cs ih =>
    intro n k
    cases n with
    | zero => rfl
    | succ n => exact ih n k
def firstN (n : Nat) : List Nat → (List Nat → R) → R :=
  Nat.rec (motive := fun _ => List Nat → (List Nat → R) → R) (fun _ k => k []) (fun _ ih cs k => List.rec (motive := fun _ => R) (k []) (fun x xs _ => ih xs fun l => k (x :: l)) cs) n
theorem firstN_eq : ∀ (n : Nat) (cs : List Nat) (k : List Nat → R), firstN n cs k = k (cs.take n) := by
  intro n
  induction n with
  | zero => intro cs k; simp; rfl
  | succ n ih =>
    intro cs k
    cases cs with
    | nil => simp; rfl
    | cons x xs =>
      show firstN n xs (fun l => k (x :: l)) = _
      rw [ih]; rfl
def overJ (cs : List AV) : Nat → List AV → (List AV → R) → R :=
  List.rec (motive := fun _ => Nat → List AV → (List AV → R) → R)
    (fun n vs k => List.rec (motive := fun _ => R) (andR (Nat.beq n 0) (k [])) (fun _ _ _ => none) vs)
    (fun c cs ih n vs k => Bool.rec (motive := fun _ => R) (ih (Nat.sub n 1) vs fun l => k (c :: l)) (List.rec (motive := fun _ => R) (k (c :: cs)) (fun v vs _ => ih 0 vs fun l => k (v :: l)) vs) (Nat.beq n 0)) cs
theorem overJ_inv : ∀ (cs : List AV) {n : Nat} {vs : List AV} {k : List AV → R} {r : AV × Hp}, overJ cs n vs k = some r → ∃ l, over n vs cs = some l ∧ k l = some r := by
  intro cs
  induction cs with
  | nil =>
    intro n vs k r h
    cases vs with
    | nil =>
      have h2 : andR (Nat.beq n 0) (k []) = some r := h
      obtain ⟨h3, h4⟩ := andR_inv h2
      have : n = 0 := by simpa using h3
      subst this
      exact ⟨[], by simp [over], h4⟩
    | cons v vs => exact nomatch h
  | cons c cs ih =>
    intro n vs k r h
    cases n with
    | zero =>
      cases vs with
      | nil => exact ⟨c :: cs, by simp [over], h⟩
      | cons v vs =>
        have h2 : overJ cs 0 vs (fun l => k (v :: l)) = some r := h
        obtain ⟨l, h3, h4⟩ := ih h2
        exact ⟨v :: l, by simp [over, h3], h4⟩
    | succ n =>
      have h2 : overJ cs n vs (fun l => k (c :: l)) = some r := h
      obtain ⟨l, h3, h4⟩ := ih h2
      exact ⟨c :: l, by simp [over, h3], h4⟩
/-- The trie by the digits of the number and one. -/
def Tr.getJ (t : Tr) : Nat → Option Blk :=
  Tr.rec (motive := fun _ => Nat → Option Blk) (fun _ => none) (fun v _ _ il ir m => Bool.rec (motive := fun _ => Option Blk) (Nat.rec (motive := fun _ => Nat → Option Blk) il (fun _ _ => ir) (Nat.land m 1) (Nat.div m 2)) v (Nat.beq m 1)) t
theorem Tr.getJ_eq (t : Tr) : ∀ n, t.getJ (n + 1) = t.get n := by
  induction t with
  | lf => intro n; rfl
  | nd v l r ihl ihr =>
    intro n
    rw [Tr.get_nd]
    show (Bool.rec (motive := fun _ => Option Blk) (Nat.rec (motive := fun _ => Nat → Option Blk) l.getJ (fun _ _ => r.getJ) ((n + 1) &&& 1) ((n + 1) / 2)) v (Nat.beq (n + 1) 1)) = _
    by_cases h0 : n = 0
    · subst h0; rfl
    · have e1 : Nat.beq (n + 1) 1 = false := by rw [← Bool.not_eq_true, Nat.beq_eq]; omega
      have e2 : Nat.beq n 0 = false := by rw [← Bool.not_eq_true, Nat.beq_eq]; omega
      rw [e1, e2, Nat.and_one_is_mod]
      simp only [cond_false]
      by_cases h1 : n % 2 = 1
      · have e3 : Nat.beq (n % 2) 1 = true := by rw [Nat.beq_eq]; exact h1
        have e4 : (n + 1) % 2 = 0 := by omega
        rw [e3, e4]
        simp only [cond_true]
        have e5 : (n + 1) / 2 = n / 2 + 1 := by omega
        rw [e5]; exact ihl _
      · have e3 : Nat.beq (n % 2) 1 = false := by rw [← Bool.not_eq_true, Nat.beq_eq]; exact h1
        have e4 : (n + 1) % 2 = 1 := by omega
        rw [e3, e4]
        simp only [cond_false]
        have e5 : (n + 1) / 2 = (n / 2 - 1) + 1 := by omega
        rw [e5]; exact ihr _
/-- Laid by the digits; `d`: how many there are behind the first. -/
def Tr.setJ (b : Option Blk) (d : Nat) : Tr → Nat → Tr :=
  Nat.rec (motive := fun _ => Tr → Nat → Tr) (fun t _ => Tr.rec (motive := fun _ => Tr) (.nd b .lf .lf) (fun _ l r _ _ => .nd b l r) t)
    (fun _ ih t m => Tr.rec (motive := fun _ => Tr)
      (Nat.rec (motive := fun _ => Tr) (.nd none (ih .lf (Nat.div m 2)) .lf) (fun _ _ => .nd none .lf (ih .lf (Nat.div m 2))) (Nat.land m 1))
      (fun v l r _ _ => Nat.rec (motive := fun _ => Tr) (.nd v (ih l (Nat.div m 2)) r) (fun _ _ => .nd v l (ih r (Nat.div m 2))) (Nat.land m 1)) t) d
theorem Tr.setJ_eq (b : Option Blk) : ∀ (d f : Nat) (t : Tr) (n : Nat), 2 ^ d ≤ n + 1 → n + 1 < 2 ^ (d + 1) → d < f → Tr.setJ b d t (n + 1) = Tr.set b f t n := by
  intro d
  induction d with
  | zero =>
    intro f t n h1 h2 h3
    obtain rfl : n = 0 := by simp at h2; omega
    obtain ⟨f, rfl⟩ : ∃ g, f = g + 1 := ⟨f - 1, by omega⟩
    cases t with
    | lf => rw [Tr.set_lf]; rfl
    | nd v l r => rw [Tr.set_nd]; rfl
  | succ d ih =>
    intro f t n h1 h2 h3
    have hp : 2 ^ (d + 1) = 2 * 2 ^ d := by rw [Nat.pow_succ]; omega
    have hp2 : 2 ^ (d + 1 + 1) = 2 * 2 ^ (d + 1) := by rw [Nat.pow_succ]; omega
    have hpos : 0 < 2 ^ d := Nat.pos_of_ne_zero (by simp)
    obtain ⟨f, rfl⟩ : ∃ g, f = g + 1 := ⟨f - 1, by omega⟩
    have hn0 : n ≠ 0 := by omega
    have e2 : Nat.beq n 0 = false := by rw [← Bool.not_eq_true, Nat.beq_eq]; omega
    cases t with
    | lf =>
      rw [Tr.set_lf, e2]
      show (Nat.rec (motive := fun _ => Tr) (.nd none (Tr.setJ b d .lf ((n + 1) / 2)) .lf) (fun _ _ => .nd none .lf (Tr.setJ b d .lf ((n + 1) / 2))) ((n + 1) &&& 1)) = _
      rw [Nat.and_one_is_mod]
      simp only [cond_false]
      by_cases h4 : n % 2 = 1
      · have e3 : Nat.beq (n % 2) 1 = true := by rw [Nat.beq_eq]; exact h4
        have e4 : (n + 1) % 2 = 0 := by omega
        have e5 : (n + 1) / 2 = n / 2 + 1 := by omega
        rw [e3, e4, e5]
        simp only [cond_true]
        rw [ih f .lf (n / 2) (by omega) (by omega) (by omega)]; rfl
      · have e3 : Nat.beq (n % 2) 1 = false := by rw [← Bool.not_eq_true, Nat.beq_eq]; exact h4
        have e4 : (n + 1) % 2 = 1 := by omega
        have e5 : (n + 1) / 2 = (n / 2 - 1) + 1 := by omega
        rw [e3, e4, e5]
        simp only [cond_false]
        rw [ih f .lf (n / 2 - 1) (by omega) (by omega) (by omega)]; rfl
    | nd v l r =>
      rw [Tr.set_nd, e2]
      show (Nat.rec (motive := fun _ => Tr) (.nd v (Tr.setJ b d l ((n + 1) / 2)) r) (fun _ _ => .nd v l (Tr.setJ b d r ((n + 1) / 2))) ((n + 1) &&& 1)) = _
      rw [Nat.and_one_is_mod]
      simp only [cond_false]
      by_cases h4 : n % 2 = 1
      · have e3 : Nat.beq (n % 2) 1 = true := by rw [Nat.beq_eq]; exact h4
        have e4 : (n + 1) % 2 = 0 := by omega
        have e5 : (n + 1) / 2 = n / 2 + 1 := by omega
        rw [e3, e4, e5]
        simp only [cond_true]
        rw [ih f l (n / 2) (by omega) (by omega) (by omega)]; rfl
      · have e3 : Nat.beq (n % 2) 1 = false := by rw [← Bool.not_eq_true, Nat.beq_eq]; exact h4
        have e4 : (n + 1) % 2 = 1 := by omega
        have e5 : (n + 1) / 2 = (n / 2 - 1) + 1 := by omega
        rw [e3, e4, e5]
        simp only [cond_false]
        rw [ih f r (n / 2 - 1) (by omega) (by omega) (by omega)]; rfl
def Tr.laid (t : Tr) (n : Nat) (b : Option Blk) : Tr := Tr.setJ b (Nat.log2 (Nat.succ n)) t (Nat.succ n)
theorem Tr.laid_eq (t : Tr) (n : Nat) (b : Option Blk) (h : n < maxIds) : t.laid n b = Tr.set b depthBits t n := by
  unfold Tr.laid
  unfold maxIds at h
  have h1 : 2 ^ Nat.log2 (n + 1) ≤ n + 1 := Nat.log2_self_le (by omega)
  have h2 : n + 1 < 2 ^ (Nat.log2 (n + 1) + 1) := Nat.lt_log2_self
  have h3 : Nat.log2 (n + 1) < 50 := by
    rw [Nat.log2_lt (by omega)]; omega
  exact Tr.setJ_eq b _ _ t n h1 h2 h3
def getJ (h : Hp) (id : Nat) (k : List AV → R) : R := Option.rec (motive := fun _ => R) none (fun b => Blk.rec (motive := fun _ => R) k (fun _ => none) b) (Tr.getJ h.t (Nat.succ id))
theorem getJ_inv {h : Hp} {id : Nat} {k : List AV → R} {r : AV × Hp} (e : getJ h id k = some r) : ∃ cs, h.cells id = some cs ∧ k cs = some r := by
  unfold getJ at e
  rw [Nat.succ_eq_add_one, Tr.getJ_eq] at e
  unfold Hp.cells Hp.get
  cases hg : Tr.get h.t id with
  | none => rw [hg] at e; exact nomatch e
  | some b =>
    rw [hg] at e
    cases b with
    | cells cs => exact ⟨cs, rfl, e⟩
    | map es => exact nomatch e
def newJ (cs : List AV) (h : Hp) (k : Nat → Hp → R) : R :=
  Hp.rec (motive := fun _ => R) (fun t nx lw => Bool.rec (motive := fun _ => R) none (forceN nx fun nx => k nx ⟨t.laid nx (some (.cells cs)), Nat.succ nx, lw⟩) (Nat.blt nx maxIds)) h
theorem newJ_inv {cs : List AV} {h : Hp} {k : Nat → Hp → R} {r : AV × Hp} (e : newJ cs h k = some r) : ∃ id h', newBlk cs h = some (id, h') ∧ k id h' = some r := by
  obtain ⟨t, nx, lw⟩ := h
  have e2 : Bool.rec (motive := fun _ => R) none (forceN nx fun nx => k nx ⟨t.laid nx (some (.cells cs)), Nat.succ nx, lw⟩) (Nat.blt nx maxIds) = some r := e
  cases hb : Nat.blt nx maxIds with
  | false => rw [hb] at e2; exact nomatch e2
  | true =>
    rw [hb] at e2
    have e3 : (forceN nx fun nx => k nx ⟨t.laid nx (some (.cells cs)), Nat.succ nx, lw⟩) = some r := e2
    rw [forceN_eq, Tr.laid_eq _ _ _ (by simpa [Nat.blt_eq] using hb)] at e3
    exact ⟨nx, _, by simp [newBlk, Hp.new, hb], e3⟩
def putJ (h : Hp) (id : Nat) (b : Option Blk) (k : Hp → R) : R :=
  Bool.rec (motive := fun _ => R) none (Hp.rec (motive := fun _ => R) (fun t nx lw => k ⟨t.laid id b, nx, lwMin id lw⟩) h) (Nat.blt id maxIds)
theorem putJ_inv {h : Hp} {id : Nat} {b : Option Blk} {k : Hp → R} {r : AV × Hp} (e : putJ h id b k = some r) : k (h.put id b) = some r := by
  unfold putJ at e
  cases hb : Nat.blt id maxIds with
  | false => rw [hb] at e; exact nomatch e
  | true =>
    rw [hb] at e
    obtain ⟨t, nx, lw⟩ := h
    have e2 : k ⟨t.laid id b, nx, lwMin id lw⟩ = some r := e
    rw [Tr.laid_eq _ _ _ (by simpa [Nat.blt_eq] using hb)] at e2
    exact e2
/-- A text as one number. -/
def packN (l : List Nat) : Nat := List.rec (motive := fun _ => Nat) 0 (fun a _ ih => Nat.add a (Nat.mul 256 ih)) l
def bytes256 (l : List Nat) : Bool := List.rec (motive := fun _ => Bool) true (fun a _ ih => Bool.rec (motive := fun _ => Bool) false ih (Nat.blt a 256)) l
theorem packN_get (l : List Nat) : ∀ i, bytes256 l = true → i < l.length → l[i]? = some (packN l / 256 ^ i % 256) := by
  induction l with
  | nil => intro i _ h; simp at h
  | cons a l ih =>
    intro i hb hi
    have hb2 : Bool.rec (motive := fun _ => Bool) false (bytes256 l) (Nat.blt a 256) = true := hb
    cases ha : Nat.blt a 256 with
    | false => rw [ha] at hb2; exact nomatch hb2
    | true =>
      rw [ha] at hb2
      have ha' : a < 256 := by simpa [Nat.blt_eq] using ha
      have e : packN (a :: l) = a + 256 * packN l := rfl
      cases i with
      | zero => rw [e]; simp; omega
      | succ i =>
        have := ih i hb2 (by simpa using hi)
        rw [List.getElem?_cons_succ, this, e]
        congr 1
        rw [Nat.pow_succ, Nat.mul_comm (256 ^ i), ← Nat.div_div_eq_div_mul]
        congr 2
        omega
def byteJ (l : List Nat) (i : Nat) (k : Nat → R) : R :=
  andR (bytes256 l) (andR (Nat.blt i (lenJ l 0)) (forceN (Nat.mod (Nat.div (packN l) (Nat.pow 256 i)) 256) k))
theorem byteJ_inv {l : List Nat} {i : Nat} {k : Nat → R} {r : AV × Hp} (e : byteJ l i k = some r) : ∃ a, l[i]? = some a ∧ k a = some r := by
  obtain ⟨h1, e1⟩ := andR_inv e
  obtain ⟨h2, e2⟩ := andR_inv e1
  rw [lenJ_eq, Nat.zero_add] at h2
  rw [forceN_eq] at e2
  exact ⟨_, packN_get l i h1 (by simpa [Nat.blt_eq] using h2), e2⟩
end
end Go.PE
