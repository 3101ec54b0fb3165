/-
  Part of the proof: an evaluator of the model's code, proved sound, and its run (PeBT).
-/
import Derived.Test.YtpidolpoemlpjaaGreatPeBase
set_option linter.unusedVariables false
set_option linter.unusedSimpArgs false
set_option linter.unnecessarySimpa false
set_option linter.unusedSectionVars false
namespace Go.PE
noncomputable section
/-! A list as a tree, looked up by the digits of a place. -/
inductive BT (α : Type) where
  | lf
  | nd (v : α) (l r : BT α)
/-- The places 0, 2, 4, .. and 1, 3, 5, .. of a list. -/
def halves {α : Type} (l : List α) : List α × List α := List.rec (motive := fun _ => List α × List α) ([], []) (fun x _ ih => (x :: ih.2, ih.1)) l
theorem halves_get {α : Type} (l : List α) : (∀ j, (halves l).1[j]? = l[2 * j]?) ∧ (∀ j, (halves l).2[j]? = l[2 * j + 1]?) := by
  induction l with
  | nil => exact ⟨fun j => by simp [halves], fun j => by simp [halves]⟩
  | cons x l ih =>
    have e1 : (halves (x :: l)).1 = x :: (halves l).2 := rfl
    have e2 : (halves (x :: l)).2 = (halves l).1 := rfl
    refine ⟨fun j => ?_, fun j => ?_⟩
    · rw [e1]
      cases j with
      | zero => rfl
      | succ j =>
        have : 2 * (j + 1) = (2 * j + 1) + 1 := by omega
        rw [this, List.getElem?_cons_succ, List.getElem?_cons_succ]; exact ih.2 j
    · rw [e2, List.getElem?_cons_succ]; exact ih.1 j
theorem halves_len {α : Type} (l : List α) : (halves l).1.length + (halves l).2.length = l.length ∧ (halves l).2.length ≤ (halves l).1.length ∧ (halves l).1.length ≤ (halves l).2.length + 1 := by
  induction l with
  | nil => simp [halves]
  | cons x l ih =>
    have e1 : (halves (x :: l)).1 = x :: (halves l).2 := rfl
    have e2 : (halves (x :: l)).2 = (halves l).1 := rfl
    rw [e1, e2]; simp only [List.length_cons]; omega
def BT.ofL {α : Type} (f : Nat) : List α → BT α :=
  Nat.rec (motive := fun _ => List α → BT α) (fun _ => .lf) (fun _ ih l => List.rec (motive := fun _ => BT α) .lf (fun x xs _ => .nd x (ih (halves xs).1) (ih (halves xs).2)) l) f
def BT.get {α : Type} (t : BT α) : Nat → Option α :=
  BT.rec (motive := fun _ => Nat → Option α) (fun _ => none) (fun v _ _ il ir m => Bool.rec (motive := fun _ => Option α) (Nat.rec (motive := fun _ => Nat → Option α) il (fun _ _ => ir) (Nat.land m 1) (Nat.div m 2)) (some v) (Nat.beq m 1)) t
theorem BT.get_ofL {α : Type} : ∀ (f : Nat) (l : List α) (n : Nat), l.length < 2 ^ f → (BT.ofL f l).get (n + 1) = l[n]? := by
  intro f
  induction f with
  | zero => intro l n h; have : l = [] := by simp at h; exact h
            subst this; simp; rfl
  | succ f ih =>
    intro l n h
    cases l with
    | nil => simp; rfl
    | cons x xs =>
      have hp : 2 ^ (f + 1) = 2 * 2 ^ f := by rw [Nat.pow_succ]; omega
      have hl := halves_len xs
      simp only [List.length_cons] at h
      show (Bool.rec (motive := fun _ => Option α) (Nat.rec (motive := fun _ => Nat → Option α) (BT.ofL f (halves xs).1).get (fun _ _ => (BT.ofL f (halves xs).2).get) ((n + 1) &&& 1) ((n + 1) / 2)) (some x) (Nat.beq (n + 1) 1)) = _
      cases n with
      | zero => rfl
      | succ n =>
        have e1 : Nat.beq (n + 1 + 1) 1 = false := by rw [← Bool.not_eq_true, Nat.beq_eq]; omega
        rw [e1, Nat.and_one_is_mod, List.getElem?_cons_succ]
        by_cases h1 : n % 2 = 0
        · have e4 : (n + 1 + 1) % 2 = 0 := by omega
          have e5 : (n + 1 + 1) / 2 = n / 2 + 1 := by omega
          rw [e4, e5]
          show (BT.ofL f (halves xs).1).get (n / 2 + 1) = _
          rw [ih _ _ (by omega), (halves_get xs).1]
          congr 1; omega
        · have e4 : (n + 1 + 1) % 2 = 1 := by omega
          have e5 : (n + 1 + 1) / 2 = n / 2 + 1 := by omega
          rw [e4, e5]
          show (BT.ofL f (halves xs).2).get (n / 2 + 1) = _
          rw [ih _ _ (by omega), (halves_get xs).2]
          congr 1; omega
variable (P : Program)
def tyT : BT TypeInfo := BT.ofL 12 P.types.toList
def fnT : BT Func := BT.ofL 12 P.funcs.toList
def infoJ (t : TypeId) : Option TypeInfo := bif Nat.blt P.types.size 4096 then (match (tyT P).get (Nat.succ t) with | some i => some i | none => P.info? t) else P.info? t
theorem infoJ_eq (t : TypeId) : infoJ P t = P.info? t := by
  unfold infoJ
  cases hb : Nat.blt P.types.size 4096 with
  | false => rfl
  | true =>
    have e : (tyT P).get (Nat.succ t) = P.types[t]? := by
      unfold tyT
      rw [Nat.succ_eq_add_one, BT.get_ofL 12 _ _ (by simpa [Nat.blt_eq] using hb)]
      simp
    simp only [cond_true]
    rw [e]
    cases h : P.types[t]? with
    | none => rfl
    | some i =>
      have hlt : t < P.types.size := by rw [Array.getElem?_eq_some_iff] at h; exact h.1
      simp only [Tables.info?, if_pos hlt, h]
def undJ (t : TypeId) : Option TypeDesc :=
  match infoJ P t with
  | some i => (match i.desc with
    | .named _ u => (match infoJ P u with | some j => some j.desc | none => none)
    | d => some d)
  | none => none
theorem undJ_eq (t : TypeId) : undJ P t = P.underlying t := by
  unfold undJ Program.underlying
  rw [infoJ_eq]
  cases P.info? t with
  | none => rfl
  | some i =>
    simp only []
    obtain ⟨desc⟩ := i
    cases desc <;> try rfl
    rename_i n u
    simp only [infoJ_eq]
    cases P.info? u <;> rfl
def sizeJ (t : TypeId) : Option Nat := match infoJ P t with | some i => some i.size | none => none
theorem sizeJ_eq (t : TypeId) : sizeJ P t = sizeA P t := by unfold sizeJ sizeA; rw [infoJ_eq]; cases P.info? t <;> rfl
def isAggJ (t : TypeId) : Option Bool :=
  match undJ P t with
  | some (.struct _) | some (.array _ _) => some true
  | some _ => some false
  | none => none
theorem isAggJ_eq (t : TypeId) : isAggJ P t = isAggA P t := by unfold isAggJ isAggA; rw [undJ_eq]; rfl
def fnJ (f : FuncId) : Option Func := bif Nat.blt P.funcs.size 4096 then (fnT P).get (Nat.succ f) else P.funcs[f]?
theorem fnJ_eq (f : FuncId) : fnJ P f = P.funcs[f]? := by
  unfold fnJ
  cases hb : Nat.blt P.funcs.size 4096 with
  | false => rfl
  | true =>
    show (fnT P).get (f + 1) = _
    unfold fnT
    rw [BT.get_ofL 12 _ _ (by simpa [Nat.blt_eq] using hb)]
    simp
end
end Go.PE
