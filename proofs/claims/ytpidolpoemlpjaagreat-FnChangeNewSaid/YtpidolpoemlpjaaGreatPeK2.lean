/-
  Part of the proof: an evaluator of the model's code, proved sound, and its run (PeK2).
-/
import Derived.Test.YtpidolpoemlpjaaGreatPeK1
import Derived.Test.YtpidolpoemlpjaaGreatPeBT
set_option linter.unusedVariables false
set_option linter.unusedSimpArgs false
set_option linter.unnecessarySimpa false
set_option linter.unusedSectionVars false
namespace Go.PE
noncomputable section
inductive BK where | mk (f : AV → AV → (AV → R) → R)
def BK.run (g : BK) (x y : AV) (k : AV → R) : R := BK.rec (motive := fun _ => R) (fun f => f x y k) g
inductive LoK where | mk (f : AV → Hp → (AV → R) → R)
def LoK.run (g : LoK) (x : AV) (h : Hp) (k : AV → R) : R := LoK.rec (motive := fun _ => R) (fun f => f x h k) g
inductive UK where | mk (f : AV → (AV → R) → R)
def UK.run (g : UK) (x : AV) (k : AV → R) : R := UK.rec (motive := fun _ => R) (fun f => f x k) g
/-- Two ints of one kind. -/
def ints2 (x y : AV) (k : IntKind → Int → Int → R) : R := avInt x fun j a => avInt y fun i b => andR (Nat.beq (kindN j) (kindN i)) (k j a b)
theorem ints2_inv {x y : AV} {k : IntKind → Int → Int → R} {r : AV × Hp} (h : ints2 x y k = some r) : ∃ j a b, x = .int j a ∧ y = .int j b ∧ k j a b = some r := by
  obtain ⟨j, a, rfl, hx1⟩ := avInt_inv h
  obtain ⟨i, b, rfl, hx2⟩ := avInt_inv hx1
  obtain ⟨h1, hx3⟩ := andR_inv hx2
  obtain rfl := kindN_inj h1
  exact ⟨j, a, b, rfl, rfl, hx3⟩
def ltJ (a b : Int) : Bool := Int.rec (motive := fun _ => Bool) (fun a => Int.rec (motive := fun _ => Bool) (fun b => Nat.blt a b) (fun _ => false) b) (fun a => Int.rec (motive := fun _ => Bool) (fun _ => true) (fun b => Nat.blt b a) b) a
theorem ltJ_eq (a b : Int) : ltJ a b = ltI a b := by cases a <;> cases b <;> rfl
def eqJ (a b : Int) : Bool := Int.rec (motive := fun _ => Bool) (fun a => Int.rec (motive := fun _ => Bool) (fun b => Nat.beq a b) (fun _ => false) b) (fun a => Int.rec (motive := fun _ => Bool) (fun _ => false) (fun b => Nat.beq a b) b) a
theorem eqJ_eq (a b : Int) : eqJ a b = eqI a b := by cases a <;> cases b <;> rfl
def notJ (b : Bool) : Bool := Bool.rec (motive := fun _ => Bool) true false b
theorem notJ_eq (b : Bool) : notJ b = !b := by cases b <;> rfl
/-- Of two ints not below 0. -/
def nats2 (a b : Int) (k : Nat → Nat → R) (slow : R) : R := Int.rec (motive := fun _ => R) (fun a => Int.rec (motive := fun _ => R) (fun b => k a b) (fun _ => slow) b) (fun _ => slow) a
theorem nats2_cases {a b : Int} {k : Nat → Nat → R} {slow : R} {r : AV × Hp} (h : nats2 a b k slow = some r) : slow = some r ∨ ∃ m n, a = .ofNat m ∧ b = .ofNat n ∧ k m n = some r := by
  cases a with
  | negSucc a => exact .inl h
  | ofNat a =>
    cases b with
    | negSucc b => exact .inl h
    | ofNat b => exact .inr ⟨a, b, rfl, rfl, h⟩
def is64 (k : IntKind) : Bool := Nat.beq (kindN k) 3
theorem is64_eq {k : IntKind} (h : is64 k = true) : k = .i64 := by cases k <;> first | rfl | (exact nomatch h)
def orR (b : Bool) (x y : R) : R := Bool.rec (motive := fun _ => R) y x b
theorem orR_cases {b : Bool} {x y : R} {r : AV × Hp} (h : orR b x y = some r) : (b = true ∧ x = some r) ∨ (b = false ∧ y = some r) := by
  cases b with
  | true => exact .inl ⟨rfl, h⟩
  | false => exact .inr ⟨rfl, h⟩
/-- A sum, a difference, a product of int64, none below 0. -/
def arJ (f : Nat → Nat → Nat) (ok : Nat → Nat → Bool) (op : BinOp) : BK := .mk fun x y k => ints2 x y fun j a b =>
  orR (is64 j) (nats2 a b (fun m n => orR (ok m n) (forceN (f m n) fun s => k (.int .i64 (.ofNat s))) (o2 (arithI op j a b) k)) (o2 (arithI op j a b) k)) (o2 (arithI op j a b) k)
variable (P : Program)
theorem binA_ints {op : BinOp} {t : TypeId} {j : IntKind} {a b : Int} (h1 : op ≠ .shl) (h2 : op ≠ .shr) : binA P op t (.int j a) (.int j b) = arithI op j a b := by
  cases op <;> first | exact absurd rfl h1 | exact absurd rfl h2 | (simp [binA])
theorem arJ_run {f : Nat → Nat → Nat} {ok : Nat → Nat → Bool} {op : BinOp} {t : TypeId} (h1 : op ≠ .shl) (h2 : op ≠ .shr)
    (hf : ∀ m n, ok m n = true → arithI op .i64 (.ofNat m) (.ofNat n) = some (.int .i64 (.ofNat (f m n)))) {x y : AV} {k : AV → R} {r : AV × Hp}
    (h : (arJ f ok op).run x y k = some r) : ∃ v, binA P op t x y = some v ∧ k v = some r := by
  obtain ⟨j, a, b, rfl, rfl, hx4⟩ := ints2_inv h
  rw [binA_ints P h1 h2]
  rcases orR_cases hx4 with ⟨hj, hx5⟩ | ⟨_, hx5⟩
  · obtain rfl := is64_eq hj
    rcases nats2_cases hx5 with hx6 | ⟨m, n, rfl, rfl, hx6⟩
    · exact o2_inv hx6
    · rcases orR_cases hx6 with ⟨hk, hx7⟩ | ⟨_, hx7⟩
      · rw [forceN_eq] at hx7
        exact ⟨_, hf m n hk, hx7⟩
      · exact o2_inv hx7
  · exact o2_inv hx5
def cmpK (f : Int → Int → Bool) : BK := .mk fun x y k => ints2 x y fun _ a b => k (.bool (f a b))
theorem cmpK_run {f : Int → Int → Bool} {op : BinOp} {t : TypeId} (h1 : op ≠ .shl) (h2 : op ≠ .shr) (hf : ∀ j a b, arithI op j a b = some (.bool (f a b))) {x y : AV} {k : AV → R} {r : AV × Hp}
    (h : (cmpK f).run x y k = some r) : ∃ v, binA P op t x y = some v ∧ k v = some r := by
  obtain ⟨j, a, b, rfl, rfl, hx8⟩ := ints2_inv h
  rw [binA_ints P h1 h2]
  exact ⟨_, hf j a b, hx8⟩
/-- Equality of texts. -/
def strK (f : Bool → Bool) : BK := .mk fun x y k => avStr x fun a => avStr y fun b => k (.bool (f (eqLJ a b)))
def slowK (op : BinOp) (t : TypeId) : BK := .mk fun x y k => o2 (binA P op t x y) k
theorem slowK_run {op : BinOp} {t : TypeId} {x y : AV} {k : AV → R} {r : AV × Hp} (h : (slowK P op t).run x y k = some r) : ∃ v, binA P op t x y = some v ∧ k v = some r := o2_inv h
def isStrT (t : TypeId) : Bool := match undJ P t with | some .string => true | _ => false
def isIntT (t : TypeId) : Bool := match undJ P t with | some (.int _) => true | _ => false
def okAdd (m n : Nat) : Bool := Nat.blt (Nat.add m n) two63
def okSub (m n : Nat) : Bool := Nat.ble n m && Nat.blt m two63
def okMul (m n : Nat) : Bool := Nat.blt (Nat.mul m n) two63
def bK (op : BinOp) (t : TypeId) : BK :=
  bif isIntT P t then
    match op with
    | .add => arJ Nat.add okAdd .add
    | .sub => arJ Nat.sub okSub .sub
    | .mul => arJ Nat.mul okMul .mul
    | .eql => cmpK eqJ
    | .neq => cmpK fun a b => notJ (eqJ a b)
    | .lss => cmpK ltJ
    | .leq => cmpK fun a b => notJ (ltJ b a)
    | .gtr => cmpK fun a b => ltJ b a
    | .geq => cmpK fun a b => notJ (ltJ a b)
    | op => slowK P op t
  else bif isStrT P t then
    match op with
    | .eql => strK fun b => b
    | .neq => strK notJ
    | op => slowK P op t
  else slowK P op t
theorem wrap64_nat {s : Nat} (h : Nat.blt s two63 = true) : wrapA .i64 (.ofNat s) = .ofNat s := by simp [wrapA, h]
theorem bK_run {op : BinOp} {t : TypeId} {x y : AV} {k : AV → R} {r : AV × Hp} (h : (bK P op t).run x y k = some r) : ∃ v, binA P op t x y = some v ∧ k v = some r := by
  unfold bK at h
  cases hi : isIntT P t with
  | true =>
    rw [hi] at h
    simp only [cond_true] at h
    split at h
    · refine arJ_run P (by simp) (by simp) (fun m n hk => ?_) h
      have : (Int.ofNat m + Int.ofNat n) = Int.ofNat (Nat.add m n) := rfl
      simp only [arithI, this, wrap64_nat hk]
    · refine arJ_run P (by simp) (by simp) (fun m n hk => ?_) h
      unfold okSub at hk
      simp only [Bool.and_eq_true] at hk
      have h1 : n ≤ m := by simpa using hk.1
      have h2 : m < two63 := by simpa [Nat.blt_eq] using hk.2
      have : (Int.ofNat m - Int.ofNat n) = Int.ofNat (Nat.sub m n) := by
        show (m : Int) - (n : Int) = ((m - n : Nat) : Int); omega
      simp only [arithI, this]
      rw [wrap64_nat (by simp [Nat.blt_eq]; omega)]
    · refine arJ_run P (by simp) (by simp) (fun m n hk => ?_) h
      have : (Int.ofNat m * Int.ofNat n) = Int.ofNat (Nat.mul m n) := rfl
      simp only [arithI, this, wrap64_nat hk]
    · exact cmpK_run P (by simp) (by simp) (fun j a b => by simp [arithI, cmpI, eqJ_eq]) h
    · exact cmpK_run P (by simp) (by simp) (fun j a b => by simp [arithI, cmpI, eqJ_eq, notJ_eq]) h
    · exact cmpK_run P (by simp) (by simp) (fun j a b => by simp [arithI, cmpI, ltJ_eq]) h
    · exact cmpK_run P (by simp) (by simp) (fun j a b => by simp [arithI, cmpI, ltJ_eq, notJ_eq]) h
    · exact cmpK_run P (by simp) (by simp) (fun j a b => by simp [arithI, cmpI, ltJ_eq]) h
    · exact cmpK_run P (by simp) (by simp) (fun j a b => by simp [arithI, cmpI, ltJ_eq, notJ_eq]) h
    · exact slowK_run P h
  | false =>
    rw [hi] at h
    simp only [cond_false] at h
    cases hs : isStrT P t with
    | false => rw [hs] at h; exact slowK_run P h
    | true =>
      rw [hs] at h
      simp only [cond_true] at h
      split at h
      · obtain ⟨a, rfl, hx9⟩ := avStr_inv h
        obtain ⟨b, rfl, hx10⟩ := avStr_inv hx9
        exact ⟨_, by simp [binA, eqLJ_eq], hx10⟩
      · obtain ⟨a, rfl, hx11⟩ := avStr_inv h
        obtain ⟨b, rfl, hx12⟩ := avStr_inv hx11
        exact ⟨_, by simp [binA, eqLJ_eq, notJ_eq], hx12⟩
      · exact slowK_run P h

/-! Loads and stores. -/
def loK (t : TypeId) : LoK :=
  match isAggJ P t, sizeJ P t with
  | some true, some n => .mk fun a h k => avPtr a fun id off => getJ h id fun cs => cutJ off n cs fun l => k (.agg l)
  | some false, some _ => .mk fun a h k => avPtr a fun id off => getJ h id fun cs => nthA cs off k
  | _, _ => .mk fun _ _ _ => none
theorem loK_run {t : TypeId} {a : AV} {h : Hp} {k : AV → R} {r : AV × Hp} (e : (loK P t).run a h k = some r) : ∃ v, loadA P t a h = some v ∧ k v = some r := by
  unfold loK at e
  simp only [isAggJ_eq, sizeJ_eq] at e
  split at e
  · rename_i n h1 h2
    obtain ⟨id, off, rfl, ex13⟩ := avPtr_inv e
    obtain ⟨cs, h3, ex14⟩ := getJ_inv ex13
    obtain ⟨l, h4, ex15⟩ := cutJ_inv ex14
    exact ⟨_, by simp [loadA, h1, h2, h3, h4], ex15⟩
  · rename_i n h1 h2
    obtain ⟨id, off, rfl, ex16⟩ := avPtr_inv e
    obtain ⟨cs, h3, ex17⟩ := getJ_inv ex16
    obtain ⟨v, h4, ex18⟩ := nthA_inv ex17
    exact ⟨v, by simp [loadA, h1, h2, h3, h4], ex18⟩
  · exact nomatch e
inductive StoK where | mk (f : AV → AV → Hp → (Hp → R) → R)
def StoK.run (g : StoK) (a v : AV) (h : Hp) (k : Hp → R) : R := StoK.rec (motive := fun _ => R) (fun f => f a v h k) g
def stoK (t : TypeId) : StoK :=
  match sizeJ P t with
  | some n => .mk fun a v h k => avPtr a fun id off => getJ h id fun cs => avCells v fun l => andR (Nat.beq (lenJ l 0) n) (andR (allOneJ l) (overJ cs off l fun cs' => putJ h id (some (.cells cs')) k))
  | none => .mk fun _ _ _ _ => none
theorem stoK_run {t : TypeId} {a v : AV} {h : Hp} {k : Hp → R} {r : AV × Hp} (e : (stoK P t).run a v h k = some r) : ∃ h', storeA P t a v h = some h' ∧ k h' = some r := by
  unfold stoK at e
  simp only [sizeJ_eq] at e
  split at e
  · rename_i n h2
    obtain ⟨id, off, rfl, ex19⟩ := avPtr_inv e
    obtain ⟨cs, h3, ex20⟩ := getJ_inv ex19
    have ex21 := avCells_inv ex20
    obtain ⟨h4, ex22⟩ := andR_inv ex21
    obtain ⟨h5, ex23⟩ := andR_inv ex22
    obtain ⟨l, h6, ex24⟩ := overJ_inv _ ex23
    rw [lenJ_eq, Nat.zero_add] at h4
    rw [allOneJ_eq] at h5
    exact ⟨_, by simp [storeA, h2, h3, h4, h5, h6], putJ_inv ex24⟩
  · exact nomatch e

/-! Addresses, parts. -/
def faK (s : TypeId) (f : Nat) : UK :=
  match undJ P s with
  | some (.struct fields) =>
    match fields[f]? with
    | some fl =>
      match sizeJ P fl.type with
      | some n => bif Nat.beq n 0 then .mk fun _ _ => none else .mk fun x k => avPtr x fun id off => forceN (Nat.add off fl.offset) fun o => k (.ptr id o)
      | none => .mk fun _ _ => none
    | none => .mk fun _ _ => none
  | _ => .mk fun _ _ => none
theorem faK_run {s : TypeId} {f : Nat} {x : AV} {k : AV → R} {r : AV × Hp} (e : (faK P s f).run x k = some r) : ∃ v, fieldAddrA P s x f = some v ∧ k v = some r := by
  unfold faK at e
  simp only [undJ_eq, sizeJ_eq] at e
  split at e
  · rename_i fields h1
    split at e
    · rename_i fl h2
      split at e
      · rename_i n h3
        cases hn : Nat.beq n 0 with
        | true => rw [hn] at e; exact nomatch e
        | false =>
          rw [hn] at e
          obtain ⟨id, off, rfl, ex25⟩ := avPtr_inv e
          rw [forceN_eq] at ex25
          exact ⟨_, by simp only [fieldAddrA, h1, h2, h3, hn, cond_false]; rfl, ex25⟩
      · exact nomatch e
    · exact nomatch e
  · exact nomatch e
inductive U2K where | mk (f : AV → AV → (AV → R) → R)
def U2K.run (g : U2K) (x y : AV) (k : AV → R) : R := U2K.rec (motive := fun _ => R) (fun f => f x y k) g
def iaK (t : TypeId) : U2K :=
  match undJ P t with
  | some (.slice elem) =>
    match sizeJ P elem with
    | some s => .mk fun x ix k => avSl x fun id off len _ sz => avNat ix fun i => andR (Nat.blt i len) (andR (Nat.beq s sz) (forceN (Nat.add off (Nat.mul i sz)) fun o => k (.ptr id o)))
    | none => .mk fun _ _ _ => none
  | _ => .mk fun x ix k => o2 (indexAddrA P t x ix) k
theorem iaK_run {t : TypeId} {x ix : AV} {k : AV → R} {r : AV × Hp} (e : (iaK P t).run x ix k = some r) : ∃ v, indexAddrA P t x ix = some v ∧ k v = some r := by
  unfold iaK at e
  simp only [undJ_eq, sizeJ_eq] at e
  split at e
  · rename_i elem h1
    split at e
    · rename_i s h2
      obtain ⟨id, off, len, cap, sz, rfl, ex26⟩ := avSl_inv e
      obtain ⟨j, i, rfl, ex27⟩ := avNat_inv ex26
      obtain ⟨h3, ex28⟩ := andR_inv ex27
      obtain ⟨h4, ex29⟩ := andR_inv ex28
      rw [forceN_eq] at ex29
      exact ⟨_, by simp only [indexAddrA, h1, h2, h3, h4, Bool.and_self, cond_true]; rfl, ex29⟩
    · exact nomatch e
  · exact o2_inv e
def ixK (t : TypeId) : U2K :=
  match undJ P t with
  | some .string => .mk fun x ix k => avStr x fun l => avNat ix fun i => byteJ l i fun b => k (.int .u8 (.ofNat b))
  | _ => .mk fun x ix k => o2 (indexA P t x ix) k
theorem ixK_run {t : TypeId} {x ix : AV} {k : AV → R} {r : AV × Hp} (e : (ixK P t).run x ix k = some r) : ∃ v, indexA P t x ix = some v ∧ k v = some r := by
  unfold ixK at e
  simp only [undJ_eq] at e
  split at e
  · rename_i h1
    obtain ⟨l, rfl, ex30⟩ := avStr_inv e
    obtain ⟨j, i, rfl, ex31⟩ := avNat_inv ex30
    obtain ⟨b, h2, ex32⟩ := byteJ_inv ex31
    exact ⟨_, by simp only [indexA, h1, h2]; rfl, ex32⟩
  · exact o2_inv e
def lnK (ats : Array TypeId) : UK :=
  match ats[0]? with
  | some t =>
    match undJ P t with
    | some .string => .mk fun x k => avStr x fun l => forceN (lenJ l 0) fun n => k (.int .i64 (.ofNat n))
    | some (.slice _) => .mk fun x k => avLen x fun n => forceN n fun n => k (.int .i64 (.ofNat n))
    | _ => .mk fun x k => o2 (lenA P ats x) k
  | none => .mk fun x k => o2 (lenA P ats x) k
theorem lnK_run {ats : Array TypeId} {x : AV} {k : AV → R} {r : AV × Hp} (e : (lnK P ats).run x k = some r) : ∃ v, lenA P ats x = some v ∧ k v = some r := by
  unfold lnK at e
  simp only [undJ_eq] at e
  split at e
  · rename_i t h1
    split at e
    · rename_i h2
      obtain ⟨l, rfl, ex33⟩ := avStr_inv e
      rw [forceN_eq, lenJ_eq, Nat.zero_add] at ex33
      exact ⟨_, by simp only [lenA, h1, h2]; rfl, ex33⟩
    · rename_i el h2
      rcases avLen_inv e with ⟨rfl, ex34⟩ | ⟨a, b, c, d, f, rfl, ex34⟩
      · exact ⟨_, by simp only [lenA, h1, h2]; rfl, ex34⟩
      · have q := (forceN_eq c fun n => k (.int .i64 (.ofNat n))).symm.trans ex34
        exact ⟨_, by simp only [lenA, h1, h2]; rfl, q⟩
    · exact o2_inv e
  · exact o2_inv e

/-! Structs, rows, appends, parts of texts. -/
inductive FlK where | mk (f : TT2 → List AV → (List AV → R) → R)
def FlK.run (g : FlK) (t : TT2) (cs : List AV) (k : List AV → R) : R := FlK.rec (motive := fun _ => R) (fun f => f t cs k) g
def flK (place : Nat → Option (Nat × Nat)) (ps : List (Nat × Operand)) : FlK :=
  List.rec (motive := fun _ => FlK) (.mk fun _ cs k => k cs) (fun p _ ih => match place p.1 with
    | some q => .mk fun t cs k => avCells ((gxK p.2).run t) fun l => andR (Nat.beq (lenJ l 0) q.2) (andR (allOneJ l) (overJ cs q.1 l fun cs' => ih.run t cs' k))
    | none => .mk fun _ _ _ => none) ps
theorem flK_run {n : Nat} {t : TT2} {tm : Tm} (ag : Agr n t tm) {place : Nat → Option (Nat × Nat)} {r : AV × Hp} : ∀ (ps : List (Nat × Operand)) (cs : List AV) (k : List AV → R), (∀ x ∈ ps, okX n x.2 = true) →
    (flK place ps).run t cs k = some r → ∃ cs', fillA place (ps.map fun (i, x) => (i, evX tm x)) cs = some cs' ∧ k cs' = some r := by
  intro ps
  induction ps with
  | nil => intro cs k _ h; exact ⟨cs, rfl, h⟩
  | cons p ps ih =>
    intro cs k hok h
    have h2 : FlK.run (match place p.1 with
      | some q => .mk fun t cs k => avCells ((gxK p.2).run t) fun l => andR (Nat.beq (lenJ l 0) q.2) (andR (allOneJ l) (overJ cs q.1 l fun cs' => (flK place ps).run t cs' k))
      | none => .mk fun _ _ _ => none) t cs k = some r := h
    split at h2
    · rename_i q hq
      have h3 : avCells ((gxK p.2).run t) (fun l => andR (Nat.beq (lenJ l 0) q.2) (andR (allOneJ l) (overJ cs q.1 l fun cs' => (flK place ps).run t cs' k))) = some r := h2
      rw [gxK_run ag p.2 (hok p (List.mem_cons_self ..))] at h3
      have h4 := avCells_inv h3
      obtain ⟨h5, h6⟩ := andR_inv h4
      obtain ⟨h7, h8⟩ := andR_inv h6
      obtain ⟨cs1, h9, h10⟩ := overJ_inv _ h8
      rw [lenJ_eq, Nat.zero_add] at h5
      rw [allOneJ_eq] at h7
      obtain ⟨cs2, h11, h12⟩ := ih cs1 k (fun x hx => hok x (List.mem_cons_of_mem _ hx)) h10
      refine ⟨cs2, ?_, h12⟩
      obtain ⟨i, x⟩ := p
      obtain ⟨off, size⟩ := q
      simp only [List.map_cons, fillA]
      simp only [] at hq h5 h9 h7
      rw [hq]
      simp only [h5, h7, Bool.and_self, cond_true, h9]
      exact h11
    · exact nomatch h2
inductive TvK where | mk (f : TT2 → (AV → R) → R)
def TvK.run (g : TvK) (t : TT2) (k : AV → R) : R := TvK.rec (motive := fun _ => R) (fun f => f t k) g
def buK (ty : TypeId) (ps : List (Nat × Operand)) : TvK :=
  match zeroA P ty, undJ P ty with
  | some z, some (.struct fields) =>
    match placesA P fields.toList with
    | some pl => bif z.cells.all AV.one then .mk fun t k => (flK (fun i => pl[i]?) ps).run t z.cells fun cs => k (.agg cs) else .mk fun _ _ => none
    | none => .mk fun _ _ => none
  | some z, some (.array _ elem) =>
    match sizeA P elem with
    | some size => bif z.cells.all AV.one then .mk fun t k => (flK (fun i => some (i * size, size)) ps).run t z.cells fun cs => k (.agg cs) else .mk fun _ _ => none
    | none => .mk fun _ _ => none
  | _, _ => .mk fun _ _ => none
theorem buK_run {n : Nat} {t : TT2} {tm : Tm} (ag : Agr n t tm) {ty : TypeId} {ps : List (Nat × Operand)} (hok : ∀ x ∈ ps, okX n x.2 = true) {k : AV → R} {r : AV × Hp} (e : (buK P ty ps).run t k = some r) :
    ∃ v, buildA P ty (ps.map fun (i, x) => (i, evX tm x)) = some v ∧ k v = some r := by
  unfold buK at e
  rw [undJ_eq] at e
  split at e
  · rename_i z fields h1 h2
    split at e
    · rename_i pl h3
      cases hb : z.cells.all AV.one with
      | false => rw [hb] at e; exact nomatch e
      | true =>
        rw [hb] at e
        obtain ⟨cs, h4, h5⟩ := flK_run ag ps z.cells _ hok e
        exact ⟨.agg cs, by simp only [buildA, h1, h2, h3, hb, cond_true, h4, Option.map_some], h5⟩
    · exact nomatch e
  · rename_i z len elem h1 h2
    split at e
    · rename_i size h3
      cases hb : z.cells.all AV.one with
      | false => rw [hb] at e; exact nomatch e
      | true =>
        rw [hb] at e
        obtain ⟨cs, h4, h5⟩ := flK_run ag (place := fun i => some (i * size, size)) ps z.cells (fun cs => k (.agg cs)) hok e
        exact ⟨.agg cs, by simp only [buildA, h1, h2, h3, hb, cond_true, h4, Option.map_some], h5⟩
    · exact nomatch e
  · exact nomatch e
inductive ThK where | mk (f : TT2 → Hp → (AV → Hp → R) → R)
def ThK.run (g : ThK) (t : TT2) (h : Hp) (k : AV → Hp → R) : R := ThK.rec (motive := fun _ => R) (fun f => f t h k) g
def bsK (ty : TypeId) (len : Nat) (ps : List (Nat × Operand)) : ThK :=
  match undJ P ty with
  | some (.slice elem) =>
    match sizeJ P elem, zeroA P elem with
    | some size, some z =>
      bif Nat.ble (len * size) 16777216 && Nat.beq z.cells.length size && z.cells.all AV.one && Nat.blt 0 size then
        .mk fun t h k => (flK (fun i => some (i * size, size)) ps).run t (repA z.cells len) fun cs => newJ cs h fun id h' => k (.sl id 0 len len size) h'
      else .mk fun _ _ _ => none
    | _, _ => .mk fun _ _ _ => none
  | _ => .mk fun _ _ _ => none
theorem bsK_run {n : Nat} {t : TT2} {tm : Tm} (ag : Agr n t tm) {ty : TypeId} {len : Nat} {ps : List (Nat × Operand)} (hok : ∀ x ∈ ps, okX n x.2 = true) {h : Hp} {k : AV → Hp → R} {r : AV × Hp} (e : (bsK P ty len ps).run t h k = some r) :
    ∃ v h', buildSliceA P ty len (ps.map fun (i, x) => (i, evX tm x)) h = some (v, h') ∧ k v h' = some r := by
  unfold bsK at e
  simp only [undJ_eq, sizeJ_eq] at e
  split at e
  · rename_i elem h1
    split at e
    · rename_i size z h2 h3
      cases hb : (Nat.ble (len * size) 16777216 && Nat.beq z.cells.length size && z.cells.all AV.one && Nat.blt 0 size) with
      | false => rw [hb] at e; exact nomatch e
      | true =>
        rw [hb] at e
        obtain ⟨cs, h4, h5⟩ := flK_run ag (place := fun i => some (i * size, size)) ps (repA z.cells len) (fun cs => newJ cs h fun id h' => k (.sl id 0 len len size) h') hok e
        obtain ⟨id, h', h6, h7⟩ := newJ_inv h5
        exact ⟨_, h', by simp only [buildSliceA, h1, h2, h3, hb, cond_true, h4, h6, Option.map_some], h7⟩
    · exact nomatch e
  · exact nomatch e
/-- The cells that an append takes over. -/
def srcJ (x : AV) (sz : Nat) (h : Hp) (k : List AV → Nat → R) : R :=
  avSeq x (k [] 0) fun id off len _ s => getJ h id fun cs => andR (Nat.beq s sz) (cutJ off (Nat.mul len sz) cs fun l => k l len)
theorem srcJ_inv {x : AV} {sz : Nat} {h : Hp} {k : List AV → Nat → R} {r : AV × Hp} (e : srcJ x sz h k = some r) : ∃ new m, srcCells x sz h = some (new, m) ∧ k new m = some r := by
  rcases avSeq_inv e with ⟨rfl, e1⟩ | ⟨id, off, len, cap, s, rfl, e1⟩
  · exact ⟨[], 0, rfl, e1⟩
  · obtain ⟨cs, h1, e2⟩ := getJ_inv e1
    obtain ⟨h2, e3⟩ := andR_inv e2
    obtain ⟨l, h3, e4⟩ := cutJ_inv e3
    have h3 : cut off (len * sz) cs = some l := h3
    exact ⟨l, len, by simp only [srcCells, h1, h2, cond_true, h3, Option.map_some], e4⟩
def toJ (sz : Nat) (s : AV) (new : List AV) (m : Nat) (h : Hp) (k : AV → Hp → R) : R :=
  avSeq s (orR (Nat.beq m 0) (k .nils h) (andR (Nat.ble m maxNeed) (newJ new h fun id h' => k (.sl id 0 m m sz) h')))
    fun id off len cap s2 => getJ h id fun cs => andR (Nat.beq s2 sz) (forceN (Nat.add len m) fun lm => andR (Nat.ble lm maxNeed)
      (orR (Nat.ble lm cap) (overJ cs (Nat.add off (Nat.mul len sz)) new fun cs' => putJ h id (some (.cells cs')) fun h' => k (.sl id off lm cap sz) h')
        (cutJ off (Nat.mul len sz) cs fun old => putJ h id none fun h1 => newJ (appL old new) h1 fun id' h' => k (.sl id' 0 lm lm sz) h')))
where appL (l : List AV) : List AV → List AV := List.rec (motive := fun _ => List AV → List AV) (fun m => m) (fun a _ ih m => a :: ih m) l
theorem appL_eq (l m : List AV) : toJ.appL l m = l ++ m := by
  induction l with
  | nil => rfl
  | cons a l ih => show a :: toJ.appL l m = _; rw [ih]; rfl
theorem toJ_inv {sz : Nat} {s : AV} {new : List AV} {m : Nat} {h : Hp} {k : AV → Hp → R} {r : AV × Hp} (e : toJ sz s new m h k = some r) : ∃ v h', appendTo sz s new m h = some (v, h') ∧ k v h' = some r := by
  rcases avSeq_inv e with ⟨rfl, e1⟩ | ⟨id, off, len, cap, s2, rfl, e1⟩
  · rcases orR_cases e1 with ⟨h1, e2⟩ | ⟨h1, e2⟩
    · exact ⟨.nils, h, by simp only [appendTo, h1, cond_true], e2⟩
    · obtain ⟨h2, e3⟩ := andR_inv e2
      obtain ⟨id, h', h3, e4⟩ := newJ_inv e3
      exact ⟨_, h', by simp only [appendTo, h1, h2, cond_true, cond_false, h3, Option.map_some], e4⟩
  · obtain ⟨cs, h1, e2⟩ := getJ_inv e1
    obtain ⟨h2, e3⟩ := andR_inv e2
    rw [forceN_eq] at e3
    obtain ⟨h3, e4⟩ := andR_inv e3
    have h3 : Nat.ble (len + m) maxNeed = true := h3
    rcases orR_cases e4 with ⟨h4, e5⟩ | ⟨h4, e5⟩
    · have h4 : Nat.ble (len + m) cap = true := h4
      obtain ⟨l, h5, e6⟩ := overJ_inv _ e5
      have h5 : over (off + len * sz) new cs = some l := h5
      have e7 := putJ_inv e6
      exact ⟨.sl id off (len + m) cap sz, h.put id (some (.cells l)), by simp only [appendTo, h1, h2, h3, h4, Bool.and_self, cond_true, h5], e7⟩
    · have h4 : Nat.ble (len + m) cap = false := h4
      obtain ⟨l, h5, e6⟩ := cutJ_inv e5
      have h5 : cut off (len * sz) cs = some l := h5
      have e7 := putJ_inv e6
      obtain ⟨id', h', h6, e8⟩ := newJ_inv e7
      rw [appL_eq] at h6
      exact ⟨.sl id' 0 (len + m) (len + m) sz, h', by simp only [appendTo, h1, h2, h3, h4, Bool.and_self, cond_true, cond_false, h5, h6, Option.map_some], e8⟩
inductive ApK where | mk (f : AV → AV → Hp → (AV → Hp → R) → R)
def ApK.run (g : ApK) (s x : AV) (h : Hp) (k : AV → Hp → R) : R := ApK.rec (motive := fun _ => R) (fun f => f s x h k) g
def apK (ats : Array TypeId) : ApK :=
  match ats[0]?, ats[1]? with
  | some t0, some t1 =>
    match undJ P t0, undJ P t1 with
    | some (.slice elem), some _ =>
      match sizeA P elem, bytesA P elem, zeroA P elem with
      | some sz, some bytes, some z =>
        bif !isIntA P t1 && Nat.ble bytes 4096 && Nat.blt 0 bytes && Nat.blt 0 sz && Nat.beq z.cells.length sz && z.cells.all AV.one then
          (bif isStrT P t1 then .mk fun s x h k => oh (appendA P ats s x h) k else .mk fun s x h k => srcJ x sz h fun new m => toJ sz s new m h k)
        else .mk fun _ _ _ _ => none
      | _, _, _ => .mk fun _ _ _ _ => none
    | _, _ => .mk fun _ _ _ _ => none
  | _, _ => .mk fun _ _ _ _ => none
theorem apK_run {ats : Array TypeId} {s x : AV} {h : Hp} {k : AV → Hp → R} {r : AV × Hp} (e : (apK P ats).run s x h k = some r) : ∃ v h', appendA P ats s x h = some (v, h') ∧ k v h' = some r := by
  unfold apK at e
  split at e
  · rename_i t0 t1 h1 h2
    simp only [undJ_eq] at e
    split at e
    · rename_i elem d h3 h4
      split at e
      · rename_i sz bytes z h5 h6 h7
        cases hb : (!isIntA P t1 && Nat.ble bytes 4096 && Nat.blt 0 bytes && Nat.blt 0 sz && Nat.beq z.cells.length sz && z.cells.all AV.one) with
        | false => rw [hb] at e; exact nomatch e
        | true =>
          rw [hb] at e
          simp only [cond_true] at e
          cases hs : isStrT P t1 with
          | true => rw [hs] at e; exact oh_inv e
          | false =>
            rw [hs] at e
            have e0 : srcJ x sz h (fun new m => toJ sz s new m h k) = some r := e
            obtain ⟨new, m, h8, e1⟩ := srcJ_inv e0
            have e1' : toJ sz s new m h k = some r := e1
            obtain ⟨v, h', h9, e2⟩ := toJ_inv e1'
            exact ⟨v, h', by simp only [appendA, h1, h2, h3, h4, h5, h6, h7, hb, cond_true, h8, h9], e2⟩
      · exact nomatch e
    · exact nomatch e
  · exact nomatch e
/-- A part of a text. -/
def boundJ (x : Option AV) (dflt : Nat) (k : Nat → R) : R := Option.rec (motive := fun _ => R) (k dflt) (fun v => avNat v k) x
theorem boundJ_inv {x : Option AV} {dflt : Nat} {k : Nat → R} {r : AV × Hp} (e : boundJ x dflt k = some r) : ∃ m, boundA x dflt = some m ∧ k m = some r := by
  cases x with
  | none => exact ⟨dflt, rfl, e⟩
  | some v =>
    obtain ⟨j, m, rfl, e1⟩ := avNat_inv e
    exact ⟨m, rfl, e1⟩
inductive SlK where | mk (f : AV → Option AV → Option AV → Option AV → (AV → R) → R)
def SlK.run (g : SlK) (x : AV) (lo hi mx : Option AV) (k : AV → R) : R := SlK.rec (motive := fun _ => R) (fun f => f x lo hi mx k) g
def slK (t : TypeId) : SlK :=
  bif isStrT P t then .mk fun x lo hi mx k => Option.rec (motive := fun _ => R) (avStr x fun l => boundJ lo 0 fun a => boundJ hi (lenJ l 0) fun b =>
      andR (Nat.ble a b) (andR (Nat.ble b (lenJ l 0)) (dropN l a fun l' => firstN (Nat.sub b a) l' fun l'' => k (.str l'')))) (fun _ => none) mx
  else .mk fun x lo hi mx k => o2 (sliceA P t x lo hi mx) k
theorem slK_run {t : TypeId} {x : AV} {lo hi mx : Option AV} {k : AV → R} {r : AV × Hp} (e : (slK P t).run x lo hi mx k = some r) : ∃ v, sliceA P t x lo hi mx = some v ∧ k v = some r := by
  unfold slK at e
  cases hs : isStrT P t with
  | false => rw [hs] at e; exact o2_inv e
  | true =>
    rw [hs] at e
    simp only [cond_true] at e
    have hu : P.underlying t = some .string := by
      unfold isStrT at hs
      rw [undJ_eq] at hs
      split at hs
      · rename_i h; exact h
      · exact nomatch hs
    cases mx with
    | some m => exact nomatch e
    | none =>
      obtain ⟨l, rfl, e1⟩ := avStr_inv (show avStr x (fun l => boundJ lo 0 fun a => boundJ hi (lenJ l 0) fun b =>
        andR (Nat.ble a b) (andR (Nat.ble b (lenJ l 0)) (dropN l a fun l' => firstN (Nat.sub b a) l' fun l'' => k (.str l'')))) = some r from e)
      obtain ⟨a, h1, e2⟩ := boundJ_inv e1
      obtain ⟨b, h2, e3⟩ := boundJ_inv e2
      obtain ⟨h3, e4⟩ := andR_inv e3
      obtain ⟨h4, e5⟩ := andR_inv e4
      rw [dropN_eq, firstN_eq] at e5
      rw [lenJ_eq, Nat.zero_add] at h2 h4
      exact ⟨_, by simp only [sliceA, hu, h1, h2, h3, h4, Bool.and_self, cond_true]; rfl, e5⟩
end
end Go.PE
