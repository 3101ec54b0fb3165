/-
  Part of the proof: an evaluator of the model's code, proved sound, and its run (PeDraw).
-/
import Derived.Test.YtpidolpoemlpjaaGreatPeTrace3
set_option linter.unusedVariables false
set_option linter.unusedSimpArgs false
set_option linter.unnecessarySimpa false
set_option linter.unusedSectionVars false
namespace Go.PE

def al (H : Nat → Hp) : Nat → Nat → Nat
  | 0, _ => 0
  | m + 1, id => if id < (H m).next then al H m id else m + 1
def mask (ts : List Nat) (tm : Tm) : Tm := tm.zipIdx.map fun (x, i) => if ts.contains i then x else .dead

theorem mask_length (ts : List Nat) (tm : Tm) : (mask ts tm).length = tm.length := by simp [mask]
theorem mask_get (ts : List Nat) (tm : Tm) (t : Nat) : (mask ts tm)[t]? = (tm[t]?).map fun x => if ts.contains t then x else .dead := by
  simp [mask, List.getElem?_map, List.getElem?_zipIdx]
  cases tm[t]? <;> simp
theorem mask_at (ts : List Nat) (tm : Tm) (t : Nat) (ht : t ∈ ts) : Tm.at (mask ts tm) t = Tm.at tm t := by
  rw [Tm.at_eq, Tm.at_eq, mask_get]
  have : ts.contains t = true := by simpa using ht
  rw [this]
  cases tm[t]? <;> simp

theorem at_putD (tm : Tm) (d : Option Nat) (v : AV) (t : Nat) (h : d ≠ some t) : Tm.at (putD tm d v) t = Tm.at tm t := by
  cases d with
  | none => rfl
  | some d =>
    rw [Tm.at_eq, Tm.at_eq]
    simp only [putD, Tm.put_get]
    rw [if_neg (by intro e; apply h; rw [e.1])]
theorem length_putD (tm : Tm) (d : Option Nat) (v : AV) : (putD tm d v).length = tm.length := by
  cases d with
  | none => rfl
  | some d => simp [putD, Tm.put_length]

section
variable {P : Program} {call : Call} {ops : Array Oper} {H : Nat → Hp} {T : Nat → Tm}

theorem Trace.stp (tr : Trace P call ops H T) (hc : CallStp call) {j : Nat} (hj : j < ops.size) : (H j).next ≤ (H (j + 1)).next := by
  obtain ⟨o, ho, h | ⟨_, v, h1, hev, _, _, h3⟩⟩ := tr.step j hj
  · rw [h.2.2]; exact Nat.le_refl _
  · have := (evOp_stp hc (h := ⟨(H j).t, (H j).next, noId⟩) (tr.wf j (by omega)) hev).le
    rw [h3]; exact this
theorem Trace.mono (tr : Trace P call ops H T) (hc : CallStp call) {i : Nat} : ∀ {j : Nat}, i ≤ j → j ≤ ops.size → (H i).next ≤ (H j).next := by
  intro j
  induction j with
  | zero => intro h1 _; have : i = 0 := by omega
            subst this; exact Nat.le_refl _
  | succ j ih =>
    intro h1 h2
    by_cases e : i = j + 1
    · subst e; exact Nat.le_refl _
    · exact Nat.le_trans (ih (by omega) (by omega)) (tr.stp hc (by omega))
theorem Trace.keep (tr : Trace P call ops H T) (hc : CallStp call) {p id : Nat} (hid : id < (H p).next) : ∀ {q : Nat}, p ≤ q → q ≤ ops.size → (∀ i, p ≤ i → i < q → ¬ Wr H i) →
    (H q).get id = (H p).get id := by
  intro q
  induction q with
  | zero => intro h1 _ _; have : p = 0 := by omega
            subst this; rfl
  | succ q ih =>
    intro h1 h2 h3
    by_cases e : p = q + 1
    · subst e; rfl
    · rw [← ih (by omega) (by omega) (fun i x y => h3 i x (by omega))]
      have := h3 q (by omega) (by omega)
      by_cases hg : (H (q + 1)).get id = (H q).get id
      · exact hg
      · exact absurd ⟨id, Nat.lt_of_lt_of_le hid (tr.mono hc (by omega) (by omega)), hg⟩ this
theorem Trace.put (tr : Trace P call ops H T) {j : Nat} (hj : j < ops.size) : ∃ o v, ops[j]? = some o ∧ T (j + 1) = putD (T j) o.dst v := by
  obtain ⟨o, ho, h | ⟨_, v, h1, hev, h2, _, h3⟩⟩ := tr.step j hj
  · exact ⟨o, _, ho, h.2.1⟩
  · exact ⟨o, v, ho, h2⟩
theorem Trace.tm (tr : Trace P call ops H T) {p t : Nat} : ∀ {q : Nat}, p ≤ q → q ≤ ops.size → (∀ i o, p ≤ i → i < q → ops[i]? = some o → o.dst ≠ some t) →
    Tm.at (T q) t = Tm.at (T p) t := by
  intro q
  induction q with
  | zero => intro h1 _ _; have : p = 0 := by omega
            subst this; rfl
  | succ q ih =>
    intro h1 h2 h3
    by_cases e : p = q + 1
    · subst e; rfl
    · rw [← ih (by omega) (by omega) (fun i o x y => h3 i o x (by omega))]
      obtain ⟨o, v, ho, he⟩ := tr.put (j := q) (by omega)
      rw [he]
      exact at_putD _ _ _ _ (h3 q o (by omega) (by omega) ho)
theorem Trace.len (tr : Trace P call ops H T) : ∀ {q : Nat}, q ≤ ops.size → (T q).length = (T 0).length := by
  intro q
  induction q with
  | zero => intro _; rfl
  | succ q ih =>
    intro h
    obtain ⟨o, v, ho, he⟩ := tr.put (j := q) (by omega)
    rw [he, length_putD, ih (by omega)]

theorem Trace.al_spec (tr : Trace P call ops H T) (hc : CallStp call) {id : Nat} : ∀ {n : Nat}, n ≤ ops.size →
    al H n id ≤ n ∧ (id < (H n).next → id < (H (al H n id)).next ∧ ∀ m, m < al H n id → (H m).next ≤ id) := by
  intro n
  induction n with
  | zero => intro _; exact ⟨Nat.le_refl _, fun h => ⟨h, fun m hm => by simp [al] at hm⟩⟩
  | succ n ih =>
    intro h
    obtain ⟨h1, h2⟩ := ih (by omega)
    unfold al
    split
    · rename_i hlt
      exact ⟨by omega, fun _ => h2 hlt⟩
    · rename_i hge
      exact ⟨Nat.le_refl _, fun h3 => ⟨h3, fun m hm => Nat.le_trans (tr.mono hc (by omega) (by omega)) (Nat.le_of_not_lt hge)⟩⟩

/-- What is done of a region, in whatever order: `D` tells which operations, `K` how far the writers are. -/
structure Inv (P : Program) (τ : Nat → Value) (B : Base) (ops : Array Oper) (H : Nat → Hp) (T : Nat → Tm) (ι0 : Emb) (df : List Deferred) (D : Nat → Prop) (K : Nat) (ι : Emb) (a : Act) (w : World) : Prop where
  kn : K ≤ ops.size
  kw : ∀ i, i < ops.size → Wr H i → (D i ↔ i < K)
  cl : ∀ i, i < ops.size → D i → ∀ k, bit ops i k → D k
  rel : RelG τ B ι (fun id => (H (max K (al H ops.size id))).get id) (H ops.size).next w
  dom : ∀ id l, ι id = some l → id < (H 0).next ∨ B.top ≤ id ∨ ∃ i, i < ops.size ∧ D i ∧ (H i).next ≤ id ∧ id < (H (i + 1)).next
  t1 : ∀ i o t, D i → ops[i]? = some o → o.dst = some t → RelV τ ι (a.tmps.getD t undef) (Tm.at (T (i + 1)) t)
  t2 : ∀ t, (∀ i o, ops[i]? = some o → o.dst = some t → ¬ D i) → RelV τ ι (a.tmps.getD t undef) (Tm.at (T 0) t)
  size : a.tmps.size = (T 0).length
  sub : Sub ι0 ι
  ext : ∀ id l, ι id = some l → ι0 id = some l ∨ ((H 0).next ≤ id ∧ id < (H ops.size).next)
  df : a.defers = df

/-- One writer for each temporary; who looks comes behind him, or ahead, in every order. -/
def Dk (ops : Array Oper) : Prop := ∀ i j oi oj d, ops[i]? = some oi → ops[j]? = some oj → oi.dst = some d →
  (i = j ∨ oj.dst ≠ some d) ∧ (d ∉ oj.looksAt ops ∨ (i < j ∧ bit ops j i) ∨ (j < i ∧ bit ops i j))

theorem drOk_dk (h : drOk ops.toList (Region.before ops).toList (Oper.looksAt ops) = true) : Dk ops := by
  intro i j oi oj d hi hj hd
  have mem : ∀ k o, ops[k]? = some o → ((o, (Region.before ops).getD k 0), k) ∈ (ops.toList.zip (Region.before ops).toList).zipIdx := by
    intro k o hk
    have hlt : k < ops.size := (Array.getElem?_eq_some_iff.1 hk).1
    have hb : k < (Region.before ops).size := by rw [before_size]; exact hlt
    rw [List.mem_zipIdx_iff_getElem?]
    rw [List.getElem?_zip_eq_some]
    refine ⟨by simpa using hk, ?_⟩
    simp [Array.getD, hb]
  unfold drOk at h
  have h1 := List.all_eq_true.1 (List.all_eq_true.1 h _ (mem j oj hj)) _ (mem i oi hi)
  simp only [hd] at h1
  simp only [Bool.and_eq_true, Bool.or_eq_true, Bool.not_eq_true', Nat.beq_eq, Nat.blt_eq] at h1
  obtain ⟨h2, h3⟩ := h1
  refine ⟨h2.imp id fun h4 => by simpa using h4, ?_⟩
  rcases h3 with (h3 | h3) | h3
  · exact .inl (by simpa using h3)
  · exact .inr (.inl h3)
  · exact .inr (.inr h3)
end
end Go.PE
