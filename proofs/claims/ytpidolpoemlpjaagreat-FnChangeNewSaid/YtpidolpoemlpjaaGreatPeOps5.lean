/-
  Part of the proof: an evaluator of the model's code, proved sound, and its run (PeOps5).
-/
import Derived.Test.YtpidolpoemlpjaaGreatPeOps4
import Derived.IntWalk
import Derived.WideShapes
import Derived.Lib.Strings
import Derived.Laws.StructEq
set_option linter.unusedVariables false
set_option linter.unusedSimpArgs false
set_option linter.unnecessarySimpa false
set_option linter.unusedSectionVars false
namespace Go.PE
section
variable {P : Program} {τ : Nat → Value} {B : Base} {ι : Emb} {h : Hp} {w : World}

/-! ## Numbers -/
theorem ltI_eq (a b : Int) : ltI a b = decide (a < b) := by
  cases a <;> cases b <;> simp [ltI]
  · rw [Bool.eq_iff_iff]; simp [Nat.blt_eq]
  · omega
  · omega
  · rw [Bool.eq_iff_iff]; simp [Nat.blt_eq]; omega
theorem eqI_eq (a b : Int) : eqI a b = decide (a = b) := by
  cases a <;> cases b <;> simp [eqI]
  · rw [Bool.eq_iff_iff]; simp [Nat.beq_eq]; omega
  · rw [Bool.eq_iff_iff]; simp [Nat.beq_eq]
theorem eqI_beq (a b : Int) : eqI a b = (a == b) := by rw [eqI_eq]; rfl
theorem eqL_eq : ∀ (a b : List Nat), eqL a b = decide (a = b) := by
  intro a
  induction a with
  | nil => intro b; cases b <;> simp [eqL]
  | cons x xs ih =>
    intro b
    cases b with
    | nil => simp [eqL]
    | cons y ys =>
      simp only [eqL, ih]
      cases hb : Nat.beq x y with
      | true => simp only [Nat.beq_eq] at hb; simp [hb]
      | false =>
        have : x ≠ y := by intro e; subst e; simp at hb
        simp [this]
theorem two63_eq : two63 = 2 ^ 63 := by decide
theorem wrapA_eq (k : IntKind) (n : Int) : wrapA k n = k.wrap n := by
  unfold wrapA
  split
  · rename_i a
    cases hb : Nat.blt a two63 with
    | false => rw [cond_false]
    | true =>
      rw [Nat.blt_eq] at hb
      have h63 := two63_eq
      rw [cond_true]
      exact (IntWalk.i64_in _ (by simp; omega)).symm
  · rename_i a
    cases hb : Nat.blt a two63 with
    | false => rw [cond_false]
    | true =>
      rw [Nat.blt_eq] at hb
      have h63 := two63_eq
      rw [cond_true]
      exact (IntWalk.i64_in _ (by omega)).symm
  · rfl

theorem strOf_inj {s t : ByteArray} (h : strOf s = strOf t) : s = t := by
  have : s.data.toList = t.data.toList := by
    unfold strOf at h
    have hf : Function.Injective (fun (x : UInt8) => x.toNat) := fun a b e => UInt8.toNat_inj.1 e
    exact (List.map_inj_right hf).1 h
  cases s; cases t
  congr
  exact Array.ext' this
theorem strOf_append (s t : ByteArray) : strOf (s ++ t) = strOf s ++ strOf t := by
  unfold strOf; simp
theorem toList_eq (s t : ByteArray) : (s.toList == t.toList) = eqL (strOf s) (strOf t) := by
  rw [eqL_eq, Lib.toList_data, Lib.toList_data, Bool.eq_iff_iff]
  simp
  constructor
  · intro e; rw [show s = t from WideShapes.bytes_inj (by rw [e])]
  · intro e; rw [strOf_inj e]

theorem arith_sound {op : BinOp} {k : IntKind} {a b : Int} {r : AV} (h1 : op ≠ .shl) (h2 : op ≠ .shr) (he : arithI op k a b = some r) (t : TypeId) (w : World) :
    ∃ z, (binOp op t (.int k a) (.int k b)).run P w = .ok z w ∧ RelV τ ι z r := by
  have hnz : eqI b 0 = false → b ≠ 0 := by intro e hb; rw [eqI_eq, hb] at e; simp at e
  cases op <;> simp only [arithI, cmpI] at he <;> first
    | exact absurd rfl h1
    | exact absurd rfl h2
    | (simp at he; done)
    | skip
  case add => simp at he; subst he; exact ⟨_, by simp [binOp, Op.intArith, wrapA_eq], .int _ _⟩
  case sub => simp at he; subst he; exact ⟨_, by simp [binOp, Op.intArith, wrapA_eq], .int _ _⟩
  case mul => simp at he; subst he; exact ⟨_, by simp [binOp, Op.intArith, wrapA_eq], .int _ _⟩
  case quo =>
    cases hb : eqI b 0 with
    | true => rw [hb] at he; simp at he
    | false =>
      rw [hb] at he; simp at he; subst he
      exact ⟨_, by simp [binOp, Op.intDiv, hnz hb, wrapA_eq], .int _ _⟩
  case rem =>
    cases hb : eqI b 0 with
    | true => rw [hb] at he; simp at he
    | false =>
      rw [hb] at he; simp at he; subst he
      exact ⟨_, by simp [binOp, Op.intDiv, hnz hb], .int _ _⟩
  case and => simp at he; subst he; exact ⟨_, by simp [binOp, Op.intBits], .int _ _⟩
  case or => simp at he; subst he; exact ⟨_, by simp [binOp, Op.intBits], .int _ _⟩
  case xor => simp at he; subst he; exact ⟨_, by simp [binOp, Op.intBits], .int _ _⟩
  case eql => simp at he; subst he; exact ⟨_, by simp [binOp, Op.intCmp, eqI_beq], .bool _⟩
  case neq => simp at he; subst he; exact ⟨_, by simp [binOp, Op.intCmp, eqI_beq, bne], .bool _⟩
  case lss => simp at he; subst he; exact ⟨_, by simp [binOp, Op.intCmp, ltI_eq], .bool _⟩
  case leq => simp at he; subst he; exact ⟨_, by simp [binOp, Op.intCmp, ltI_eq]; rw [Bool.eq_iff_iff]; simp, .bool _⟩
  case gtr => simp at he; subst he; exact ⟨_, by simp [binOp, Op.intCmp, ltI_eq], .bool _⟩
  case geq => simp at he; subst he; exact ⟨_, by simp [binOp, Op.intCmp, ltI_eq]; rw [Bool.eq_iff_iff]; simp, .bool _⟩

theorem eqFields_sound {d : Nat} {eq : TypeId → AV → AV → Option Bool} (ih : ∀ t x y b u v, eq t x y = some b → RelV τ ι u x → RelV τ ι v y → (Op.equalIn d t u v).run P w = .ok b w)
    {xs ys : List AV} {us vs : Array Value} (hx : RelL τ ι us.toList xs) (hy : RelL τ ι vs.toList ys) : ∀ (fs : List Field) (b : Bool), eqFieldsA P eq xs ys fs = some b →
    (Op.eqFields d us vs fs).run P w = .ok b w := by
  intro fs
  induction fs with
  | nil => intro b h; simp [eqFieldsA] at h; subst h; simp [Op.eqFields]
  | cons f fs ihf =>
    intro b h
    simp only [eqFieldsA] at h
    by_cases hn : f.name ≠ "_"
    · rw [if_pos hn] at h
      split at h
      · rename_i s a c hagg hsz ha hc
        have pa : partA P f.type xs f.offset = some a := by unfold partA; rw [hagg, hsz]; exact ha
        have pc : partA P f.type ys f.offset = some c := by unfold partA; rw [hagg, hsz]; exact hc
        obtain ⟨u, hu, ru⟩ := part_sound hx pa w
        obtain ⟨v, hv, rv⟩ := part_sound hy pc w
        simp only [Op.eqFields, if_pos hn, Sem.run_bind, hu, hv, Result.andThen_ok]
        cases he : eq f.type a c with
        | none => rw [he] at h; simp at h
        | some q =>
          rw [he] at h
          rw [ih _ _ _ _ _ _ he ru rv]
          cases q with
          | true => simp at h; simp [ihf b h]
          | false => simp at h; subst h; simp
      · simp at h
    · rw [if_neg hn] at h
      simp only [Op.eqFields, if_neg hn]
      exact ihf b h

theorem eqA_sound (w : World) : ∀ (d : Nat) (t : TypeId) (x y : AV) (b : Bool) (u v : Value) (n : Nat), eqA P d t x y = some b → RelV τ ι u x → RelV τ ι v y → d ≤ n →
    (Op.equalIn n t u v).run P w = .ok b w := by
  intro d
  induction d with
  | zero => intro t x y b u v n h; simp [eqA] at h
  | succ d ih =>
    intro t x y b u v n h hu hv hn
    obtain ⟨n, rfl⟩ : ∃ m, n = m + 1 := ⟨n - 1, by omega⟩
    simp only [eqA] at h
    split at h <;> (try (simp at h; done))
    · rename_i hun; obtain rfl := hu.bool_inv; obtain rfl := hv.bool_inv; simp at h; subst h; simp [Op.equalIn, run_under hun]
    · rename_i k a k' c hun
      obtain rfl := hu.int_inv; obtain rfl := hv.int_inv
      split at h
      · rename_i hk; subst hk; simp at h; subst h; simp [Op.equalIn, run_under hun, eqI_beq]
      · simp at h
    · rename_i hun; obtain rfl := hu.flt_inv; obtain rfl := hv.flt_inv; simp at h; subst h; simp [Op.equalIn, run_under hun]
    · rename_i hun
      obtain ⟨s, rfl, rfl⟩ := hu.str_inv; obtain ⟨s', rfl, rfl⟩ := hv.str_inv
      simp at h; subst h
      rw [← toList_eq]
      exact run_equalIn_string w n t s s' hun
    · rename_i hun; obtain rfl := hu.nilp_inv; obtain rfl := hv.nilp_inv; simp at h; subst h; simp [Op.equalIn, run_under hun]
    · rename_i hun; obtain rfl := hu.nilp_inv; obtain ⟨l, _, rfl⟩ := hv.ptr_inv; simp at h; subst h; simp [Op.equalIn, run_under hun]
    · rename_i hun; obtain rfl := hv.nilp_inv; obtain ⟨l, _, rfl⟩ := hu.ptr_inv; simp at h; subst h; simp [Op.equalIn, run_under hun]
    · rename_i hun; obtain rfl := hu.nils_inv; obtain rfl := hv.nils_inv; simp at h; subst h; simp [Op.equalIn, run_under hun]
    · rename_i hun; obtain rfl := hu.nils_inv; obtain ⟨l, c, o, _, _, _, _, _, rfl⟩ := hv.sl_inv; simp at h; subst h; simp [Op.equalIn, run_under hun]
    · rename_i hun; obtain rfl := hv.nils_inv; obtain ⟨l, c, o, _, _, _, _, _, rfl⟩ := hu.sl_inv; simp at h; subst h; simp [Op.equalIn, run_under hun]
    · rename_i hun; obtain rfl := hu.nilf_inv; obtain rfl := hv.nilf_inv; simp at h; subst h; simp [Op.equalIn, run_under hun]
    · rename_i hun; obtain rfl := hu.nilf_inv; obtain ⟨a, c, rfl, _⟩ := hv.fn_inv; simp at h; subst h; simp [Op.equalIn, run_under hun]
    · rename_i hun; obtain rfl := hv.nilf_inv; obtain ⟨a, c, rfl, _⟩ := hu.fn_inv; simp at h; subst h; simp [Op.equalIn, run_under hun]
    · rename_i fields xs ys hun
      obtain ⟨us, rfl, hx⟩ := hu.agg_inv
      obtain ⟨vs, rfl, hy⟩ := hv.agg_inv
      cases hst : P.stoodInHeld t with
      | true => rw [hst] at h; simp at h
      | false =>
        rw [hst] at h
        rw [cond_false] at h
        have hf : P.fieldsOf t = fields := by unfold Program.fieldsOf; rw [hun]
        rw [run_equalIn_struct w n t us vs (by rw [hf]; exact hun) hst, hf]
        exact eqFields_sound (fun t x y b u v h1 h2 h3 => ih t x y b u v n h1 h2 h3 (by omega)) hx hy _ _ h

theorem eqGuard_sound {op : BinOp} {t : TypeId} {x y : Operand} {u v : Value} {p q : AV} (hu : RelV τ ι u p) (hv : RelV τ ι v q) (hg : (op = .eql ∨ op = .neq) → (∃ as, p = .agg as) → P.eqGuardType P.depth t = false)
    (hd : (op = .eql ∨ op = .neq) → (p ≠ .dead ∧ ∀ i, p ≠ .tok i)) (w : World) : (eqGuard op t x y u v).run P w = .ok () w := by
  by_cases hop : op = .eql ∨ op = .neq
  · have h1 := hg hop
    obtain ⟨h2, h3⟩ := hd hop
    cases hu with
    | dead => exact absurd rfl h2
    | tok i => exact absurd rfl (h3 i)
    | agg xs as =>
      have := h1 ⟨as, rfl⟩
      cases v <;> rcases hop with rfl | rfl <;> simp [eqGuard, this]
    | _ => rcases hop with rfl | rfl <;> simp [eqGuard]
  · cases op <;> first | (exact absurd (Or.inl rfl) hop) | (exact absurd (Or.inr rfl) hop) | simp [eqGuard]

end
end Go.PE
