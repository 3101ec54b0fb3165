/-
  Part of the proof: an evaluator of the model's code, proved sound, and its run (PeOps6).
-/
import Derived.Test.YtpidolpoemlpjaaGreatPeOps5
set_option linter.unusedVariables false
set_option linter.unusedSimpArgs false
set_option linter.unnecessarySimpa false
set_option linter.unusedSectionVars false
namespace Go.PE
section
variable {P : Program} {τ : Nat → Value} {B : Base} {ι : Emb} {h : Hp} {w : World}

theorem flt_run {op : BinOp} {a b : Nat} {r : AV} (t : TypeId) (w : World)
    (he : (match op with
    | .add => (FloatKind.f64.format.add a b).map AV.flt
    | .sub => (FloatKind.f64.format.sub a b).map AV.flt
    | .mul => (FloatKind.f64.format.mul a b).map AV.flt
    | .quo => (FloatKind.f64.format.div a b).map AV.flt
    | .eql => some (.bool (FloatKind.f64.format.order a b == some .eq))
    | .neq => some (.bool (FloatKind.f64.format.order a b != some .eq))
    | .lss => some (.bool (FloatKind.f64.format.order a b == some .lt))
    | .leq => some (.bool (FloatKind.f64.format.order a b == some .lt || FloatKind.f64.format.order a b == some .eq))
    | .gtr => some (.bool (FloatKind.f64.format.order a b == some .gt))
    | .geq => some (.bool (FloatKind.f64.format.order a b == some .gt || FloatKind.f64.format.order a b == some .eq))
    | _ => none) = some r) :
    ∃ z, (binOp op t (.float .f64 a) (.float .f64 b)).run P w = .ok z w ∧ RelV τ ι z r := by
  cases op <;> simp only [Option.map_eq_some_iff] at he <;> (try (simp at he; done))
  case add => obtain ⟨n, hn, rfl⟩ := he; exact ⟨_, by simp [binOp, Op.floatArith, hn], .flt _⟩
  case sub => obtain ⟨n, hn, rfl⟩ := he; exact ⟨_, by simp [binOp, Op.floatArith, hn], .flt _⟩
  case mul => obtain ⟨n, hn, rfl⟩ := he; exact ⟨_, by simp [binOp, Op.floatArith, hn], .flt _⟩
  case quo => obtain ⟨n, hn, rfl⟩ := he; exact ⟨_, by simp [binOp, Op.floatArith, hn], .flt _⟩
  case eql => simp at he; subst he; exact ⟨_, by simp [binOp, Op.floatCmp], .bool _⟩
  case neq => simp at he; subst he; exact ⟨_, by simp [binOp, Op.floatCmp], .bool _⟩
  case lss => simp at he; subst he; exact ⟨_, by simp [binOp, Op.floatCmp], .bool _⟩
  case leq => simp at he; subst he; exact ⟨_, by simp [binOp, Op.floatCmp], .bool _⟩
  case gtr => simp at he; subst he; exact ⟨_, by simp [binOp, Op.floatCmp], .bool _⟩
  case geq => simp at he; subst he; exact ⟨_, by simp [binOp, Op.floatCmp], .bool _⟩

/-- `==` by type, where neither is a number, a float or a text. -/
theorem eq_run {t : TypeId} {x y : AV} {b : Bool} {u v : Value} (he : eqA P 4 t x y = some b) (hu : RelV τ ι u x) (hv : RelV τ ι v y) (w : World) :
    (binOp .eql t u v).run P w = .ok (.bool b) w ∧ (binOp .neq t u v).run P w = .ok (.bool (!b)) w := by
  have key : (Op.equal t u v).run P w = .ok b w := eqA_sound w 4 t x y b u v 10000 he hu hv (by omega)
  have hE : ∀ (op : BinOp), (op = .eql ∨ op = .neq) → (binOp op t u v = (match op with | .neq => (do pure (.bool (!(← Op.equal t u v)))) | _ => (do pure (.bool (← Op.equal t u v)))) ∨
      (binOp op t u v).run P w = .ok (.bool (match op with | .neq => !b | _ => b)) w) := by
    intro op hop
    have he' := he
    simp only [eqA] at he'
    split at he' <;> (try (simp at he'; done))
    case h_2 k a k' c hun =>
      right
      obtain rfl := hu.int_inv; obtain rfl := hv.int_inv
      split at he'
      · rename_i hk; subst hk; simp at he'; subst he'
        rcases hop with rfl | rfl <;> simp [binOp, Op.intCmp, eqI_beq, bne]
      · simp at he'
    case h_3 =>
      right
      obtain rfl := hu.flt_inv; obtain rfl := hv.flt_inv; simp at he'; subst he'
      rcases hop with rfl | rfl <;> simp [binOp, Op.floatCmp, Op.floatEq, bne]
    case h_4 =>
      right
      obtain ⟨s, rfl, rfl⟩ := hu.str_inv; obtain ⟨s', rfl, rfl⟩ := hv.str_inv; simp at he'; subst he'
      rcases hop with rfl | rfl <;> simp [binOp, Op.stringOp, ← toList_eq, bne]
    case h_1 => left; obtain rfl := hu.bool_inv; obtain rfl := hv.bool_inv; rcases hop with rfl | rfl <;> rfl
    case h_5 => left; obtain rfl := hu.nilp_inv; obtain rfl := hv.nilp_inv; rcases hop with rfl | rfl <;> rfl
    case h_6 => left; obtain rfl := hu.nilp_inv; obtain ⟨l, _, rfl⟩ := hv.ptr_inv; rcases hop with rfl | rfl <;> rfl
    case h_7 => left; obtain rfl := hv.nilp_inv; obtain ⟨l, _, rfl⟩ := hu.ptr_inv; rcases hop with rfl | rfl <;> rfl
    case h_8 => left; obtain rfl := hu.nils_inv; obtain rfl := hv.nils_inv; rcases hop with rfl | rfl <;> rfl
    case h_9 => left; obtain rfl := hu.nils_inv; obtain ⟨l, c, o, _, _, _, _, _, rfl⟩ := hv.sl_inv; rcases hop with rfl | rfl <;> rfl
    case h_10 => left; obtain rfl := hv.nils_inv; obtain ⟨l, c, o, _, _, _, _, _, rfl⟩ := hu.sl_inv; rcases hop with rfl | rfl <;> rfl
    case h_11 => left; obtain rfl := hu.nilf_inv; obtain rfl := hv.nilf_inv; rcases hop with rfl | rfl <;> rfl
    case h_12 => left; obtain rfl := hu.nilf_inv; obtain ⟨a, c, rfl, _⟩ := hv.fn_inv; rcases hop with rfl | rfl <;> rfl
    case h_13 => left; obtain rfl := hv.nilf_inv; obtain ⟨a, c, rfl, _⟩ := hu.fn_inv; rcases hop with rfl | rfl <;> rfl
    case h_14 => left; obtain ⟨a, rfl, _⟩ := hu.agg_inv; obtain ⟨c, rfl, _⟩ := hv.agg_inv; rcases hop with rfl | rfl <;> rfl
  constructor
  · rcases hE .eql (.inl rfl) with e | e
    · rw [e]; simp [key]
    · exact e
  · rcases hE .neq (.inr rfl) with e | e
    · rw [e]; simp [key]
    · exact e

theorem eqA_live {d : Nat} {t : TypeId} {x y : AV} {b : Bool} (he : eqA P d t x y = some b) : x ≠ .dead ∧ ∀ i, x ≠ .tok i := by
  cases d with
  | zero => simp [eqA] at he
  | succ d =>
    simp only [eqA] at he
    split at he <;> first | (simp at he; done) | exact ⟨by simp, by simp⟩

theorem binA_sound {op : BinOp} {t : TypeId} {x y r : AV} {X Y : Operand} {u v : Value} (hu : RelV τ ι u x) (hv : RelV τ ι v y) (he : binA P op t x y = some r) (w : World) :
    ∃ z, (do eqGuard op t X Y u v; binOp op t u v : Sem Value).run P w = .ok z w ∧ RelV τ ι z r := by
  unfold binA at he
  split at he
  · -- shl
    rename_i k a k' b
    obtain rfl := hu.int_inv; obtain rfl := hv.int_inv
    cases hb : ltI b 0 with
    | true => rw [hb] at he; simp at he
    | false =>
      rw [hb] at he; simp at he; subst he
      rw [ltI_eq] at hb; simp at hb
      exact ⟨_, by simp [eqGuard, binOp, Op.shift, Int.not_lt.2 hb], .int _ _⟩
  · rename_i k a k' b
    obtain rfl := hu.int_inv; obtain rfl := hv.int_inv
    cases hb : ltI b 0 with
    | true => rw [hb] at he; simp at he
    | false =>
      rw [hb] at he; simp at he; subst he
      rw [ltI_eq] at hb; simp at hb
      exact ⟨_, by simp [eqGuard, binOp, Op.shift, Int.not_lt.2 hb], .int _ _⟩
  · rename_i o2 x1 x2 k a k' b h1 h2
    obtain rfl := hu.int_inv; obtain rfl := hv.int_inv
    split at he
    · rename_i hk; subst hk
      obtain ⟨z, hz, hr⟩ := arith_sound (τ := τ) (ι := ι) (P := P) (fun e => h1 e) (fun e => h2 e) he t w
      refine ⟨z, ?_, hr⟩
      have hg : (eqGuard op t X Y (.int k a) (.int k b)).run P w = .ok () w := by cases op <;> simp [eqGuard]
      simp [hg, hz]
    · simp at he
  · rename_i m r' n
    obtain rfl := hv.int_inv
    cases hb : (Nat.beq n m && Nat.blt 0 m) with
    | false => rw [hb] at he; simp at he
    | true =>
      rw [hb] at he
      simp only [cond_true, Option.some.injEq] at he
      subst he
      simp only [Bool.and_eq_true, Nat.beq_eq, Nat.blt_eq] at hb
      obtain ⟨rfl, hpos⟩ := hb
      cases hu with
      | cls _ _ k hk =>
        refine ⟨.int .i64 (Int.ofNat r'), ?_, .int _ _⟩
        have h0 : ¬ ((n : Int) = 0) := by omega
        subst hk
        have hn : n ≠ 0 := by omega
        simp [eqGuard, binOp, Op.intDiv, hn, Int.tmod_eq_emod_of_nonneg]
  · rename_i o2 x1 x2 a b
    obtain rfl := hu.flt_inv; obtain rfl := hv.flt_inv
    obtain ⟨z, hz, hr⟩ := flt_run (τ := τ) (ι := ι) (P := P) t w he
    refine ⟨z, ?_, hr⟩
    have hg : (eqGuard op t X Y (.float .f64 a) (.float .f64 b)).run P w = .ok () w := by cases op <;> simp [eqGuard]
    simp [hg, hz]
  · rename_i o2 x1 x2 a b
    obtain ⟨s, rfl, rfl⟩ := hu.str_inv; obtain ⟨s', rfl, rfl⟩ := hv.str_inv
    have hg : (eqGuard op t X Y (.string s) (.string s')).run P w = .ok () w := by cases op <;> simp [eqGuard]
    split at he
    · cases hb : Nat.blt ((strOf s).length + (strOf s').length) 1000000000 with
      | false => rw [hb] at he; simp at he
      | true =>
        rw [hb] at he
        simp only [cond_true, Option.some.injEq] at he
        subst he
        simp only [Nat.blt_eq, strOf_length] at hb
        refine ⟨.string (s ++ s'), ?_, by rw [← strOf_append]; exact .str _⟩
        have hle : ¬ (((s.size + s'.size : Nat) : Int) > IntKind.i64.max) := by
          have : IntKind.i64.max = 9223372036854775807 := by decide
          rw [this]; omega
        have hle' : ¬ (IntKind.i64.max < (s.size : Int) + (s'.size : Int)) := by simpa using hle
        simp [hg, binOp, Op.stringOp, hle']
        omega
    · simp at he; subst he; exact ⟨_, by simp [hg, binOp, Op.stringOp, ← toList_eq], .bool _⟩
    · simp at he; subst he; exact ⟨_, by simp [hg, binOp, Op.stringOp, ← toList_eq], .bool _⟩
    · simp at he
  · rename_i x y _ _ _ _
    cases hb : P.eqGuardType P.depth t with
    | true => rw [hb] at he; simp at he
    | false =>
      rw [hb] at he
      simp only [cond_false, Option.map_eq_some_iff] at he
      obtain ⟨b, hb2, rfl⟩ := he
      obtain ⟨e1, _⟩ := eq_run hb2 hu hv w
      have hg := eqGuard_sound (P := P) (op := .eql) (t := t) (x := X) (y := Y) hu hv (fun _ _ => hb) (fun _ => eqA_live hb2) w
      exact ⟨_, by simp [hg, e1], .bool _⟩
  · rename_i x y _ _ _ _
    cases hb : P.eqGuardType P.depth t with
    | true => rw [hb] at he; simp at he
    | false =>
      rw [hb] at he
      simp only [cond_false, Option.map_eq_some_iff] at he
      obtain ⟨b, hb2, rfl⟩ := he
      obtain ⟨_, e1⟩ := eq_run hb2 hu hv w
      have hg := eqGuard_sound (P := P) (op := .neq) (t := t) (x := X) (y := Y) hu hv (fun _ _ => hb) (fun _ => eqA_live hb2) w
      exact ⟨_, by simp [hg, e1], .bool _⟩
  · simp at he

theorem unA_sound {op : UnOp} {x r : AV} {u : Value} (hu : RelV τ ι u x) (he : unA op x = some r) (w : World) :
    ∃ z, (Op.unary op u).run P w = .ok z w ∧ RelV τ ι z r := by
  unfold unA at he
  split at he
  · obtain rfl := hu.int_inv; simp at he; subst he; exact ⟨_, by simp [Op.unary, Op.intArith, wrapA_eq], .int _ _⟩
  · obtain rfl := hu.flt_inv; simp at he; subst he; exact ⟨_, by simp [Op.unary], .flt _⟩
  · obtain rfl := hu.bool_inv; simp at he; subst he; exact ⟨_, by simp [Op.unary], .bool _⟩
  · simp at he

end
end Go.PE
