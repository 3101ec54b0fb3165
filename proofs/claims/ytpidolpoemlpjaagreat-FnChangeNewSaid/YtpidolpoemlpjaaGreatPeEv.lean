/-
  Part of the proof: an evaluator of the model's code, proved sound, and its run (PeEv).
-/
import Derived.Test.YtpidolpoemlpjaaGreatPeOps9
set_option linter.unusedVariables false
set_option linter.unusedSimpArgs false
set_option linter.unnecessarySimpa false
set_option linter.unusedSectionVars false
namespace Go.PE

def Hp.Wf (h : Hp) : Prop := h.next ≤ maxIds ∧ ∀ id, h.next ≤ id → h.get id = none

/-- Cells that stay as they are, whatever is done. -/
abbrev Zed := Nat → Nat → Option Value
def BOk (Z : Zed) (B : Base) : Prop := ∀ k x v, Z k x = some v → k < B.w0.heap.size ∧ ¬ B.O k x ∧ B.w0.cell? ⟨k, x, none⟩ = some v

/-- What a caller may take of an evaluator of calls. -/
def CallSound (P : Program) (τ : Nat → Value) (Z : Zed) (call : Call) : Prop :=
  ∀ f args h r h', call f args h = some (r, h') → h.Wf →
    (∃ fn c, P.funcs[f]? = some fn ∧ fn.body = some c ∧ (fn.name == "runtime.NumGoroutine") = false) ∧
    ∀ (B : Base) (ι : Emb) (w : World) (cargs : Array Value), BOk Z B → RelL τ ι cargs.toList args → Rel τ B ι h w → h'.next ≤ B.top →
      Calls P f cargs w fun e w' => ∃ v ι', e = .returned v ∧ RelV τ ι' v r ∧ Rel τ B ι' h' w' ∧ Ext ι h ι' h'

def BitsOk (P : Program) : Prop := ∀ f, isBits P f = true → ∀ (b : Nat) (w : World), (callFunc f #[.float .f64 b]).run P w = .ok (.value (.int .u64 b)) w

section
variable {P : Program} {τ : Nat → Value} {B : Base} {ι : Emb} {h : Hp} {w : World}

theorem relUndef : RelV τ ι undef (.tup []) := .tup #[] [] rfl (by simp)

theorem wp_value {o : Oper} {a : Act} {next : Act → World → Prop} {Q : Exit → Act → World → Prop} {v : Value} {w' : World}
    (hrun : (execOp a.eval o).run P w = .ok (.value v) w') (hn : next (a.put o.dst v) w') : o.wp P a w next Q := by
  unfold Oper.wp; rw [hrun]; exact hn
theorem wp_skipped {o : Oper} {a : Act} {next : Act → World → Prop} {Q : Exit → Act → World → Prop} {w' : World}
    (hrun : (execOp a.eval o).run P w = .ok .skip w') (hn : next (a.put o.dst undef) w') : o.wp P a w next Q := by
  unfold Oper.wp; rw [hrun]; exact hn

theorem opt_rel {a : Act} {tm : Tm} (ht : RelT τ ι a tm) (x : Option Operand) :
    (∀ y, x.map (evX tm) = some y → ∃ v, x.map a.eval = some v ∧ RelV τ ι v y) ∧ (x.map (evX tm) = none → x.map a.eval = none) := by
  cases x with
  | none => simp
  | some x =>
    refine ⟨fun y hy => ?_, by simp⟩
    simp at hy; subst hy
    exact ⟨_, rfl, ht.eval x⟩

set_option maxHeartbeats 4000000 in
theorem evOp_sound (hτ : ∀ i, (τ i).oneCell' = true) {call : Call} {Z : Zed} (hcall : CallSound P τ Z call) (hbits : BitsOk P) (hB : BOk Z B)
    {o : Oper} {a : Act} {tm : Tm} {r : AV} {h' : Hp} {next : Act → World → Prop} {Q : Exit → Act → World → Prop}
    (he : evOp P call tm o h = some (r, h')) (hwf : h.Wf) (ht : RelT τ ι a tm) (hr : Rel τ B ι h w) (hto : h'.next ≤ B.top)
    (hn : ∀ v w' ι', RelV τ ι' v r → Rel τ B ι' h' w' → Ext ι h ι' h' → next (a.put o.dst v) w') : o.wp P a w next Q := by
  unfold evOp at he
  -- a value that leaves the heap alone
  have pureV : ∀ {s : Sem Value} (x : Option AV), (execOp a.eval o = do pure (.value (← s))) → (x.map (·, h)) = some (r, h') → (∀ y, x = some y → ∃ z, s.run P w = .ok z w ∧ RelV τ ι z y) → o.wp P a w next Q := by
    intro s x hx hxe hs
    cases x with
    | none => simp at hxe
    | some y =>
      simp at hxe
      obtain ⟨rfl, rfl⟩ := hxe
      obtain ⟨z, hz, hv⟩ := hs y rfl
      exact wp_value (by rw [hx]; simp [hz]) (hn z w ι hv hr (Ext.refl _ _))
  have newV : ∀ {s : Sem Value}, (execOp a.eval o = do pure (.value (← s))) → (∃ w' ι' z, s.run P w = .ok z w' ∧ RelV τ ι' z r ∧ Rel τ B ι' h' w' ∧ Ext ι h ι' h') → o.wp P a w next Q := by
    intro s hx hs
    obtain ⟨w', ι', z, hz, h1, h2, h3⟩ := hs
    exact wp_value (by rw [hx]; simp [hz]) (hn z w' ι' h1 h2 h3)
  cases ho : o.op with
  | move x =>
    simp only [ho, Option.some.injEq, Prod.mk.injEq] at he
    obtain ⟨rfl, rfl⟩ := he
    exact wp_value (v := a.eval x) (by simp [execOp, ho]) (hn _ w ι (ht.eval x) hr (Ext.refl _ _))
  | assign x =>
    simp only [ho, Option.some.injEq, Prod.mk.injEq] at he
    obtain ⟨rfl, rfl⟩ := he
    exact wp_value (v := a.eval x) (by simp [execOp, ho]) (hn _ w ι (ht.eval x) hr (Ext.refl _ _))
  | pick c x y =>
    simp only [ho] at he
    split at he
    · rename_i c' hc
      have hcv := ht.eval c
      rw [hc] at hcv
      have hcb := hcv.bool_inv
      simp only [Option.some.injEq, Prod.mk.injEq] at he
      obtain ⟨rfl, rfl⟩ := he
      refine wp_value (v := if c' then a.eval x else a.eval y) (w' := w) ?_ (hn _ w ι ?_ hr (Ext.refl _ _))
      · simp [execOp, ho, hcb, asBool]
      · cases c' with
        | true => exact ht.eval x
        | false => exact ht.eval y
    · simp at he
  | alloc t =>
    simp only [ho] at he
    split at he
    · rename_i z hz
      cases hb : z.cells.all AV.one with
      | false => rw [hb] at he; simp at he
      | true =>
        rw [hb] at he
        simp only [cond_true, Option.map_eq_some_iff, Prod.mk.injEq] at he
        obtain ⟨⟨id, h2⟩, e1, rfl, rfl⟩ := he
        exact newV (s := Instr.alloc t true (.tuple #[])) (by unfold execOp; rw [ho]) (alloc_sound hτ hz hb e1 hto hr)
    · simp at he
  | box t x =>
    simp only [ho] at he
    cases hb : (evX tm x).cells.all AV.one with
    | false => rw [hb] at he; simp at he
    | true =>
      rw [hb] at he
      simp only [cond_true, Option.map_eq_some_iff, Prod.mk.injEq] at he
      obtain ⟨⟨id, h2⟩, e1, rfl, rfl⟩ := he
      exact newV (s := Instr.box t (a.eval x)) (by unfold execOp; rw [ho]) (box_sound hτ hb e1 hto hr (ht.eval x))
  | build t ps =>
    simp only [ho] at he
    refine pureV (s := Instr.build t (ps.map fun (i, x) => (i, a.eval x))) (buildA P t (ps.toList.map fun (i, x) => (i, evX tm x))) (by unfold execOp; rw [ho]) ?_ ?_
    · exact he
    · intro y hy
      exact build_sound (ps := ps) hτ ht hy w
  | buildSlice t n ps =>
    simp only [ho] at he
    exact newV (s := Instr.buildSlice t n (ps.map fun (i, x) => (i, a.eval x))) (by unfold execOp; rw [ho]) (buildSlice_sound hτ ht he hto hr)
  | load t x =>
    simp only [ho] at he
    exact pureV (s := Instr.loadAt t (a.eval x)) _ (by unfold execOp; rw [ho]) he fun y hy => let ⟨u, h1, h2, _⟩ := loadA_sound hy hr (ht.eval x); ⟨u, h1, h2⟩
  | store t x y =>
    simp only [ho, Option.map_eq_some_iff, Prod.mk.injEq] at he
    obtain ⟨h2, e1, rfl, rfl⟩ := he
    obtain ⟨w', h1, h2, h3⟩ := storeA_sound hτ e1 hr (ht.eval x) (ht.eval y)
    exact wp_skipped (w' := w') (by simp [execOp, ho, h1]) (hn _ w' ι relUndef h2 (Ext.same h3))
  | nilCheck x =>
    simp only [ho] at he
    have hv := ht.eval x
    split at he
    · rename_i id off hx
      rw [hx] at hv
      obtain ⟨l, hl, hvx⟩ := hv.ptr_inv
      simp only [Option.some.injEq, Prod.mk.injEq] at he
      obtain ⟨rfl, rfl⟩ := he
      refine wp_value (v := a.eval x) (w' := w) ?_ (hn _ w ι hv hr (Ext.refl _ _))
      simp [execOp, ho, hvx]
    · rename_i f xs ys hx
      rw [hx] at hv
      obtain ⟨xs', ys', hvx, _, _⟩ := hv.fn_inv
      simp only [Option.some.injEq, Prod.mk.injEq] at he
      obtain ⟨rfl, rfl⟩ := he
      refine wp_value (v := a.eval x) (w' := w) ?_ (hn _ w ι hv hr (Ext.refl _ _))
      simp [execOp, ho, hvx]
    · simp at he
  | binOp op t x y z =>
    simp only [ho] at he
    exact pureV (s := do eqGuard op t x y (a.eval x) (a.eval y); binOp op t (a.eval x) (a.eval y)) _ (by unfold execOp; rw [ho]) he fun q hq => binA_sound (ht.eval x) (ht.eval y) hq w
  | unOp op t x =>
    simp only [ho] at he
    exact pureV (s := Op.unary op (a.eval x)) _ (by unfold execOp; rw [ho]) he fun q hq => unA_sound (ht.eval x) hq w
  | convert s d x =>
    simp only [ho] at he
    exact pureV (s := convert s d (a.eval x)) _ (by unfold execOp; rw [ho]) he fun q hq => conv_sound hr (ht.eval x) hq
  | makeFunc fn first cap =>
    cases fn with
    | func f =>
      simp only [ho, Option.some.injEq, Prod.mk.injEq] at he
      obtain ⟨rfl, rfl⟩ := he
      have h1 := ht.evals first
      have h2 := ht.evals cap
      refine wp_value (v := .func (.func f) (first.map a.eval) (cap.map a.eval)) (w' := w) ?_ (hn _ w ι (.fn f _ _ _ _ (by simpa using h1.1) (fun i v a x y => h1.2 i v a (by simpa using x) y) (by simpa using h2.1) (fun i v a x y => h2.2 i v a (by simpa using x) y)) hr (Ext.refl _ _))
      simp [execOp, ho, Instr.makeFunc]
    | _ => simp [ho] at he
  | makeMap t rr =>
    cases rr with
    | none =>
      simp only [ho, Option.map_eq_some_iff, Prod.mk.injEq] at he
      obtain ⟨h2, e1, rfl, rfl⟩ := he
      exact newV (s := Instr.makeMap t none) (by simp [execOp, ho]) (makeMap_sound hr e1 hto)
    | some _ => simp [ho] at he
  | makeSlice t l c =>
    simp only [ho] at he
    exact newV (s := Instr.makeSlice t (a.eval l) (a.eval c)) (by unfold execOp; rw [ho]) (makeSlice_sound hτ (ht.eval l) (ht.eval c) he hto hr)
  | slice t x lo hi mx =>
    simp only [ho] at he
    exact pureV (s := Instr.sliceAt t (a.eval x) (lo.map a.eval) (hi.map a.eval) (mx.map a.eval)) _ (by unfold execOp; rw [ho]) he fun q hq =>
      slice_sound (ht.eval x) (opt_rel ht lo).1 (opt_rel ht lo).2 (opt_rel ht hi).1 (opt_rel ht hi).2 (opt_rel ht mx).1 (opt_rel ht mx).2 hq w
  | fieldAddr s x f =>
    simp only [ho] at he
    exact pureV (s := Instr.fieldAt s (a.eval x) f) _ (by unfold execOp; rw [ho]) he fun q hq => fieldAddr_sound (ht.eval x) hq w
  | field s x f =>
    simp only [ho] at he
    exact pureV (s := Instr.field s (a.eval x) f) _ (by unfold execOp; rw [ho]) he fun q hq => field_sound (ht.eval x) hq w
  | indexAddr t x ix =>
    simp only [ho] at he
    exact pureV (s := Instr.indexAt t (a.eval x) (a.eval ix)) _ (by unfold execOp; rw [ho]) he fun q hq => indexAddr_sound (ht.eval x) (ht.eval ix) hq w
  | index t x ix =>
    simp only [ho] at he
    exact pureV (s := Instr.index t (a.eval x) (a.eval ix)) _ (by unfold execOp; rw [ho]) he fun q hq => index_sound (ht.eval x) (ht.eval ix) hq w
  | lookup t x k ok =>
    simp only [ho] at he
    exact pureV (s := Instr.lookup t (a.eval x) (a.eval k) ok) _ (by unfold execOp; rw [ho]) he fun q hq => lookup_sound hr (ht.eval x) (ht.eval k) hq
  | mapUpdate t m k x =>
    simp only [ho, Option.map_eq_some_iff, Prod.mk.injEq] at he
    obtain ⟨h2, e1, rfl, rfl⟩ := he
    obtain ⟨w', h1, h2, h3⟩ := mapUpdate_sound hr (ht.eval m) (ht.eval k) (ht.eval x) e1
    exact wp_skipped (w' := w') (by simp [execOp, ho, h1]) (hn _ w' ι relUndef h2 (Ext.same h3))
  | extract t i =>
    simp only [ho] at he
    have hv := ht.eval t
    split at he
    · rename_i vs hx
      rw [hx] at hv
      obtain ⟨xs, hxs, hl⟩ := hv.tup_inv
      refine pureV (s := Instr.extract (a.eval t) i) _ (by unfold execOp; rw [ho]) he fun q hq => ?_
      have hlt : i < vs.length := by
        rcases Nat.lt_or_ge i vs.length with h | h
        · exact h
        · rw [List.getElem?_eq_none h] at hq; simp at hq
      have hlt' : i < xs.size := by have := hl.1; simp at this; omega
      refine ⟨xs[i], ?_, hl.2 i _ _ (by simp [hlt']) hq⟩
      rw [hxs]
      simp [Instr.extract, hlt']
    · simp at he
  | call c =>
    simp only [ho] at he
    have hargs := ht.evals c.args
    split at he
    · rename_i f hf
      have hv := ht.eval f
      split at he
      · rename_i f' first cap hx
        rw [hx] at hv
        obtain ⟨xs, ys, hvx, hxs, hys⟩ := hv.fn_inv
        have hall : RelL τ ι (xs ++ c.args.map a.eval ++ ys).toList (first ++ c.args.toList.map (evX tm) ++ cap) := by
          simp only [Array.toList_append]
          exact (hxs.append hargs).append hys
        have hex : execOp a.eval o = callFunc f' (xs ++ c.args.map a.eval ++ ys) := by
          simp [execOp, ho, resolve, hf, hvx, Deferred.ofValue, invoke]
        cases hb : isBits P f' with
        | true =>
          rw [hb] at he
          simp only [cond_true] at he
          split at he
          · rename_i b hb1
            simp only [Option.some.injEq, Prod.mk.injEq] at he
            obtain ⟨rfl, rfl⟩ := he
            rw [hb1] at hall
            obtain ⟨v, vs, hv1, hv2, hv3⟩ := hall.cons_inv'
            have hvs := hv3.nil_inv
            subst hvs
            have hfl := hv2.flt_inv
            subst hfl
            have harr : xs ++ c.args.map a.eval ++ ys = #[.float .f64 b] := by
              apply Array.toList_inj.1; exact hv1
            refine wp_value (v := .int .u64 b) (w' := w) ?_ (hn _ w ι (.int _ _) hr (Ext.refl _ _))
            rw [hex, harr]
            exact hbits f' hb b w
          · simp at he
        | false =>
          rw [hb] at he
          simp only [cond_false] at he
          obtain ⟨⟨fn, cc, hfn, hbody, hname⟩, hC⟩ := hcall _ _ _ _ _ he hwf
          have hC' := hC B ι w _ hB hall hr hto
          have hrun : (execOp a.eval o).run P w = .ok (.enter f' (xs ++ c.args.map a.eval ++ ys)) w := by
            rw [hex]
            have hname' : ¬ fn.name = "runtime.NumGoroutine" := by simpa using hname
            simp [callFunc, hfn, hname', hbody]
          unfold Oper.wp
          rw [hrun, Oper.upon_enter]
          refine hC'.mono fun e w' hR => ?_
          obtain ⟨v, ι', rfl, h1, h2, h3⟩ := hR
          exact hn v w' ι' h1 h2 h3
      · simp at he
    · rename_i b hb
      have hex : ∀ {s : Sem Value}, (∀ consts, builtin b c.argTypes o.type consts (c.args.map a.eval) = (do pure (.value (← s)))) → (execOp a.eval o = do pure (.value (← s))) := by
        intro s hs
        simp [execOp, ho, resolve, hb, invoke, hs]
      have two : ∀ s x, c.args.toList.map (evX tm) = [s, x] → ∃ u v, c.args.map a.eval = #[u, v] ∧ RelV τ ι u s ∧ RelV τ ι v x := by
        intro s x hsx
        rw [hsx] at hargs
        obtain ⟨u, vs, e1, e2, e3⟩ := hargs.cons_inv'
        obtain ⟨v, vs', rfl, e4, e5⟩ := e3.cons_inv'
        obtain rfl := e5.nil_inv
        exact ⟨u, v, Array.toList_inj.1 e1, e2, e4⟩
      have one : ∀ s, c.args.toList.map (evX tm) = [s] → ∃ u, c.args.map a.eval = #[u] ∧ RelV τ ι u s := by
        intro s hsx
        rw [hsx] at hargs
        obtain ⟨u, vs, e1, e2, e3⟩ := hargs.cons_inv'
        obtain rfl := e3.nil_inv
        exact ⟨u, Array.toList_inj.1 e1, e2⟩
      split at he
      · rename_i s x hsx
        obtain ⟨u, v, e1, e2, e3⟩ := two s x hsx
        exact newV (s := Builtin.append_ c.argTypes o.type #[u, v]) (hex fun _ => by simp [builtin, e1]) (append_sound hτ hr e2 e3 he hto)
      · rename_i s x hsx
        obtain ⟨u, v, e1, e2, e3⟩ := two s x hsx
        obtain ⟨w', z, h1, h2, h3, h4⟩ := copy_sound (P := P) (ty := o.type) hr e2 e3 he
        exact newV (s := Builtin.copy_ c.argTypes o.type #[u, v]) (hex fun _ => by simp [builtin, e1]) ⟨w', ι, z, h1, h2, h3, h4⟩
      · rename_i s hsx
        obtain ⟨u, e1, e2⟩ := one s hsx
        obtain ⟨w', z, h1, h2, h3, h4⟩ := clear_sound (P := P) (ty := o.type) hτ hr e2 he
        exact newV (s := Builtin.clear_ c.argTypes o.type #[u]) (hex fun _ => by simp [builtin, e1]) ⟨w', ι, z, h1, h2, h3, h4⟩
      · rename_i s hsx
        obtain ⟨u, e1, e2⟩ := one s hsx
        exact pureV (s := Builtin.len_ c.argTypes o.type #[u]) _ (hex fun _ => by simp [builtin, e1]) he fun q hq => len_sound e2 hq w
      · rename_i s hsx
        obtain ⟨u, e1, e2⟩ := one s hsx
        exact pureV (s := Builtin.cap_ c.argTypes o.type #[u]) _ (hex fun _ => by simp [builtin, e1]) he fun q hq => cap_sound e2 hq w
      · rename_i s x hsx
        obtain ⟨u, v, e1, e2, e3⟩ := two s x hsx
        exact pureV (s := Builtin.max_ c.argTypes o.type #[u, v]) _ (hex fun _ => by simp [builtin, e1]) he fun q hq => max_sound e2 e3 hq _ _ w
      · rename_i s x hsx
        obtain ⟨u, v, e1, e2, e3⟩ := two s x hsx
        exact pureV (s := Builtin.min_ c.argTypes o.type #[u, v]) _ (hex fun _ => by simp [builtin, e1]) he fun q hq => min_sound e2 e3 hq _ _ w
      · simp at he
    · simp at he
  | _ => simp [ho] at he
end
end Go.PE
