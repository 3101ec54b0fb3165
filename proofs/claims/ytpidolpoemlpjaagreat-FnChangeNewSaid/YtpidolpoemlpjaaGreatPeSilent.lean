/-
  Part of the proof: an evaluator of the model's code, proved sound, and its run (PeSilent).
-/
import Derived.Test.YtpidolpoemlpjaaGreatPeStep
set_option linter.unusedVariables false
set_option linter.unusedSimpArgs false
set_option linter.unnecessarySimpa false
set_option linter.unusedSectionVars false
namespace Go.PE
section
variable {P : Program} {h h' : Hp}

theorem evOp_congr {call : Call} {tm tm' : Tm} {o : Oper} (hx : ∀ x ∈ o.op.operands, evX tm x = evX tm' x) : evOp P call tm o h = evOp P call tm' o h := by
  obtain ⟨dst, op, type, pos, after, guard⟩ := o
  have pairs : ∀ ps : Array (Nat × Operand), (∀ x ∈ ps.map (·.2), evX tm x = evX tm' x) →
      (ps.toList.map fun (i, x) => (i, evX tm x)) = (ps.toList.map fun (i, x) => (i, evX tm' x)) := fun ps hp =>
    List.map_congr_left fun p hm => by
      obtain ⟨i, x⟩ := p
      simp only [hp x (Array.mem_map.2 ⟨(i, x), by simpa using hm, rfl⟩)]
  have lists : ∀ ps : Array Operand, (∀ x ∈ ps, evX tm x = evX tm' x) → ps.toList.map (evX tm) = ps.toList.map (evX tm') := fun ps hp =>
    List.map_congr_left fun p hm => hp p (by simpa using hm)
  cases op <;> simp only [Op.operands] at hx <;> simp only [evOp]
  case build t ps => rw [pairs ps fun x hm => hx x (by simpa using hm)]
  case buildSlice t n ps => rw [pairs ps fun x hm => hx x (by simpa using hm)]
  case makeFunc fn first captured =>
    cases fn <;> simp only [] <;> rw [lists first fun x hm => hx x (by simp [hm]), lists captured fun x hm => hx x (by simp [hm])]
  case call c =>
    have hargs : c.args.toList.map (evX tm) = c.args.toList.map (evX tm') := lists _ fun x hm => hx x (by simp [Call.operands, hm])
    cases hc : c.callee with
    | value f => have hf : evX tm f = evX tm' f := hx f (by simp [Call.operands, hc]); simp only [hf, hargs]
    | invoke r m => rfl
    | builtin b => simp only [hargs]
  case makeMap t r => cases r <;> simp_all
  case slice t x lo hi mx => cases lo <;> cases hi <;> cases mx <;> simp_all
  all_goals (first | rfl | (simp_all; done))

theorem evOp_silent {call : Call} {tm : Tm} {o : Oper} {r : AV} (hl : looks o = false) (hld : ∀ t a, o.op ≠ .load t a) (he : evOp P call tm o h = some (r, h')) :
    (h' = h ∧ ∀ hx, evOp P call tm o hx = some (r, hx)) ∨
    ∃ b, ∃ f : Nat → AV, h.new b = some h' ∧ r = f h.next ∧ ∀ hx hx', hx.new b = some hx' → evOp P call tm o hx = some (f hx.next, hx') := by
  obtain ⟨dst, op, type, pos, after, guard⟩ := o
  have pureV : ∀ {x : Option AV}, (∀ hx, evOp P call tm ⟨dst, op, type, pos, after, guard⟩ hx = x.map (·, hx)) →
      (h' = h ∧ ∀ hx, evOp P call tm ⟨dst, op, type, pos, after, guard⟩ hx = some (r, hx)) ∨
      ∃ b, ∃ f : Nat → AV, h.new b = some h' ∧ r = f h.next ∧ ∀ hx hx', hx.new b = some hx' → evOp P call tm ⟨dst, op, type, pos, after, guard⟩ hx = some (f hx.next, hx') := by
    intro x hx
    rw [hx] at he
    cases x with
    | none => simp at he
    | some y =>
      simp at he; obtain ⟨rfl, rfl⟩ := he
      exact .inl ⟨rfl, fun h2 => by rw [hx]; rfl⟩
  have newV : ∀ (cs : List AV) (g : Nat → AV), (∀ hx, evOp P call tm ⟨dst, op, type, pos, after, guard⟩ hx = (newBlk cs hx).map fun p => (g p.1, p.2)) →
      (h' = h ∧ ∀ hx, evOp P call tm ⟨dst, op, type, pos, after, guard⟩ hx = some (r, hx)) ∨
      ∃ b, ∃ f : Nat → AV, h.new b = some h' ∧ r = f h.next ∧ ∀ hx hx', hx.new b = some hx' → evOp P call tm ⟨dst, op, type, pos, after, guard⟩ hx = some (f hx.next, hx') := by
    intro cs g hx
    rw [hx] at he
    simp only [Option.map_eq_some_iff, Prod.mk.injEq] at he
    obtain ⟨⟨id, h2⟩, e1, e2, rfl⟩ := he
    obtain ⟨rfl, e3⟩ := newBlk_spec e1
    refine .inr ⟨.cells cs, g, e3, e2.symm, fun hy hy' hn => ?_⟩
    rw [hx]
    simp [newBlk, hn]
  cases op <;> simp only [looks] at hl <;> (try (exact absurd rfl (hld _ _))) <;> (try (simp at hl; done)) <;> (try (simp [evOp] at he; done))
  case move x => exact pureV (x := some (evX tm x)) fun hx => by simp [evOp]
  case assign x => exact pureV (x := some (evX tm x)) fun hx => by simp [evOp]
  case pick c x y =>
    exact pureV (x := match evX tm c with | .bool c => some (bif c then evX tm x else evX tm y) | _ => none) fun hx => by
      simp only [evOp]; cases evX tm c <;> rfl
  case alloc t =>
    cases hz : zeroA P t with
    | none => simp [evOp, hz] at he
    | some z =>
      cases hb : z.cells.all AV.one with
      | false => simp [evOp, hz, hb] at he
      | true => exact newV z.cells (.ptr · 0) fun hx => by simp [evOp, hz, hb]
  case box t x =>
    cases hb : (evX tm x).cells.all AV.one with
    | false => simp [evOp, hb] at he
    | true => exact newV (evX tm x).cells (.ptr · 0) fun hx => by simp [evOp, hb]
  case build t ps => exact pureV (x := buildA P t (ps.toList.map fun (i, x) => (i, evX tm x))) fun hx => by simp only [evOp]
  case buildSlice t n ps =>
    have he' := he
    simp only [evOp] at he'
    unfold buildSliceA at he'
    split at he'
    · rename_i elem hu
      split at he'
      · rename_i size z hs hz
        rw [Bool.cond_eq_ite] at he'
        split at he'
        · rename_i hc
          split at he'
          · rename_i cs hf
            refine newV cs (fun id => .sl id 0 n n size) fun hx => ?_
            simp only [evOp]
            unfold buildSliceA
            simp only [hu, hs, hz, hc, cond_true, hf]
          · simp at he'
        · simp at he'
      · simp at he'
    · simp at he'
  case nilCheck x =>
    exact pureV (x := match evX tm x with | .ptr id off => some (.ptr id off) | .fn f a c => some (.fn f a c) | _ => none) fun hx => by
      simp only [evOp]; cases evX tm x <;> rfl
  case binOp op t x y z => exact pureV (x := binA P op t (evX tm x) (evX tm y)) fun hx => by simp only [evOp]
  case unOp op t x => exact pureV (x := unA op (evX tm x)) fun hx => by simp only [evOp]
  case makeFunc fn first cap =>
    cases fn with
    | func f => exact pureV (x := some (.fn f (first.toList.map (evX tm)) (cap.toList.map (evX tm)))) fun hx => by simp [evOp]
    | _ => simp [evOp] at he
  case makeMap t rr =>
    cases rr with
    | none =>
      simp only [evOp, Option.map_eq_some_iff, Prod.mk.injEq] at he
      obtain ⟨h2, e1, e2, rfl⟩ := he
      exact .inr ⟨.map [], .mp, e1, e2.symm, fun hx hx' hn => by simp [evOp, hn]⟩
    | some _ => simp [evOp] at he
  case makeSlice t l c =>
    have he' := he
    simp only [evOp] at he'
    unfold makeSliceA at he'
    split at he'
    · rename_i elem k1 n1 k2 n2 hu hl1 hc1
      split at he'
      · rename_i size bytes z hs hby hz
        rw [Bool.cond_eq_ite] at he'
        split at he'
        · rename_i hc
          refine newV (repA z.cells n2) (fun id => .sl id 0 n1 n2 size) fun hx => ?_
          simp only [evOp]
          unfold makeSliceA
          simp only [hu, hl1, hc1, hs, hby, hz, hc, cond_true]
        · simp at he'
      · simp at he'
    · simp at he'
  case slice t x lo hi mx => exact pureV (x := sliceA P t (evX tm x) (lo.map (evX tm)) (hi.map (evX tm)) (mx.map (evX tm))) fun hx => by simp only [evOp]
  case fieldAddr s x f => exact pureV (x := fieldAddrA P s (evX tm x) f) fun hx => by simp only [evOp]
  case field s x f => exact pureV (x := fieldA P s (evX tm x) f) fun hx => by simp only [evOp]
  case indexAddr s x f => exact pureV (x := indexAddrA P s (evX tm x) (evX tm f)) fun hx => by simp only [evOp]
  case index s x f => exact pureV (x := indexA P s (evX tm x) (evX tm f)) fun hx => by simp only [evOp]
  case extract t i =>
    exact pureV (x := match evX tm t with | .tup vs => vs[i]? | _ => none) fun hx => by
      simp only [evOp]; cases evX tm t <;> rfl
  case call c =>
    obtain ⟨callee, args, argTypes⟩ := c
    cases callee with
    | value f => simp at hl
    | invoke r m => simp at hl
    | builtin b =>
      simp only [evOp] at he
      split at he <;> simp only [] at hl <;> (try (simp at hl; done)) <;> (try (simp at he; done))
      · rename_i x hx0
        exact pureV (x := lenA P argTypes x) fun hx => by simp only [evOp, hx0]
      · rename_i x hx0
        exact pureV (x := capA P argTypes x) fun hx => by simp only [evOp, hx0]
      · rename_i x y hx0
        exact pureV (x := max2A x y) fun hx => by simp only [evOp, hx0]
      · rename_i x y hx0
        exact pureV (x := min2A x y) fun hx => by simp only [evOp, hx0]
end
end Go.PE
