/-
  Part of the proof: an evaluator of the model's code, proved sound, and its run (PeOps9).
-/
import Derived.Test.YtpidolpoemlpjaaGreatPeOps8
set_option linter.unusedVariables false
set_option linter.unusedSimpArgs false
set_option linter.unnecessarySimpa false
set_option linter.unusedSectionVars false
namespace Go.PE
section
variable {P : Program} {τ : Nat → Value} {B : Base} {ι : Emb} {h : Hp} {w : World}

theorem copy_sound {ats : Array TypeId} {ty : TypeId} {d x r : AV} {u v : Value} {h' : Hp} (hr : Rel τ B ι h w) (hu : RelV τ ι u d) (hv : RelV τ ι v x)
    (he : copyA P ats d x h = some (r, h')) :
    ∃ w' z, (Builtin.copy_ ats ty #[u, v]).run P w = .ok z w' ∧ RelV τ ι z r ∧ Rel τ B ι h' w' ∧ Ext ι h ι h' := by
  unfold copyA at he
  split at he
  · rename_i t0 h0
    have h01 : (#[u, v] : Array Value)[0]? = some u := rfl
    have h11 : (#[u, v] : Array Value)[1]? = some v := rfl
    split at he
    · rename_i elem hu0
      split at he
      · rename_i sz id off len cap s2 hs
        obtain ⟨l, c, o', hl, q1, q2, q3, q4, rfl⟩ := hu.sl_inv
        cases hb : Nat.beq s2 sz with
        | false => rw [hb] at he; simp at he
        | true =>
          rw [hb] at he
          simp only [Nat.beq_eq] at hb
          subst hb
          simp only [Bool.not_true, cond_false] at he
          split at he
          · rename_i id2 off2 len2 cap2 s3
            obtain ⟨l2, c2, o2', hl2, p1, p2, p3, p4, rfl⟩ := hv.sl_inv
            cases hb3 : Nat.beq s3 s2 with
            | false => rw [hb3] at he; simp at he
            | true =>
              rw [hb3] at he
              simp only [Nat.beq_eq] at hb3
              subst hb3
              simp only [Bool.not_true, cond_false] at he
              split at he
              · rename_i cs2 hcs2
                split at he
                · rename_i new cs hcut hcs
                  split at he
                  · rename_i cs' hov
                    simp only [Option.some.injEq, Prod.mk.injEq] at he
                    obtain ⟨rfl, rfl⟩ := he
                    have hblk2 := hr.cells id2 l2 cs2 hl2 (Hp.cells_get hcs2)
                    have hblk := hr.cells id l cs hl (Hp.cells_get hcs)
                    obtain ⟨vs, e1, e2, e3, e4⟩ := read_cells hblk2 hcut
                    obtain ⟨o1, o2, _⟩ := over_spec _ _ _ _ hov
                    have hvl := e3.1
                    have hmin1 : Nat.min len2 len ≤ len2 := Nat.min_le_left _ _
                    have hmin2 : Nat.min len2 len ≤ len := Nat.min_le_right _ _
                    have hload : (loadCells (l2.at o2') (Nat.min len2 len * s3)).run P w = .ok vs.toArray w := by
                      by_cases hz : Nat.min len2 len = 0
                      · have : vs = [] := List.eq_nil_of_length_eq_zero (by rw [e1, hz]; simp)
                        subst this; rw [hz]
                        simp [loadCells, loadCellsFrom]
                      · obtain rfl := p4 (by omega)
                        have := run_cells (P := P) e2
                        rwa [e1] at this
                    have hstore : (storeCells (l.at o') vs).run P w = .ok () (w.setCells l.b (l.o + off) vs) := by
                      by_cases hz : Nat.min len2 len = 0
                      · have : vs = [] := List.eq_nil_of_length_eq_zero (by rw [e1, hz]; simp)
                        subst this
                        simp [storeCells, World.setCells]
                      · obtain rfl := q4 (by omega)
                        exact storeCells_sound (fun j hj => hblk.2.2.1 _ (by have := hblk.2.1; omega)) e4
                    refine ⟨w.setCells l.b (l.o + off) vs, .int .i64 ((Nat.min len2 len : Nat) : Int), ?_, .int _ _, hr.write hl (Hp.cells_get hcs) hov e3 e4, Ext.same (Nat.le_refl _)⟩
                    unfold Builtin.copy_
                    simp only [h0, h01, h11, Sem.run_bind, run_under hu0, Result.andThen_ok, Builtin.lenOf, Sem.run_pure, run_size hs, Builtin.firstCells, hload, hstore]
                    rfl
                  · simp at he
                · simp at he
              · simp at he
          · obtain rfl := hv.nils_inv
            simp only [Option.some.injEq, Prod.mk.injEq] at he
            obtain ⟨rfl, rfl⟩ := he
            refine ⟨w, .int .i64 0, ?_, .int _ _, hr, Ext.refl _ _⟩
            unfold Builtin.copy_
            have hz : Nat.min 0 len = 0 := by simp
            simp only [h0, h01, h11, Sem.run_bind, run_under hu0, Result.andThen_ok, Builtin.lenOf, Sem.run_pure, run_size hs, Builtin.firstCells, hz]
            simp [storeCells, goInt]
          · simp at he
      · rename_i sz hs
        obtain rfl := hu.nils_inv
        split at he
        · obtain ⟨l2, c2, o2', hl2, p1, p2, p3, p4, rfl⟩ := hv.sl_inv
          rename_i id2 off2 len2 cap2 s3
          simp only [Option.some.injEq, Prod.mk.injEq] at he
          obtain ⟨rfl, rfl⟩ := he
          refine ⟨w, .int .i64 0, ?_, .int _ _, hr, Ext.refl _ _⟩
          unfold Builtin.copy_
          have hz : Nat.min len2 0 = 0 := by simp
          simp only [h0, h01, h11, Sem.run_bind, run_under hu0, Result.andThen_ok, Builtin.lenOf, Sem.run_pure, run_size hs, Builtin.firstCells, hz]
          simp [loadCells, loadCellsFrom, goInt]
        · obtain rfl := hv.nils_inv
          simp only [Option.some.injEq, Prod.mk.injEq] at he
          obtain ⟨rfl, rfl⟩ := he
          refine ⟨w, .int .i64 0, ?_, .int _ _, hr, Ext.refl _ _⟩
          unfold Builtin.copy_
          have hz : Nat.min 0 0 = 0 := by simp
          simp only [h0, h01, h11, Sem.run_bind, run_under hu0, Result.andThen_ok, Builtin.lenOf, Sem.run_pure, run_size hs, Builtin.firstCells, hz]
          simp [goInt]
        · simp at he
      · simp at he
    · simp at he
  · simp at he

theorem clear_sound (hτ : ∀ i, (τ i).oneCell' = true) {ats : Array TypeId} {ty : TypeId} {x r : AV} {v : Value} {h' : Hp} (hr : Rel τ B ι h w) (hv : RelV τ ι v x)
    (he : clearA P ats x h = some (r, h')) :
    ∃ w' z, (Builtin.clear_ ats ty #[v]).run P w = .ok z w' ∧ RelV τ ι z r ∧ Rel τ B ι h' w' ∧ Ext ι h ι h' := by
  have h01 : (#[v] : Array Value)[0]? = some v := rfl
  have htup : RelV τ ι (.tuple #[]) (.tup []) := .tup #[] [] rfl (by simp)
  unfold clearA at he
  split at he
  · rename_i t0 h0
    obtain rfl := hv.nils_inv
    split at he
    · rename_i d hd
      simp only [Option.some.injEq, Prod.mk.injEq] at he
      obtain ⟨rfl, rfl⟩ := he
      refine ⟨w, .tuple #[], ?_, htup, hr, Ext.refl _ _⟩
      unfold Builtin.clear_
      simp only [h0, h01, Sem.run_bind, run_under hd, Result.andThen_ok]
      simp
    · simp at he
  · rename_i t0 id off len cap s2 h0
    obtain ⟨l, c, o', hl, q1, q2, q3, q4, rfl⟩ := hv.sl_inv
    split at he
    · rename_i elem hu0
      cases hn : Nat.beq len 0 with
      | true =>
        rw [hn] at he
        simp only [Nat.beq_eq] at hn
        subst hn
        simp only [cond_true, Option.some.injEq, Prod.mk.injEq] at he
        obtain ⟨rfl, rfl⟩ := he
        refine ⟨w, .tuple #[], ?_, htup, hr, Ext.refl _ _⟩
        unfold Builtin.clear_
        simp only [h0, h01, Sem.run_bind, run_under hu0, Result.andThen_ok]
        simp
      | false =>
        rw [hn] at he
        have hn0 : len ≠ 0 := by intro e; subst e; simp at hn
        simp only [cond_false] at he
        split at he
        · rename_i sz z cs hs hz hcs
          cases hb : (Nat.beq sz s2 && Nat.beq z.cells.length sz && z.cells.all AV.one && Nat.blt 0 sz) with
          | false => rw [hb] at he; simp at he
          | true =>
            rw [hb] at he
            simp only [Bool.and_eq_true, Nat.beq_eq, Nat.blt_eq] at hb
            obtain ⟨⟨⟨rfl, b2⟩, b3⟩, b4⟩ := hb
            simp only [cond_true] at he
            split at he
            · rename_i cs' hov
              simp only [Option.some.injEq, Prod.mk.injEq] at he
              obtain ⟨rfl, rfl⟩ := he
              obtain ⟨zv, hzv, rfl⟩ := run_zero hz w
              obtain ⟨g1, g2⟩ := (relConst (τ := τ) (ι := ι) zv).cells hτ b3
              obtain ⟨z1, z2⟩ := zeros_rel (n := len) (m := len * sz) g1 g2 (by rw [b2]) (by omega)
              have hzs : zv.cells.size = sz := by have := g1.1; simp at this; omega
              have hblk := hr.cells id l cs hl (Hp.cells_get hcs)
              obtain ⟨o1, o2, _⟩ := over_spec _ _ _ _ hov
              obtain rfl := q4 (by omega)
              have hz2 : Builtin.zeroCells zv.cells len = (Array.range (len * sz)).map (zv.cells[· % zv.cells.size]!) := by
                unfold Builtin.zeroCells; rw [hzs]
              have hstore : (storeCells (l.at o') (Builtin.zeroCells zv.cells len).toList).run P w = .ok () (w.setCells l.b (l.o + o') (Builtin.zeroCells zv.cells len).toList) := by
                rw [hz2]
                refine storeCells_sound (fun j hj => hblk.2.2.1 _ ?_) z2
                have := hblk.2.1
                have := z1.1
                omega
              refine ⟨_, .tuple #[], ?_, htup, hr.write hl (Hp.cells_get hcs) hov (by rw [← hz2] at z1; exact z1) (by rw [← hz2] at z2; exact z2), Ext.same (Nat.le_refl _)⟩
              unfold Builtin.clear_
              simp only [h0, h01, Sem.run_bind, run_under hu0, Result.andThen_ok]
              cases len with
              | zero => exact absurd rfl hn0
              | succ m => simp only [hzv, Result.andThen_ok, Sem.run_bind, hstore, Sem.run_pure]
            · simp at he
        · simp at he
    · simp at he
  · simp at he

/-! ## Maps -/
theorem isI64_spec {t : TypeId} (e : isI64 P t = true) : P.underlying t = some (.int .i64) := by
  unfold isI64 at e
  cases hu : P.underlying t with
  | none => rw [hu] at e; simp at e
  | some d =>
    rw [hu] at e
    cases d with
    | int k => cases k <;> simp at e; rfl
    | _ => simp at e

theorem findA_sound {n : Int} : ∀ (es : List (AV × AV)) (ents : List MapEntry) (i : Nat) (r : Option (Nat × AV)), ents.length = es.length →
    (∀ (j : Nat) (e : MapEntry) (a : AV × AV), ents[j]? = some e → es[j]? = some a → RelV τ ι e.key a.1 ∧ RelV τ ι e.val a.2) → findA n es i = some r →
    ∃ q, Instr.findNow (.int .i64) (.int .i64 n) ents i = some q ∧ (r = none → q = none) ∧ ∀ k a, r = some (k, a) → ∃ v e, q = some (k, v) ∧ RelV τ ι v a ∧ i ≤ k ∧ ents[k - i]? = some e ∧ e.key = .int .i64 n := by
  intro es
  induction es with
  | nil =>
    intro ents i r hl hr he
    have : ents = [] := List.eq_nil_of_length_eq_zero (by simpa using hl)
    subst this
    simp [findA] at he
    subst he
    exact ⟨none, rfl, fun _ => rfl, by simp⟩
  | cons e es ih =>
    intro ents i r hl hr he
    cases ents with
    | nil => simp at hl
    | cons m ms =>
      obtain ⟨a, v⟩ := e
      obtain ⟨r1, r2⟩ := hr 0 m (a, v) rfl rfl
      dsimp only at r1 r2
      cases a with
      | int k b =>
        cases k with
        | i64 =>
          simp only [findA] at he
          have hk := r1.int_inv
          cases hb : eqI n b with
          | true =>
            rw [hb] at he
            simp only [cond_true, Option.some.injEq] at he
            subst he
            rw [eqI_beq] at hb
            simp at hb
            subst hb
            refine ⟨some (i, m.val), ?_, by simp, fun k a e => ?_⟩
            · simp [Instr.findNow, hk, Instr.sameNow]
            · simp at e; obtain ⟨rfl, rfl⟩ := e
              exact ⟨m.val, m, rfl, r2, Nat.le_refl _, by simp, hk⟩
          | false =>
            rw [hb] at he
            simp only [cond_false] at he
            rw [eqI_beq] at hb
            obtain ⟨q, q1, q2, q3⟩ := ih ms (i + 1) r (by simpa using hl) (fun j e a x y => hr (j + 1) e a (by simpa using x) (by simpa using y)) he
            refine ⟨q, ?_, q2, fun k a e => ?_⟩
            · simp only [Instr.findNow, hk, Instr.sameNow, if_true, hb]; exact q1
            · obtain ⟨v', e', g1, g2, g3, g4, g5⟩ := q3 k a e
              refine ⟨v', e', g1, g2, by omega, ?_, g5⟩
              rw [show k - i = (k - (i + 1)) + 1 by omega, List.getElem?_cons_succ]
              exact g4
        | _ => simp [findA] at he
      | _ => simp [findA] at he

theorem checkKey_int' (b : Bool) (m : Nat) (kt : TypeId) (n : Int) (hk : P.underlying kt = some (.int .i64)) (w : World) : (Instr.checkKey b (m + 1) kt (.int .i64 n)).run P w = .ok () w := by
  simp only [Instr.checkKey, Sem.run_bind, run_under hk, Result.andThen_ok]
  rfl
theorem checkKey_int (b : Bool) (kt : TypeId) (n : Int) (hk : P.underlying kt = some (.int .i64)) (w : World) : (Instr.checkKey b 10000 kt (.int .i64 n)).run P w = .ok () w :=
  checkKey_int' b 9999 kt n hk w
theorem sameBits_int' (m : Nat) (n : Int) : Instr.sameBits (m + 1) (.int .i64 n) (.int .i64 n) = true := by
  simp [Instr.sameBits]
theorem sameBits_int (n : Int) : Instr.sameBits 10000 (.int .i64 n) (.int .i64 n) = true := sameBits_int' 9999 n

/-- A lookup, once its entries are known. -/
theorem lookup_run {t kt et : TypeId} {n : Int} {u : Value} {ok : Bool} {ents : Array MapEntry} (hut : P.underlying t = some (.map kt et)) (hkt : P.underlying kt = some (.int .i64))
    (hu : (u = .map none ∧ ents = #[]) ∨ ∃ b clock, u = .map (some b) ∧ w.heap[b]? = some (.map ents clock)) {q : Option (Nat × Value)}
    (hq : Instr.findNow (.int .i64) (.int .i64 n) ents.toList 0 = some q) {z : Value × Bool}
    (hz : (q = none ∧ (zeroValue et).run P w = .ok z.1 w ∧ z.2 = false) ∨ (∃ i, q = some (i, z.1) ∧ z.2 = true)) :
    (Instr.lookup t u (.int .i64 n) ok).run P w = .ok (if ok then .tuple #[z.1, .bool z.2] else z.1) w := by
  have hf : (Instr.findKey kt (.int .i64 n) ents.toList).run P w = .ok q w := by simp [Instr.findKey, run_under hkt, hq]
  unfold Instr.lookup
  rcases hu with ⟨rfl, rfl⟩ | ⟨b, clock, rfl, hb⟩
  · simp only [Sem.run_bind, run_under hut, Result.andThen_ok, Sem.run_pure, checkKey_int _ kt n hkt, hf]
    obtain ⟨z1, z2⟩ := z
    rcases hz with ⟨rfl, hz, rfl⟩ | ⟨i, rfl, rfl⟩
    · simp only [Sem.run_bind, hz, Result.andThen_ok, Sem.run_pure]
    · simp only [Sem.run_bind, Result.andThen_ok, Sem.run_pure]
  · have hobj : (getObj b).run P w = .ok (.map ents clock) w := by simp [getObj, Sem.run, hb]
    simp only [Sem.run_bind, run_under hut, Result.andThen_ok, hobj, Sem.run_pure, checkKey_int _ kt n hkt, hf]
    obtain ⟨z1, z2⟩ := z
    rcases hz with ⟨rfl, hz, rfl⟩ | ⟨i, rfl, rfl⟩
    · simp only [Sem.run_bind, hz, Result.andThen_ok, Sem.run_pure]
    · simp only [Sem.run_bind, Result.andThen_ok, Sem.run_pure]

theorem lookup_sound {t : TypeId} {x k r : AV} {u v : Value} {ok : Bool} (hr : Rel τ B ι h w) (hu : RelV τ ι u x) (hv : RelV τ ι v k) (he : lookupA P t x k ok h = some r) :
    ∃ z, (Instr.lookup t u v ok).run P w = .ok z w ∧ RelV τ ι z r := by
  unfold lookupA at he
  split at he
  · rename_i kt et n hut
    obtain rfl := hv.int_inv
    cases hk : isI64 P kt with
    | false => rw [hk] at he; simp at he
    | true =>
      rw [hk] at he
      have hkt := isI64_spec hk
      simp only [Bool.not_true, cond_false] at he
      have key : ∀ es, (match x with
          | .nilm => some []
          | .mp id => match h.get id with | some (.map es) => some es | _ => none
          | _ => none : Option (List (AV × AV))) = some es → ∃ ents : Array MapEntry, ents.size = es.length ∧
          (∀ (j : Nat) (e : MapEntry) (a : AV × AV), ents.toList[j]? = some e → es[j]? = some a → RelV τ ι e.key a.1 ∧ RelV τ ι e.val a.2) ∧
          ((u = .map none ∧ ents = #[]) ∨ ∃ b clock, u = .map (some b) ∧ w.heap[b]? = some (.map ents clock)) := by
        intro es hes
        split at hes
        · obtain rfl := hu.nilm_inv
          simp at hes; subst hes
          exact ⟨#[], rfl, by simp, .inl ⟨rfl, rfl⟩⟩
        · rename_i id
          obtain ⟨l, hl, rfl⟩ := hu.mp_inv
          split at hes
          · rename_i es' hg
            simp at hes; subst hes
            obtain ⟨_, _, ents, clock, m1, m2, m3⟩ := hr.map id l es' hl hg
            exact ⟨ents, m2, fun j e a x y => m3 j e a (by simpa using x) y, .inr ⟨_, _, rfl, m1⟩⟩
          · simp at hes
        · simp at hes
      split at he
      · simp at he
      · rename_i es hes
        obtain ⟨ents, n1, n2, n3⟩ := key es hes
        split at he
        · rename_i i va hf
          obtain ⟨q, q1, _, q3⟩ := findA_sound es ents.toList 0 _ (by simpa using n1) n2 hf
          obtain ⟨vv, e, rfl, rv, _⟩ := q3 i va rfl
          simp only [Option.some.injEq] at he
          refine ⟨_, lookup_run hut hkt n3 q1 (z := (vv, true)) (.inr ⟨i, rfl, rfl⟩), ?_⟩
          cases ok with
          | true =>
            simp at he; subst he
            exact RelL.tup (.cons rv (.cons (.bool _) .nil))
          | false =>
            simp at he; subst he
            exact rv
        · rename_i hf
          obtain ⟨q, q1, q2, _⟩ := findA_sound es ents.toList 0 _ (by simpa using n1) n2 hf
          obtain rfl := q2 rfl
          split at he
          · rename_i z hz
            obtain ⟨zv, hzv, rfl⟩ := run_zero hz w
            simp only [Option.some.injEq] at he
            refine ⟨_, lookup_run hut hkt n3 q1 (z := (zv, false)) (.inl ⟨rfl, hzv, rfl⟩), ?_⟩
            cases ok with
            | true =>
              simp at he; subst he
              exact RelL.tup (.cons (relConst zv) (.cons (.bool _) .nil))
            | false =>
              simp at he; subst he
              exact relConst zv
          · simp at he
        · simp at he
  · simp at he

theorem mapUpdate_sound {t : TypeId} {x k y : AV} {u v z : Value} {h' : Hp} (hr : Rel τ B ι h w) (hu : RelV τ ι u x) (hv : RelV τ ι v k) (hz : RelV τ ι z y) (he : mapUpdateA P t x k y h = some h') :
    ∃ w', (Instr.mapUpdate t u v z).run P w = .ok () w' ∧ Rel τ B ι h' w' ∧ h.next ≤ h'.next := by
  unfold mapUpdateA at he
  split at he
  · rename_i kt et n id hut
    obtain rfl := hv.int_inv
    obtain ⟨l, hl, rfl⟩ := hu.mp_inv
    cases hk : isI64 P kt with
    | false => rw [hk] at he; simp at he
    | true =>
      rw [hk] at he
      have hkt := isI64_spec hk
      simp only [Bool.not_true, cond_false] at he
      split at he
      · rename_i es hg
        obtain ⟨_, _, ents, clock, m1, m2, m3⟩ := hr.map id l es hl hg
        have hobj : (getObj l.b).run P w = .ok (.map ents clock) w := by simp [getObj, Sem.run, m1]
        have hset : ∀ o, (setObj l.b o).run P w = .ok () { w with heap := w.heap.setIfInBounds l.b o } := by
          intro o; simp [setObj, Sem.run, m1]
        have hlen : ents.toList.length = es.length := by simpa using m2
        have hrel : ∀ (j : Nat) (e : MapEntry) (a : AV × AV), ents.toList[j]? = some e → es[j]? = some a → RelV τ ι e.key a.1 ∧ RelV τ ι e.val a.2 := fun j e a x y => m3 j e a (by simpa using x) y
        have hrun : ∀ q, Instr.findNow (.int .i64) (.int .i64 n) ents.toList 0 = some q → (Instr.findKey kt (.int .i64 n) ents.toList).run P w = .ok q w := by
          intro q hq
          simp [Instr.findKey, run_under hkt, hq]
        split at he
        · rename_i i va hf
          obtain ⟨q, q1, _, q3⟩ := findA_sound es ents.toList 0 _ hlen hrel hf
          obtain ⟨vv, e, rfl, rv, _, g4, g5⟩ := q3 i va rfl
          simp only [Option.some.injEq] at he
          subst he
          have hf2 := hrun _ q1
          have hgi : ents[i]? = some e := by simpa using g4
          have hstay : (Instr.keyThatStays (((ents[i]?).map (·.key)).getD (.int .i64 n)) (.int .i64 n)).run P w = .ok (.int .i64 n) w := by
            rw [hgi]
            simp only [Option.map_some, Option.getD_some, g5, Instr.keyThatStays]
            simp [sameBits_int]
          refine ⟨{ w with heap := w.heap.setIfInBounds l.b (.map (ents.modify i fun e => { e with key := .int .i64 n, val := z }) clock) }, ?_, hr.setMap (ents := ents.modify i fun e => { e with key := .int .i64 n, val := z }) (clock := clock) hl hg rfl rfl rfl rfl (by simp [m2]) (fun j e a x y => ?_), Nat.le_refl _⟩
          · simp only [Instr.mapUpdate, Sem.run_bind, run_under hut, Result.andThen_ok, hobj, checkKey_int _ kt n hkt, hf2, hstay, hset]
          · rw [Array.getElem?_modify] at x
            rw [List.getElem?_modify] at y
            by_cases hij : i = j
            · subst hij
              rw [if_pos rfl, hgi] at x
              simp only [Option.map_some, Option.some.injEq] at x
              subst x
              cases hes : es[i]? with
              | none => rw [hes] at y; simp at y
              | some p =>
                rw [hes] at y
                simp at y
                subst y
                exact ⟨.int _ _, hz⟩
            · rw [if_neg hij] at x
              simp [hij] at y
              exact m3 j e a x y
        · rename_i hf
          obtain ⟨q, q1, q2, _⟩ := findA_sound es ents.toList 0 _ hlen hrel hf
          obtain rfl := q2 rfl
          simp only [Option.some.injEq] at he
          subst he
          have hf2 := hrun _ q1
          refine ⟨{ w with heap := w.heap.setIfInBounds l.b (.map (ents.push { key := .int .i64 n, val := z, born := clock }) (clock + 1)) }, ?_, hr.setMap (ents := ents.push { key := .int .i64 n, val := z, born := clock }) (clock := clock + 1) hl hg rfl rfl rfl rfl (by simp [m2]) (fun j e a x y => ?_), Nat.le_refl _⟩
          · simp only [Instr.mapUpdate, Sem.run_bind, run_under hut, Result.andThen_ok, hobj, checkKey_int _ kt n hkt, hf2, hset]
          · rw [Array.getElem?_push] at x
            by_cases hj : j = ents.size
            · subst hj
              rw [if_pos rfl] at x
              simp only [Option.some.injEq] at x
              subst x
              rw [m2] at y
              simp at y
              subst y
              exact ⟨.int _ _, hz⟩
            · rw [if_neg hj] at x
              rw [List.getElem?_append_left (by have := (Array.getElem?_eq_some_iff.1 x).1; omega)] at y
              exact m3 j e a x y
        · simp at he
      · simp at he
  · simp at he

theorem makeMap_sound {t : TypeId} {h' : Hp} (hr : Rel τ B ι h w) (he : h.new (.map []) = some h') (hto : h'.next ≤ B.top) :
    ∃ w' ι' z, (Instr.makeMap t none).run P w = .ok z w' ∧ RelV τ ι' z (.mp h.next) ∧ Rel τ B ι' h' w' ∧ Ext ι h ι' h' := by
  have p : Pushed w (.map #[] 0) { w with heap := w.heap.push (.map #[] 0) } := ⟨rfl, rfl, rfl, rfl⟩
  obtain ⟨ι', r1, r2, r3⟩ := hr.pushMap he hto p
  exact ⟨_, ι', .map (some w.heap.size), by simp [Instr.makeMap], .mp h.next ⟨w.heap.size, 0, 1⟩ r3, r1, r2⟩

end
end Go.PE
