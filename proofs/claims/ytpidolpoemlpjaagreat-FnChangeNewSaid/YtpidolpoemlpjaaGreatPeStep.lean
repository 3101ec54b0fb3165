/-
  Part of the proof: an evaluator of the model's code, proved sound, and its run (PeStep).
-/
import Derived.Test.YtpidolpoemlpjaaGreatPeEv
set_option linter.unusedVariables false
set_option linter.unusedSimpArgs false
set_option linter.unnecessarySimpa false
set_option linter.unusedSectionVars false
namespace Go.PE

structure Stp (h h' : Hp) : Prop where
  le : h.next ≤ h'.next
  wf : h'.Wf
  lw : h'.lw ≤ h.lw
  keep : ∀ id, id < h'.lw → id < h.next → h'.get id = h.get id

theorem Stp.refl {h : Hp} (w : h.Wf) : Stp h h := ⟨Nat.le_refl _, w, Nat.le_refl _, fun _ _ _ => rfl⟩
theorem Stp.trans {a b c : Hp} (x : Stp a b) (y : Stp b c) : Stp a c :=
  ⟨Nat.le_trans x.le y.le, y.wf, Nat.le_trans y.lw x.lw, fun id h1 h2 => by
    rw [y.keep id h1 (Nat.lt_of_lt_of_le h2 x.le), x.keep id (Nat.lt_of_lt_of_le h1 y.lw) h2]⟩
theorem Stp.new {h h' : Hp} {b : Blk} (w : h.Wf) (e : h.new b = some h') : Stp h h' := by
  obtain ⟨h1, h2, h3, h4⟩ := Hp.new_spec e
  refine ⟨by omega, ⟨by omega, fun id hid => ?_⟩, by omega, fun id _ hid => ?_⟩
  · rw [h4, if_neg (by omega)]; exact w.2 id (by omega)
  · rw [h4, if_neg (by omega)]
theorem Hp.Wf.live {h : Hp} {id : Nat} {b : Blk} (w : h.Wf) (e : h.get id = some b) : id < h.next := by
  rcases Nat.lt_or_ge id h.next with h1 | h1
  · exact h1
  · rw [w.2 id h1] at e; simp at e
theorem Stp.put {h : Hp} {id : Nat} {b : Blk} {b' : Option Blk} (w : h.Wf) (e : h.get id = some b) : Stp h (h.put id b') := by
  have hlt := w.live e
  have hidn : id < maxIds := Nat.lt_of_lt_of_le hlt w.1
  have hg := fun m => Hp.get_put (h := h) (b := b') hidn m
  have hlw : (h.put id b').lw = bif Nat.blt id h.lw then id else h.lw := rfl
  have hlw2 : (h.put id b').lw ≤ h.lw ∧ (h.put id b').lw ≤ id := by
    rw [hlw]
    cases hb : Nat.blt id h.lw with
    | true => have : id < h.lw := by simpa [Nat.blt_eq] using hb
              simp; omega
    | false => have : ¬ id < h.lw := by intro hc; rw [← Nat.blt_eq] at hc; rw [hb] at hc; simp at hc
               simp; omega
  refine ⟨Nat.le_refl _, ⟨w.1, fun m hm => ?_⟩, hlw2.1, fun m h1 h2 => ?_⟩
  · have : h.next ≤ m := hm
    rw [hg, if_neg (by omega)]; exact w.2 m hm
  · rw [hg, if_neg (by omega)]
theorem Stp.newBlk {h h' : Hp} {cs : List AV} {id : Nat} (w : h.Wf) (e : newBlk cs h = some (id, h')) : Stp h h' := .new w (newBlk_spec e).2

def CallStp (call : Call) : Prop := ∀ f args h r h', call f args h = some (r, h') → h.Wf → Stp h h'

section
variable {P : Program} {h h' : Hp}
theorem storeA_stp {t : TypeId} {x y : AV} (w : h.Wf) (e : storeA P t x y h = some h') : Stp h h' := by
  unfold storeA at e
  split at e
  · split at e
    · rename_i cs n hcs hs
      cases hb : (Nat.beq y.cells.length n && y.cells.all AV.one) with
      | false => rw [hb] at e; simp at e
      | true =>
        rw [hb] at e
        simp only [cond_true, Option.map_eq_some_iff] at e
        obtain ⟨_, _, rfl⟩ := e
        exact .put w (Hp.cells_get hcs)
    · simp at e
  · simp at e
theorem buildSliceA_stp {t : TypeId} {len : Nat} {ps : List (Nat × AV)} {r : AV} (w : h.Wf) (e : buildSliceA P t len ps h = some (r, h')) : Stp h h' := by
  unfold buildSliceA at e
  split at e
  · split at e
    · rename_i size z hs hz
      cases hb : (Nat.ble (len * size) 16777216 && Nat.beq z.cells.length size && z.cells.all AV.one && Nat.blt 0 size) with
      | false => rw [hb] at e; simp at e
      | true =>
        rw [hb] at e
        simp only [cond_true] at e
        split at e
        · simp only [Option.map_eq_some_iff, Prod.mk.injEq] at e
          obtain ⟨⟨id, h2⟩, e1, _, rfl⟩ := e
          exact .newBlk w e1
        · simp at e
    · simp at e
  · simp at e
theorem makeSliceA_stp {t : TypeId} {l c r : AV} (w : h.Wf) (e : makeSliceA P t l c h = some (r, h')) : Stp h h' := by
  unfold makeSliceA at e
  split at e
  · split at e
    · rw [Bool.cond_eq_ite] at e
      split at e
      · simp only [Option.map_eq_some_iff, Prod.mk.injEq] at e
        obtain ⟨⟨id, h2⟩, e1, _, rfl⟩ := e
        exact .newBlk w e1
      · simp at e
    · simp at e
  · simp at e
theorem appendTo_stp {sz n : Nat} {s r : AV} {new : List AV} (w : h.Wf) (e : appendTo sz s new n h = some (r, h')) : Stp h h' := by
  unfold appendTo at e
  split at e
  · cases hb : Nat.beq n 0 with
    | true =>
      rw [hb] at e
      simp only [cond_true, Option.some.injEq, Prod.mk.injEq] at e
      obtain ⟨_, rfl⟩ := e
      exact .refl w
    | false =>
      rw [hb] at e
      simp only [cond_false] at e
      cases hb : Nat.ble n maxNeed with
      | false => rw [hb] at e; simp at e
      | true =>
        rw [hb] at e
        simp only [cond_true, Option.map_eq_some_iff, Prod.mk.injEq] at e
        obtain ⟨⟨id, h2⟩, e1, _, rfl⟩ := e
        exact .newBlk w e1
  · rename_i id off len cap s2
    split at e
    · simp at e
    · rename_i cs hcs
      cases hb : (Nat.beq s2 sz && Nat.ble (len + n) maxNeed) with
      | false => rw [hb] at e; simp at e
      | true =>
        rw [hb] at e
        simp only [cond_true] at e
        cases hb : Nat.ble (len + n) cap with
        | true =>
          rw [hb] at e
          simp only [cond_true] at e
          split at e
          · simp only [Option.some.injEq, Prod.mk.injEq] at e
            obtain ⟨_, rfl⟩ := e
            exact .put w (Hp.cells_get hcs)
          · simp at e
        | false =>
          rw [hb] at e
          simp only [cond_false] at e
          split at e
          · simp only [Option.map_eq_some_iff, Prod.mk.injEq] at e
            obtain ⟨⟨id, h2⟩, e1, _, rfl⟩ := e
            have s1 := Stp.put (b' := none) w (Hp.cells_get hcs)
            exact s1.trans (.newBlk s1.wf e1)
          · simp at e
  · simp at e
theorem appendA_stp {ats : Array TypeId} {s x r : AV} (w : h.Wf) (e : appendA P ats s x h = some (r, h')) : Stp h h' := by
  unfold appendA at e
  split at e
  · rename_i t0 t1 _ _
    split at e
    · split at e
      · rename_i sz bytes z _ _ _
        cases hb : (!isIntA P t1 && Nat.ble bytes 4096 && Nat.blt 0 bytes && Nat.blt 0 sz && Nat.beq z.cells.length sz && z.cells.all AV.one) with
        | false => rw [hb] at e; simp at e
        | true =>
          rw [hb] at e
          simp only [cond_true] at e
          split at e
          · exact appendTo_stp w e
          · simp at e
      · simp at e
    · simp at e
  · simp at e
theorem copyA_stp {ats : Array TypeId} {d x r : AV} (w : h.Wf) (e : copyA P ats d x h = some (r, h')) : Stp h h' := by
  unfold copyA at e
  split at e
  · split at e
    · split at e
      · rename_i sz id off len cap s2 hs
        cases hb : Nat.beq s2 sz with
        | false => rw [hb] at e; simp at e
        | true =>
          rw [hb] at e
          simp only [Bool.not_true, cond_false] at e
          split at e
          · rename_i id2 off2 len2 cap2 s3
            cases hb : Nat.beq s3 sz with
            | false => rw [hb] at e; simp at e
            | true =>
              rw [hb] at e
              simp only [Bool.not_true, cond_false] at e
              split at e
              · split at e
                · rename_i new cs h1 h2
                  split at e
                  · simp only [Option.some.injEq, Prod.mk.injEq] at e
                    obtain ⟨_, rfl⟩ := e
                    exact .put w (Hp.cells_get h2)
                  · simp at e
                · simp at e
              · simp at e
          · simp only [Option.some.injEq, Prod.mk.injEq] at e
            obtain ⟨_, rfl⟩ := e
            exact .refl w
          · simp at e
      · split at e
        · simp only [Option.some.injEq, Prod.mk.injEq] at e
          obtain ⟨_, rfl⟩ := e
          exact .refl w
        · simp only [Option.some.injEq, Prod.mk.injEq] at e
          obtain ⟨_, rfl⟩ := e
          exact .refl w
        · simp at e
      · simp at e
    · simp at e
  · simp at e
theorem clearA_stp {ats : Array TypeId} {x r : AV} (w : h.Wf) (e : clearA P ats x h = some (r, h')) : Stp h h' := by
  unfold clearA at e
  split at e
  · split at e
    · simp only [Option.some.injEq, Prod.mk.injEq] at e
      obtain ⟨_, rfl⟩ := e
      exact .refl w
    · simp at e
  · rename_i t0 id off len cap s2 h0
    split at e
    · cases hb : Nat.beq len 0 with
      | true =>
        rw [hb] at e
        simp only [cond_true, Option.some.injEq, Prod.mk.injEq] at e
        obtain ⟨_, rfl⟩ := e
        exact .refl w
      | false =>
        rw [hb] at e
        simp only [cond_false] at e
        split at e
        · rename_i sz z cs h1 h2 h3
          cases hb : (Nat.beq sz s2 && Nat.beq z.cells.length sz && z.cells.all AV.one && Nat.blt 0 sz) with
          | false => rw [hb] at e; simp at e
          | true =>
            rw [hb] at e
            simp only [cond_true] at e
            split at e
            · simp only [Option.some.injEq, Prod.mk.injEq] at e
              obtain ⟨_, rfl⟩ := e
              exact .put w (Hp.cells_get h3)
            · simp at e
        · simp at e
    · simp at e
  · simp at e
theorem mapUpdateA_stp {t : TypeId} {x k v : AV} (w : h.Wf) (e : mapUpdateA P t x k v h = some h') : Stp h h' := by
  unfold mapUpdateA at e
  split at e
  · rename_i kt et n id _
    cases hb : isI64 P kt with
    | false => rw [hb] at e; simp at e
    | true =>
      rw [hb] at e
      simp only [Bool.not_true, cond_false] at e
      split at e
      · rename_i es hg
        split at e
        · simp only [Option.some.injEq] at e; subst e; exact .put w hg
        · simp only [Option.some.injEq] at e; subst e; exact .put w hg
        · simp at e
      · simp at e
  · simp at e

theorem evOp_stp {call : Call} (hc : CallStp call) {tm : Tm} {o : Oper} {r : AV} (w : h.Wf) (he : evOp P call tm o h = some (r, h')) : Stp h h' := by
  unfold evOp at he
  have pureV : ∀ {x : Option AV}, (x.map (·, h)) = some (r, h') → Stp h h' := by
    intro x hx
    cases x with
    | none => simp at hx
    | some y => simp at hx; obtain ⟨_, rfl⟩ := hx; exact .refl w
  have same : ∀ {x : AV}, some (x, h) = some (r, h') → Stp h h' := by
    intro x hx; simp at hx; obtain ⟨_, rfl⟩ := hx; exact .refl w
  cases ho : o.op <;> simp only [ho] at he <;> first
    | exact pureV he
    | exact same he
    | (simp at he; done)
    | skip
  case pick c x y =>
    split at he
    · exact same he
    · simp at he
  case alloc t =>
    split at he
    · rename_i z hz
      cases hb : z.cells.all AV.one with
      | false => rw [hb] at he; simp at he
      | true =>
        rw [hb] at he
        simp only [cond_true, Option.map_eq_some_iff, Prod.mk.injEq] at he
        obtain ⟨⟨id, h2⟩, e1, _, rfl⟩ := he
        exact .newBlk w e1
    · simp at he
  case box t x =>
    cases hb : (evX tm x).cells.all AV.one with
    | false => rw [hb] at he; simp at he
    | true =>
      rw [hb] at he
      simp only [cond_true, Option.map_eq_some_iff, Prod.mk.injEq] at he
      obtain ⟨⟨id, h2⟩, e1, _, rfl⟩ := he
      exact .newBlk w e1
  case buildSlice t n ps => exact buildSliceA_stp w he
  case store t x y =>
    simp only [Option.map_eq_some_iff, Prod.mk.injEq] at he
    obtain ⟨h2, e1, _, rfl⟩ := he
    exact storeA_stp w e1
  case nilCheck x =>
    split at he
    · exact same he
    · exact same he
    · simp at he
  case makeFunc fn first cap =>
    cases fn with
    | func f => exact same he
    | _ => simp at he
  case makeMap t rr =>
    cases rr with
    | none =>
      simp only [Option.map_eq_some_iff, Prod.mk.injEq] at he
      obtain ⟨h2, e1, _, rfl⟩ := he
      exact .new w e1
    | some _ => simp at he
  case makeSlice t l c => exact makeSliceA_stp w he
  case mapUpdate t m k x =>
    simp only [Option.map_eq_some_iff, Prod.mk.injEq] at he
    obtain ⟨h2, e1, _, rfl⟩ := he
    exact mapUpdateA_stp w e1
  case extract t i =>
    split at he
    · exact pureV he
    · simp at he
  case call c =>
    split at he
    · rename_i f hf
      split at he
      · rename_i f' first cap hx
        cases hb : isBits P f' with
        | true =>
          rw [hb] at he
          simp only [cond_true] at he
          split at he
          · exact same he
          · simp at he
        | false =>
          rw [hb] at he
          simp only [cond_false] at he
          exact hc _ _ _ _ _ he w
      · simp at he
    · rename_i b hb
      split at he
      · exact appendA_stp w he
      · exact copyA_stp w he
      · exact clearA_stp w he
      · exact pureV he
      · exact pureV he
      · exact pureV he
      · exact pureV he
      · simp at he
    · simp at he
end
end Go.PE
