/-
  Part of the proof: an evaluator of the model's code, proved sound, and its run (PeTrace2).
-/
import Derived.Test.YtpidolpoemlpjaaGreatPeTrace
set_option linter.unusedVariables false
set_option linter.unusedSimpArgs false
set_option linter.unnecessarySimpa false
set_option linter.unusedSectionVars false
namespace Go.PE

def Wr (H : Nat → Hp) (i : Nat) : Prop := ∃ id, id < (H i).next ∧ (H (i + 1)).get id ≠ (H i).get id
def bit (ops : Array Oper) (j i : Nat) : Prop := Nat.testBit ((Region.before ops).getD j 0) i = true
def Lk (ops : Array Oper) (T : Nat → Tm) (P : Program) (i : Nat) : Prop := ∃ o, ops[i]? = some o ∧ wantedA ops.toList (T i) o = some true ∧ looks o = true

/-- What the text's order comes to, and what the checks say of it. -/
structure Trace (P : Program) (call : Call) (ops : Array Oper) (H : Nat → Hp) (T : Nat → Tm) : Prop where
  wf : ∀ j, j ≤ ops.size → (H j).Wf
  step : ∀ j, j < ops.size → ∃ o, ops[j]? = some o ∧
    ((wantedA ops.toList (T j) o = some false ∧ T (j + 1) = putD (T j) o.dst (.tup []) ∧ H (j + 1) = H j) ∨
     (wantedA ops.toList (T j) o = some true ∧ ∃ v h1, evOp P call (T j) o ⟨(H j).t, (H j).next, noId⟩ = some (v, h1) ∧ T (j + 1) = putD (T j) o.dst v ∧
       (H (j + 1)).t = h1.t ∧ (H (j + 1)).next = h1.next))
  A : ∀ i j, i < j → j < ops.size → Wr H i → Wr H j → bit ops j i
  B : ∀ i j, i < j → j < ops.size → Lk ops T P i → Wr H j → bit ops j i
  C : ∀ i j, i < j → j < ops.size → Wr H i → Lk ops T P j → bit ops j i
  D1 : ∀ i j o t a, i < j → ops[j]? = some o → wantedA ops.toList (T j) o = some true → o.op = .load t a → Wr H i →
    bit ops j i ∨ loadA P t (evX (T j) a) (H i) = loadA P t (evX (T j) a) (H j)
  D2 : ∀ i j o t a, i < j → j < ops.size → ops[i]? = some o → wantedA ops.toList (T i) o = some true → o.op = .load t a → Wr H j →
    bit ops j i ∨ loadA P t (evX (T i) a) (H (j + 1)) = loadA P t (evX (T i) a) (H i)
  E : ∀ i j, i < j → j < ops.size → Wr H j → bit ops j i ∨ ∀ id, (H i).next ≤ id → id < (H (i + 1)).next → (H (j + 1)).get id = (H j).get id

section
variable {P : Program} {call : Call} {ops : Array Oper}

noncomputable def drAt (P : Program) (call : Call) (ops : Array Oper) (d0 : Dr) : Nat → Dr
  | 0 => d0
  | j + 1 => (((ops[j]?).bind fun o => drStep P call ops.toList o j ((Region.before ops).getD j 0) (drAt P call ops d0 j))).getD (drAt P call ops d0 j)

theorem drOps_at (d0 : Dr) : ∀ (rest : List Oper) (bs : List Nat) (i : Nat) (d' : Dr), rest = ops.toList.drop i → bs = (Region.before ops).toList.drop i →
    drOps P call ops.toList rest bs i (drAt P call ops d0 i) = some d' → i ≤ ops.size →
    d' = drAt P call ops d0 ops.size ∧ ∀ j, i ≤ j → j < ops.size → ∃ o, ops[j]? = some o ∧ drStep P call ops.toList o j ((Region.before ops).getD j 0) (drAt P call ops d0 j) = some (drAt P call ops d0 (j + 1)) := by
  intro rest
  induction rest with
  | nil =>
    intro bs i d' hr hb he hi
    have hlen : ops.size ≤ i := by
      have := congrArg List.length hr
      simp at this; omega
    have : i = ops.size := by omega
    subst this
    simp only [drOps, Option.some.injEq] at he
    exact ⟨he.symm, fun j h1 h2 => by omega⟩
  | cons o rest ih =>
    intro bs i d' hr hb he hi
    have hlt : i < ops.size := by
      have := congrArg List.length hr
      simp at this; omega
    have ho : ops[i]? = some o := by
      have := congrArg (·[0]?) hr
      simp at this
      exact this.symm
    have hrest : rest = ops.toList.drop (i + 1) := by
      have := congrArg List.tail hr
      simpa using this
    cases bs with
    | nil =>
      have := congrArg List.length hb
      simp [before_size] at this; omega
    | cons b bs =>
      have hbi : (Region.before ops).getD i 0 = b := by
        have h1 := congrArg (·[0]?) hb
        simp at h1
        have hbs : i < (Region.before ops).size := by rw [before_size]; exact hlt
        rw [Array.getElem?_eq_getElem hbs] at h1
        simp at h1
        simp [Array.getD, hbs, h1]
      have hbrest : bs = (Region.before ops).toList.drop (i + 1) := by
        have := congrArg List.tail hb
        simpa using this
      simp only [drOps] at he
      split at he
      · rename_i d1 hd1
        have hat : drAt P call ops d0 (i + 1) = d1 := by
          simp only [drAt, ho, Option.bind_some, hbi, hd1, Option.getD_some]
        rw [← hat] at he
        obtain ⟨h1, h2⟩ := ih bs (i + 1) d' hrest hbrest he (by omega)
        refine ⟨h1, fun j hj hj2 => ?_⟩
        by_cases hji : j = i
        · subst hji
          exact ⟨o, ho, by rw [hbi, hd1, hat]⟩
        · exact h2 j (by omega) hj2
      · simp at he

/-- What is noted by the time that `j` operations are done. -/
structure Noted (P : Program) (ops : Array Oper) (d : Nat → Dr) (j : Nat) : Prop where
  wf : ∀ i, i ≤ j → (d i).s.h.Wf
  ws : ∀ i, i < j → Wr (fun n => (d n).s.h) i → (i, (d i).s.h) ∈ (d j).ws
  rs : ∀ i, i < j → Lk ops (fun n => (d n).s.tm) P i → i ∈ (d j).rs ∨ (i, (d i).s.h) ∈ (d j).ws
  lds : ∀ i o t a, i < j → ops[i]? = some o → wantedA ops.toList (d i).s.tm o = some true → o.op = .load t a →
    ∃ v, loadA P t (evX (d i).s.tm a) (d i).s.h = some v ∧ (i, t, evX (d i).s.tm a, v) ∈ (d j).lds
  als : ∀ i, i < j → ¬ Lk ops (fun n => (d n).s.tm) P i → (d i).s.h.next < (d (i + 1)).s.h.next →
    (i, (d i).s.h.next) ∈ (d j).als ∧ (d (i + 1)).s.h.next = (d i).s.h.next + 1

theorem get_t {h h' : Hp} (e : h.t = h'.t) (id : Nat) : h.get id = h'.get id := by unfold Hp.get; rw [e]
theorem loadA_t {h h' : Hp} {t : TypeId} {a : AV} (e : ∀ id, h.get id = h'.get id) : loadA P t a h = loadA P t a h' := by
  unfold loadA
  split
  · unfold Hp.cells; rw [e]
  · rfl

theorem noted_step (hc : CallStp call) {d : Nat → Dr} {j : Nat} {o : Oper} {bi : Nat} (n : Noted P ops d j) (ho : ops[j]? = some o)
    (e : drStep P call ops.toList o j bi (d j) = some (d (j + 1))) : Noted P ops d (j + 1) := by
  rcases drStep_spec e with ⟨hw, h1, h2, h3, h4, h5, h6⟩ | ⟨hw, v, g, hev, h1, h2, h3, _, _, hcase⟩
  · have hnw : ¬ Wr (fun n => (d n).s.h) j := by rintro ⟨id, _, hne⟩; apply hne; show (d (j + 1)).s.h.get id = _; rw [h2]
    refine ⟨fun i hi => ?_, fun i hi hwr => ?_, fun i hi hlk => ?_, fun i o' t a hi ho' hw' hop => ?_, fun i hi hlk hlt => ?_⟩
    · by_cases hij : i = j + 1
      · subst hij; rw [h2]; exact n.wf j (Nat.le_refl _)
      · exact n.wf i (by omega)
    · by_cases hij : i = j
      · subst hij; exact absurd hwr hnw
      · rw [h3]; exact n.ws i (by omega) hwr
    · by_cases hij : i = j
      · subst hij
        obtain ⟨o', ho', hw', _⟩ := hlk
        rw [ho] at ho'; simp at ho'; subst ho'
        have hw'' : wantedA ops.toList (d i).s.tm o = some true := hw'
        rw [hw] at hw''; simp at hw''
      · rw [h3, h4]; exact n.rs i (by omega) hlk
    · by_cases hij : i = j
      · subst hij
        rw [ho] at ho'; simp at ho'; subst ho'
        rw [hw] at hw'; simp at hw'
      · rw [h5]; exact n.lds i o' t a (by omega) ho' hw' hop
    · by_cases hij : i = j
      · subst hij; rw [h2] at hlt; omega
      · rw [h6]; exact n.als i (by omega) hlk hlt
  · have hwfj : Hp.Wf ⟨(d j).s.h.t, (d j).s.h.next, noId⟩ := n.wf j (Nat.le_refl _)
    have stp := evOp_stp hc hwfj hev
    have hwf : (d (j + 1)).s.h.Wf := ⟨by rw [h3]; exact stp.wf.1, fun id hid => by rw [get_t h2]; exact stp.wf.2 id (by rw [h3] at hid; exact hid)⟩
    have wfs : ∀ i, i ≤ j + 1 → (d i).s.h.Wf := fun i hi => by
      by_cases hij : i = j + 1
      · subst hij; exact hwf
      · exact n.wf i (by omega)
    have hflag : Wr (fun n => (d n).s.h) j → g.lw < (d j).s.h.next := by
      rintro ⟨id, hid, hne⟩
      rcases Nat.lt_or_ge id g.lw with h4 | h4
      · exact absurd ((get_t h2 id).trans (stp.keep id h4 hid)) hne
      · exact Nat.lt_of_le_of_lt h4 hid
    have hlkj : Lk ops (fun n => (d n).s.tm) P j → looks o = true := by
      rintro ⟨o', ho', _, hl⟩
      rw [ho] at ho'; simp at ho'; subst ho'; exact hl
    rcases hcase with ⟨t, a, hop, c1, w1, w2, w3, w4⟩ | ⟨hnl, hlt, c1, c2, c3, c4, w1, w2, w3, w4⟩ | ⟨hnl, hlt, hl, c1, w1, w2, w3, w4⟩ | ⟨hnl, hlt, hl, w1, w2, w3, w4⟩
    · -- a load
      have hld : loadA P t (evX (d j).s.tm a) (d j).s.h = some v ∧ g = ⟨(d j).s.h.t, (d j).s.h.next, noId⟩ := by
        unfold evOp at hev
        simp only [hop, Option.map_eq_some_iff, Prod.mk.injEq] at hev
        obtain ⟨v', e1, rfl, rfl⟩ := hev
        exact ⟨by rw [← e1]; exact loadA_t fun id => rfl, rfl⟩
      have hnw : ¬ Wr (fun n => (d n).s.h) j := by
        rintro ⟨id, _, hne⟩; apply hne; show (d (j + 1)).s.h.get id = _; rw [get_t h2, hld.2]; rfl
      have hnlk : looks o = false := by unfold looks; rw [hop]
      refine ⟨wfs, fun i hi hwr => ?_, fun i hi hlk => ?_, fun i o' t' a' hi ho' hw' hop' => ?_, fun i hi hlk hlt => ?_⟩
      · by_cases hij : i = j
        · subst hij; exact absurd hwr hnw
        · rw [w1]; exact n.ws i (by omega) hwr
      · by_cases hij : i = j
        · subst hij; have := hlkj hlk; rw [hnlk] at this; simp at this
        · rw [w1, w2]; exact n.rs i (by omega) hlk
      · by_cases hij : i = j
        · subst hij
          rw [ho] at ho'; simp at ho'; subst ho'
          rw [hop] at hop'; simp at hop'
          obtain ⟨rfl, rfl⟩ := hop'
          exact ⟨v, hld.1, by rw [w3]; simp⟩
        · obtain ⟨v', q1, q2⟩ := n.lds i o' t' a' (by omega) ho' hw' hop'
          exact ⟨v', q1, by rw [w3]; simp [q2]⟩
      · by_cases hij : i = j
        · subst hij; rw [h3, hld.2] at hlt; simp at hlt
        · rw [w4]; exact n.als i (by omega) hlk hlt
    · refine ⟨wfs, fun i hi hwr => ?_, fun i hi hlk => ?_, fun i o' t' a' hi ho' hw' hop' => ?_, fun i hi hlk hlt2 => ?_⟩
      · by_cases hij : i = j
        · subst hij; rw [w1]; simp
        · rw [w1]; exact List.mem_cons_of_mem _ (n.ws i (by omega) hwr)
      · by_cases hij : i = j
        · subst hij; rw [w1]; simp
        · rw [w1, w2]; exact (n.rs i (by omega) hlk).imp id (List.mem_cons_of_mem _)
      · by_cases hij : i = j
        · subst hij
          rw [ho] at ho'; simp at ho'; subst ho'
          exact absurd hop' (hnl _ _)
        · rw [w3]; exact n.lds i o' t' a' (by omega) ho' hw' hop'
      · by_cases hij : i = j
        · subst hij
          exfalso
          apply hlk
          by_cases hlo : looks o = true
          · exact ⟨o, ho, hw, hlo⟩
          · exfalso
            rcases evOp_silent (by simpa using hlo) hnl hev with ⟨rfl, _⟩ | ⟨b, f, hn, _, _⟩
            · have h3' : (d (i + 1)).s.h.next = (d i).s.h.next := h3
              omega
            · have := (Hp.new_spec hn).2.2.1
              rw [this] at hlt
              have := (n.wf i (Nat.le_refl _)).1
              have hlt' : noId < (d i).s.h.next := hlt
              unfold noId at hlt'; unfold maxIds at this; omega
        · rw [w4]; exact n.als i (by omega) hlk hlt2
    · have hnw : ¬ Wr (fun n => (d n).s.h) j := fun hwr => hlt (hflag hwr)
      refine ⟨wfs, fun i hi hwr => ?_, fun i hi hlk => ?_, fun i o' t' a' hi ho' hw' hop' => ?_, fun i hi hlk hlt2 => ?_⟩
      · by_cases hij : i = j
        · subst hij; exact absurd hwr hnw
        · rw [w1]; exact n.ws i (by omega) hwr
      · by_cases hij : i = j
        · subst hij; rw [w2]; simp
        · rw [w1, w2]; exact (n.rs i (by omega) hlk).imp (List.mem_cons_of_mem _) id
      · by_cases hij : i = j
        · subst hij
          rw [ho] at ho'; simp at ho'; subst ho'
          exact absurd hop' (hnl _ _)
        · rw [w3]; exact n.lds i o' t' a' (by omega) ho' hw' hop'
      · by_cases hij : i = j
        · subst hij
          exact absurd ⟨o, ho, hw, hl⟩ hlk
        · rw [w4]; exact n.als i (by omega) hlk hlt2
    · have hnw : ¬ Wr (fun n => (d n).s.h) j := fun hwr => hlt (hflag hwr)
      refine ⟨wfs, fun i hi hwr => ?_, fun i hi hlk => ?_, fun i o' t' a' hi ho' hw' hop' => ?_, fun i hi hlk hlt2 => ?_⟩
      · by_cases hij : i = j
        · subst hij; exact absurd hwr hnw
        · rw [w1]; exact n.ws i (by omega) hwr
      · by_cases hij : i = j
        · subst hij; have := hlkj hlk; rw [hl] at this; simp at this
        · rw [w1, w2]; exact n.rs i (by omega) hlk
      · by_cases hij : i = j
        · subst hij
          rw [ho] at ho'; simp at ho'; subst ho'
          exact absurd hop' (hnl _ _)
        · rw [w3]; exact n.lds i o' t' a' (by omega) ho' hw' hop'
      · by_cases hij : i = j
        · subst hij
          rw [h3] at hlt2
          have hb : Nat.blt (d i).s.h.next g.next = true := by rw [Nat.blt_eq]; exact hlt2
          rw [hb] at w4
          refine ⟨by rw [w4]; simp, ?_⟩
          rcases evOp_silent hl hnl hev with ⟨rfl, _⟩ | ⟨b, f, hn, _, _⟩
          · have h3' : (d (i + 1)).s.h.next = (d i).s.h.next := h3
            have : (d i).s.h.next < (d i).s.h.next := hlt2
            omega
          · rw [h3]; exact (Hp.new_spec hn).1
        · have := n.als i (by omega) hlk hlt2
          refine ⟨?_, this.2⟩
          rw [w4]
          cases Nat.blt (d j).s.h.next g.next with
          | true => exact List.mem_cons_of_mem _ this.1
          | false => exact this.1
end
end Go.PE
