/-
  Part of the proof: an evaluator of the model's code, proved sound, and its run (PeTrace3).
-/
import Derived.Test.YtpidolpoemlpjaaGreatPeTrace2
set_option linter.unusedVariables false
set_option linter.unusedSimpArgs false
set_option linter.unnecessarySimpa false
set_option linter.unusedSectionVars false
namespace Go.PE
section
variable {P : Program} {call : Call} {ops : Array Oper}

theorem noted_zero {d : Nat → Dr} (w : (d 0).s.h.Wf) : Noted P ops d 0 :=
  ⟨fun i hi => by have : i = 0 := by omega
                  subst this; exact w, fun i hi => by omega, fun i hi => by omega, fun i _ _ _ hi => by omega, fun i hi => by omega⟩

theorem step_stp (hc : CallStp call) {d d' : Dr} {o : Oper} {i bi : Nat} {os : List Oper} (w : d.s.h.Wf) (e : drStep P call os o i bi d = some d') : Stp d.s.h d'.s.h := by
  rcases drStep_spec e with ⟨_, _, h2, _⟩ | ⟨_, v, g, hev, _, h2, h3, h4, h5, _⟩
  · rw [h2]; exact .refl w
  · have stp := evOp_stp hc (h := ⟨d.s.h.t, d.s.h.next, noId⟩) w hev
    refine ⟨by rw [h3]; exact stp.le, ⟨by rw [h3]; exact stp.wf.1, fun id hid => by rw [get_t h2]; exact stp.wf.2 id (by rw [h3] at hid; exact hid)⟩, h4, fun id h6 h7 => ?_⟩
    rw [get_t h2]; exact stp.keep id (Nat.lt_of_lt_of_le h6 h5) h7

theorem trace_of (hc : CallStp call) {d : Nat → Dr} (w : (d 0).s.h.Wf)
    (hs : ∀ j, j < ops.size → ∃ o, ops[j]? = some o ∧ drStep P call ops.toList o j ((Region.before ops).getD j 0) (d j) = some (d (j + 1))) :
    Trace P call ops (fun j => (d j).s.h) (fun j => (d j).s.tm) ∧ ∀ j, j ≤ ops.size → Stp (d 0).s.h (d j).s.h := by
  have hn : ∀ j, j ≤ ops.size → Noted P ops d j := by
    intro j
    induction j with
    | zero => intro _; exact noted_zero w
    | succ j ih =>
      intro hj
      obtain ⟨o, ho, he⟩ := hs j (by omega)
      exact noted_step hc (ih (by omega)) ho he
  have hwf : ∀ j, j ≤ ops.size → (d j).s.h.Wf := fun j hj => (hn j hj).wf j (Nat.le_refl _)
  have hstp : ∀ j, j ≤ ops.size → Stp (d 0).s.h (d j).s.h := by
    intro j
    induction j with
    | zero => intro _; exact .refl w
    | succ j ih =>
      intro hj
      obtain ⟨o, ho, he⟩ := hs j (by omega)
      exact (ih (by omega)).trans (step_stp hc (hwf j (by omega)) he)
  -- who writes fell under the writers' check
  have wr : ∀ j, j < ops.size → Wr (fun n => (d n).s.h) j → ∃ o, ops[j]? = some o ∧ (∀ x ∈ (d j).ws, bit ops j x.1) ∧ (∀ x ∈ (d j).rs, bit ops j x) ∧
      (∀ x ∈ (d j).lds, bit ops j x.1 ∨ stays P x.2.1 x.2.2.1 x.2.2.2 (d (j + 1)).s.h = true) ∧
      (∀ x ∈ (d j).als, bit ops j x.1 ∨ sameB ((d j).s.h.get x.2) ((d (j + 1)).s.h.get x.2) = true) := by
    intro j hj hwr
    obtain ⟨o, ho, he⟩ := hs j hj
    refine ⟨o, ho, ?_⟩
    rcases drStep_spec he with ⟨_, _, h2, _⟩ | ⟨_, v, g, hev, _, h2, h3, h4, h5, hcase⟩
    · obtain ⟨id, _, hne⟩ := hwr
      exact absurd (by show (d (j + 1)).s.h.get id = _; rw [h2]) hne
    · have stp := evOp_stp hc (h := ⟨(d j).s.h.t, (d j).s.h.next, noId⟩) (hwf j (by omega)) hev
      have hflag : g.lw < (d j).s.h.next := by
        obtain ⟨id, hid, hne⟩ := hwr
        rcases Nat.lt_or_ge id g.lw with h4 | h4
        · exact absurd ((get_t h2 id).trans (stp.keep id h4 hid)) hne
        · exact Nat.lt_of_le_of_lt h4 hid
      rcases hcase with ⟨t, a, hop, _⟩ | ⟨_, _, c1, c2, c3, c4, _⟩ | ⟨_, hlt, _⟩ | ⟨_, hlt, _⟩
      · exfalso
        unfold evOp at hev
        simp only [hop, Option.map_eq_some_iff, Prod.mk.injEq] at hev
        obtain ⟨v', e1, _, rfl⟩ := hev
        obtain ⟨id, _, hne⟩ := hwr
        exact hne (get_t h2 id)
      · exact ⟨c1, c2, c3, c4⟩
      · exact absurd hflag hlt
      · exact absurd hflag hlt
  refine ⟨⟨hwf, ?_, ?_, ?_, ?_, ?_, ?_, ?_⟩, hstp⟩
  · intro j hj
    obtain ⟨o, ho, he⟩ := hs j hj
    refine ⟨o, ho, ?_⟩
    rcases drStep_spec he with ⟨h0, h1, h2, _⟩ | ⟨h0, v, g, hev, h1, h2, h3, _⟩
    · exact .inl ⟨h0, h1, h2⟩
    · exact .inr ⟨h0, v, g, hev, h1, h2, h3⟩
  · intro i j hij hj wi wj
    obtain ⟨_, _, c1, _⟩ := wr j hj wj
    exact c1 _ ((hn j (by omega)).ws i hij wi)
  · intro i j hij hj li wj
    obtain ⟨_, _, c1, c2, _⟩ := wr j hj wj
    rcases (hn j (by omega)).rs i hij li with h1 | h1
    · exact c2 _ h1
    · exact c1 _ h1
  · intro i j hij hj wi lj
    obtain ⟨o, ho, he⟩ := hs j hj
    obtain ⟨o', ho', hw', hl⟩ := lj
    rw [ho] at ho'; simp at ho'; subst ho'
    have hin := (hn j (by omega)).ws i hij wi
    rcases drStep_spec he with ⟨h0, _⟩ | ⟨h0, v, g, hev, _, h2, h3, h4, h5, hcase⟩
    · have : wantedA ops.toList (d j).s.tm o = some true := hw'
      rw [h0] at this; simp at this
    · rcases hcase with ⟨t, a, hop, _⟩ | ⟨_, _, c1, _⟩ | ⟨_, _, _, c1, _⟩ | ⟨_, _, hl', _⟩
      · unfold looks at hl; rw [hop] at hl; simp at hl
      · exact c1 _ hin
      · exact c1 _ hin
      · rw [hl'] at hl; simp at hl
  · intro i j o t a hij ho hw hop wi
    have hj : j < ops.size := (Array.getElem?_eq_some_iff.1 ho).1
    obtain ⟨o', ho', he⟩ := hs j hj
    rw [ho] at ho'; simp at ho'; subst ho'
    have hin := (hn j (by omega)).ws i hij wi
    rcases drStep_spec he with ⟨h0, _⟩ | ⟨h0, v, g, hev, _, h2, h3, h4, h5, hcase⟩
    · have : wantedA ops.toList (d j).s.tm o = some true := hw
      rw [h0] at this; simp at this
    · rcases hcase with ⟨t', a', hop', c1, _⟩ | ⟨hnl, _⟩ | ⟨hnl, _⟩ | ⟨hnl, _⟩
      · rw [hop] at hop'; simp at hop'
        obtain ⟨rfl, rfl⟩ := hop'
        refine (c1 _ hin).imp id fun hst => ?_
        have h6 := stays_eq hst
        unfold evOp at hev
        simp only [hop, Option.map_eq_some_iff, Prod.mk.injEq] at hev
        obtain ⟨v', e1, rfl, _⟩ := hev
        show loadA P t (evX (d j).s.tm a) (d i).s.h = loadA P t (evX (d j).s.tm a) (d j).s.h
        rw [h6, ← e1]; exact loadA_t fun id => rfl
      · exact absurd hop (hnl _ _)
      · exact absurd hop (hnl _ _)
      · exact absurd hop (hnl _ _)
  · intro i j o t a hij hj ho hw hop wj
    obtain ⟨_, _, _, _, c3, _⟩ := wr j hj wj
    obtain ⟨v, q1, q2⟩ := (hn j (by omega)).lds i o t a hij ho hw hop
    refine (c3 _ q2).imp id fun hst => ?_
    show loadA P t (evX (d i).s.tm a) (d (j + 1)).s.h = loadA P t (evX (d i).s.tm a) (d i).s.h
    rw [stays_eq hst, q1]
  · intro i j hij hj wj
    obtain ⟨_, _, c1, c2, _, c4⟩ := wr j hj wj
    by_cases hlk : Lk ops (fun n => (d n).s.tm) P i
    · left
      rcases (hn j (by omega)).rs i hij hlk with h1 | h1
      · exact c2 _ h1
      · exact c1 _ h1
    · by_cases hlt : (d i).s.h.next < (d (i + 1)).s.h.next
      · obtain ⟨h1, h2⟩ := (hn j (by omega)).als i hij hlk hlt
        refine (c4 _ h1).imp id fun hs id hid1 hid2 => ?_
        have h1' : (d i).s.h.next ≤ id := hid1
        have h2' : id < (d (i + 1)).s.h.next := hid2
        have : id = (d i).s.h.next := by omega
        subst this
        exact (sameB_eq hs).symm
      · right
        intro id hid1 hid2
        have h1' : (d i).s.h.next ≤ id := hid1
        have h2' : id < (d (i + 1)).s.h.next := hid2
        omega
end
end Go.PE
