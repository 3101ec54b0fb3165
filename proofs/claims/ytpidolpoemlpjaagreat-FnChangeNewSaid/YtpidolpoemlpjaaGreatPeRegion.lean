/-
  Part of the proof: an evaluator of the model's code, proved sound, and its run (PeRegion).
-/
import Derived.Test.YtpidolpoemlpjaaGreatPeDraw4
set_option linter.unusedVariables false
set_option linter.unusedSimpArgs false
set_option linter.unnecessarySimpa false
set_option linter.unusedSectionVars false
namespace Go.PE
section
variable {P : Program} {call : Call} {τ : Nat → Value} {B : Base} {ι : Emb} {a : Act} {w : World}

theorem evOps_stp (hc : CallStp call) {ops : List Oper} : ∀ (rest : List Oper) (s s' : St), evOps P call ops rest s = some s' → s.h.Wf → Stp s.h s'.h := by
  intro rest
  induction rest with
  | nil => intro s s' h w; simp [evOps_nil] at h; subst h; exact .refl w
  | cons o rest ih =>
    intro s s' h w
    simp only [evOps_cons] at h
    split at h
    · split at h
      · rename_i v h1 he
        have s1 := evOp_stp hc w he
        exact s1.trans (ih _ _ h s1.wf)
      · simp at h
    · exact ih ⟨putD s.tm o.dst (.tup []), s.h⟩ _ h w
    · simp at h

theorem region_stp (hc : CallStp call) {ops : Array Oper} {draw : Bool} {s s' : St} (he : evRegion P call ops draw s = some s') (w : s.h.Wf) : Stp s.h s'.h := by
  unfold evRegion at he
  cases draw with
  | false => exact evOps_stp hc _ _ _ he w
  | true =>
    simp only [cond_true] at he
    rw [Bool.cond_eq_ite] at he
    split at he
    · simp at he
    · split at he
      · rename_i d hd
        simp only [Option.some.injEq] at he
        subst he
        obtain ⟨h1, h2⟩ := drOps_at (P := P) (call := call) (ops := ops) ⟨s, [], [], [], []⟩ ops.toList (Region.before ops).toList 0 d (by simp) (by simp) hd (Nat.zero_le _)
        have := (trace_of hc (d := drAt P call ops ⟨s, [], [], [], []⟩) w (fun j hj => h2 j (Nat.zero_le _) hj)).2 ops.size (Nat.le_refl _)
        rw [h1]; exact this
      · simp at he

theorem text_sound (hτ : ∀ i, (τ i).oneCell' = true) {Z : Zed} (hcall : CallSound P τ Z call) (hbits : BitsOk P) (hB : BOk Z B) (hc : CallStp call) {ops : Array Oper} {Q : Exit → Act → World → Prop} :
    ∀ (rest : List Oper) (i : Nat) (s s' : St) (ι : Emb) (a : Act) (w : World), rest = ops.toList.drop i → i ≤ ops.size → evOps P call ops.toList rest s = some s' → RelT τ ι a s.tm → Rel τ B ι s.h w → s.h.Wf → s'.h.next ≤ B.top →
    (∀ ι' a' w', RelT τ ι' a' s'.tm → Rel τ B ι' s'.h w' → Ext ι s.h ι' s'.h → a'.defers = a.defers → Q .normal a' w') →
    wpOps P ops Q ((List.range ops.size).drop i) a w := by
  intro rest
  induction rest with
  | nil =>
    intro i s s' ι a w hr hi he ht hrel hwf hto hn
    have hlen : ops.size ≤ i := by
      have := congrArg List.length hr
      simp at this; omega
    simp only [evOps_nil, Option.some.injEq] at he
    subst he
    rw [List.drop_eq_nil_of_le (by simpa using hlen)]
    exact hn ι a w ht hrel (Ext.refl _ _) rfl
  | cons o rest ih =>
    intro i s s' ι a w hr hi he ht hrel hwf hto hn
    have hlt : i < ops.size := by
      have := congrArg List.length hr
      simp at this; omega
    have ho : ops[i]? = some o := by
      have := congrArg (·[0]?) hr
      simp at this
      exact this.symm
    have hrest : rest = ops.toList.drop (i + 1) := by
      have := congrArg List.tail hr
      simpa using this
    have hrange : (List.range ops.size).drop i = i :: (List.range ops.size).drop (i + 1) := by
      rw [List.drop_eq_getElem_cons (by simpa using hlt)]
      simp
    rw [hrange, wpOps_cons]
    unfold wpOp
    rw [ho]
    simp only []
    simp only [evOps_cons] at he
    have hdf : ∀ v, (a.put o.dst v).defers = a.defers := fun v => by cases o.dst <;> simp [Act.put]
    split at he
    · rename_i hw
      split at he
      · rename_i v h1 hev
        rw [wanted_sound ht hw]
        simp only [if_true]
        left
        have s1 := evOp_stp hc hwf hev
        have s2 := evOps_stp hc rest _ s' he s1.wf
        refine evOp_sound hτ hcall hbits hB hev hwf ht hrel (Nat.le_trans s2.le hto) fun u w' ι' hu hr' hext => ?_
        exact ih (i + 1) _ s' ι' _ w' hrest hlt he ((ht.mono hext.1).put o.dst hu) hr' s1.wf hto fun ι'' a'' w'' h3 h4 h5 h6 => hn ι'' a'' w'' h3 h4 (hext.trans h5) (h6.trans (hdf u))
      · simp at he
    · rename_i hw
      rw [wanted_sound ht hw]
      simp only [Bool.false_eq_true, if_false]
      exact ih (i + 1) _ s' ι _ w hrest hlt he (ht.put o.dst relUndef) hrel hwf hto fun ι'' a'' w'' h3 h4 h5 h6 => hn ι'' a'' w'' h3 h4 h5 (h6.trans (hdf _))
    · simp at he

/-! ## Any order -/
theorem back_spec {ops : Array Oper} (h : drBack ops.toList = true) {j : Nat} {o : Oper} (ho : ops[j]? = some o) {e : Edge} (he : e ∈ o.after) (hb : Region.binds .any e = true) : e.on < j := by
  unfold drBack at h
  have h1 := List.all_eq_true.1 h (o, j) (by rw [List.mem_zipIdx_iff_getElem?]; simpa using ho)
  have h2 := List.all_eq_true.1 h1 e (by simpa using he)
  simpa [hb, Nat.blt_eq] using h2

theorem any_sound (hτ : ∀ i, (τ i).oneCell' = true) {Z : Zed} (hcall : CallSound P τ Z call) (hbits : BitsOk P) (hB : BOk Z B) (hc : CallStp call) {ops : Array Oper} {H : Nat → Hp} {T : Nat → Tm} {ι0 : Emb} {df : List Deferred}
    (tr : Trace P call ops H T) (dk : Dk ops) (hback : drBack ops.toList = true) {Q : Exit → Act → World → Prop}
    (hn : ∀ K ι a w, Inv P τ B ops H T ι0 df (fun i => i < ops.size) K ι a w → Q .normal a w) :
    ∀ (fuel : Nat) (listed : Array Bool) (K : Nat) (ι : Emb) (a : Act) (w : World), listed.size = ops.size → listed.toList.count false ≤ fuel →
      Inv P τ B ops H T ι0 df (fun i => listed.getD i false = true) K ι a w → wpAny P .any ops Q fuel listed a w := by
  -- nothing is ready only where all is done
  have hall : ∀ listed : Array Bool, listed.size = ops.size → Region.ready .any ops listed = [] → ∀ i, i < ops.size → listed.getD i false = true := by
    intro listed hsz hr i
    induction i using Nat.strongRecOn with
    | _ i ih =>
      intro hi
      cases hl : listed.getD i false with
      | true => rfl
      | false =>
        exfalso
        have : i ∈ Region.ready .any ops listed := by
          rw [mem_ready]
          refine ⟨by simp [Array.getD, hsz, hi] at hl ⊢; exact hl, ops[i], by simp [hi], fun e he hb => ?_⟩
          have := back_spec hback (j := i) (by simp [hi]) he hb
          exact ih e.on this (by omega)
        rw [hr] at this; simp at this
  have hfin : ∀ (listed : Array Bool) K ι a w, listed.size = ops.size → (∀ i, i < ops.size → listed.getD i false = true) →
      Inv P τ B ops H T ι0 df (fun i => listed.getD i false = true) K ι a w → Q .normal a w := by
    intro listed K ι a w hsz h1 inv
    have : (fun i => listed.getD i false = true) = fun i => i < ops.size := by
      funext i
      apply propext
      refine ⟨fun h2 => ?_, h1 i⟩
      rcases Nat.lt_or_ge i ops.size with h3 | h3
      · exact h3
      · simp [Array.getD, hsz, Nat.not_lt.2 h3] at h2
    rw [this] at inv
    exact hn K ι a w inv
  intro fuel
  induction fuel with
  | zero =>
    intro listed K ι a w hsz hcnt inv
    have h1 : ∀ i, i < ops.size → listed.getD i false = true := by
      intro i hi
      cases hl : listed.getD i false with
      | true => rfl
      | false =>
        exfalso
        have hm : false ∈ listed.toList := by
          have : listed[i]'(by omega) = false := by simpa [Array.getD, hsz, hi] using hl
          rw [← this]; simp
        have := List.count_pos_iff.2 hm
        omega
    refine ⟨?_, hfin listed K ι a w hsz h1 inv⟩
    apply List.eq_nil_iff_forall_not_mem.2
    intro i hi
    obtain ⟨h2, o, ho, _⟩ := mem_ready.1 hi
    have hlt : i < ops.size := (Array.getElem?_eq_some_iff.1 ho).1
    have := h1 i hlt
    simp [Array.getD, hsz, hlt] at this h2
    rw [this] at h2; simp at h2
  | succ fuel ih =>
    intro listed K ι a w hsz hcnt inv
    refine ⟨fun hr => hfin listed K ι a w hsz (hall listed hsz hr) inv, fun i hi => ?_⟩
    obtain ⟨h2, o, ho, h3⟩ := mem_ready.1 hi
    have hlt : i < ops.size := (Array.getElem?_eq_some_iff.1 ho).1
    have hli : listed[i]'(by omega) = false := by simpa [Array.getD, hsz, hlt] using h2
    have x : Nxt ops (fun i => listed.getD i false = true) i o := by
      refine ⟨ho, by simp [Array.getD, hsz, hlt, hli], fun k hk => ?_⟩
      obtain ⟨e, he, hb, h4⟩ := before_spec ops ho hk
      have h5 := h3 e he hb
      rcases h4 with h4 | h4
      · rw [← h4]; exact h5
      · have hon : e.on < ops.size := by have := back_spec hback ho he hb; omega
        exact inv.cl e.on hon h5 k h4
    refine inv.step hτ hcall hbits hB hc dk tr x fun K' ι' a' w' inv' => ?_
    refine ih (listed.setIfInBounds i true) K' ι' a' w' (by simpa using hsz) ?_ ?_
    · rw [Array.toList_setIfInBounds, List.count_set (by simpa using (by omega : i < listed.size))]
      have h6 : listed.toList[i]'(by simpa using (by omega : i < listed.size)) = false := by simpa using hli
      have h7 : 0 < listed.toList.count false := List.count_pos_iff.2 (by rw [← h6]; exact List.getElem_mem _)
      rw [h6, show (true == false) = false from rfl]
      simp only [beq_self_eq_true, if_true, Bool.false_eq_true, if_false]
      omega
    · have : (fun k => (listed.setIfInBounds i true).getD k false = true) = fun k => listed.getD k false = true ∨ k = i := by
        funext k
        apply propext
        by_cases hk : k = i
        · subst hk; simp [Array.getD, hsz, hlt]
        · simp only [hk, or_false]
          rw [getD_set_ne _ (fun e => hk e.symm)]
      rw [this]; exact inv'
end
end Go.PE
