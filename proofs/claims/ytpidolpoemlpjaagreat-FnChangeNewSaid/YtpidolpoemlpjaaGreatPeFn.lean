/-
  Part of the proof: an evaluator of the model's code, proved sound, and its run (PeFn).
-/
import Derived.Test.YtpidolpoemlpjaaGreatPeRegion
set_option linter.unusedVariables false
set_option linter.unusedSimpArgs false
set_option linter.unnecessarySimpa false
set_option linter.unusedSectionVars false
namespace Go.PE
section
variable {P : Program} {call : Call} {τ : Nat → Value} {B : Base} {ι : Emb} {a : Act} {w : World}

theorem RelG.congr {g g' : Nat → Option Blk} {n m : Nat} (r : RelG τ B ι g n w) (h : ∀ id l, ι id = some l → g' id = g id) (hn : n ≤ m) (hm : m ≤ B.top) : RelG τ B ι g' m w :=
  ⟨r.kept, fun id l hid => by have := r.dom id l hid; omega, ⟨hm, r.small.2⟩, fun id l cs hid hc => r.cells id l cs hid (by rw [← h id l hid]; exact hc),
    fun id l es hid hc => r.map id l es hid (by rw [← h id l hid]; exact hc),
    fun x y lx ly hne hx hy h1 h2 => r.apart x y lx ly hne hx hy (by rw [← h x lx hx]; exact h1) (by rw [← h y ly hy]; exact h2),
    fun id l hid hl => r.own id l hid (by rw [← h id l hid]; exact hl)⟩

theorem region_sound (hτ : ∀ i, (τ i).oneCell' = true) {Z : Zed} (hcall : CallSound P τ Z call) (hbits : BitsOk P) (hB : BOk Z B) (hc : CallStp call) (hm : P.follows .mixedOrders = true)
    {ops : Array Oper} {id : Nat} {draw : Bool} {s s' : St} {Q : Exit → Act → World → Prop} (he : evRegion P call ops draw s = some s') (ht : RelT τ ι a s.tm) (hr : Rel τ B ι s.h w) (hwf : s.h.Wf)
    (hto : s'.h.next ≤ B.top) (hn : ∀ ι' a' w', RelT τ ι' a' s'.tm → Rel τ B ι' s'.h w' → Ext ι s.h ι' s'.h → a'.defers = a.defers → Q .normal a' w') :
    (Code.region id ops draw).wp P Q a w := by
  cases draw with
  | false =>
    refine wp_region ?_
    have := text_sound hτ hcall hbits hB hc (ops := ops) (Q := Q) ops.toList 0 s s' ι a w (by simp) (Nat.zero_le _) (by simpa [evRegion] using he) ht hr hwf hto hn
    simpa using this
  | true =>
    unfold evRegion at he
    simp only [cond_true] at he
    rw [Bool.cond_eq_ite] at he
    split at he
    · simp at he
    · rename_i hok
      have hok' : drOk ops.toList (Region.before ops).toList (Oper.looksAt ops) = true ∧ drBack ops.toList = true := by simpa using hok
      split at he
      · rename_i d hd
        simp only [Option.some.injEq] at he
        subst he
        obtain ⟨h1, h2⟩ := drOps_at (P := P) (call := call) (ops := ops) ⟨s, [], [], [], []⟩ ops.toList (Region.before ops).toList 0 d (by simp) (by simp) hd (Nat.zero_le _)
        obtain ⟨tr, hst⟩ := trace_of hc (d := drAt P call ops ⟨s, [], [], [], []⟩) hwf (fun j hj => h2 j (Nat.zero_le _) hj)
        have dk := drOk_dk hok'.1
        refine wp_region_any hm ?_
        have hto' : (drAt P call ops ⟨s, [], [], [], []⟩ ops.size).s.h.next ≤ B.top := by rw [← h1]; exact hto
        have h0 : s.h.next ≤ (drAt P call ops ⟨s, [], [], [], []⟩ ops.size).s.h.next := (hst ops.size (Nat.le_refl _)).le
        have hrel : Rel τ B ι s.h { w with drawn := w.drawn + 1 } := hr.same ⟨rfl, rfl, rfl, rfl⟩
        have hD : (fun i => (Array.replicate ops.size false).getD i false = true) = fun _ => False := by
          funext i; apply propext; by_cases h : i < ops.size <;> simp [Array.getD, h]
        refine any_sound hτ hcall hbits hB hc (ι0 := ι) (df := a.defers) tr dk hok'.2 (fun K ι' a' w' inv => ?_) ops.size _ 0 ι a _ (by simp) ?_ ?_
        · -- at the end
          have hT : RelT τ ι' a' d.s.tm := by
            rw [h1]
            have hlen := tr.len (q := ops.size) (Nat.le_refl _)
            refine ⟨by rw [hlen]; simpa using inv.size, fun t v x g1 g2 => ?_⟩
            have hv : a'.tmps.getD t undef = v := by
              have g1' : a'.tmps[t]? = some v := by simpa using g1
              obtain ⟨hlt, he⟩ := Array.getElem?_eq_some_iff.1 g1'
              simp [Array.getD, hlt, he]
            have hx : Tm.at (drAt P call ops ⟨s, [], [], [], []⟩ ops.size).s.tm t = x := by rw [Tm.at_eq, g2]; rfl
            rw [← hv, ← hx]
            by_cases hex : ∃ (i : Nat) (oi : Oper), ops[i]? = some oi ∧ oi.dst = some t
            · obtain ⟨i, oi, hi, hd⟩ := hex
              have hin : i < ops.size := (Array.getElem?_eq_some_iff.1 hi).1
              have := tr.tm (p := i + 1) (t := t) (q := ops.size) (by omega) (Nat.le_refl _) (fun k ok hk1 _ hk hkd => by
                rcases (dk k i ok oi t hk hi hkd).1 with h3 | h3
                · omega
                · exact h3 hd)
              rw [this]
              exact inv.t1 i oi t hin hi hd
            · have := tr.tm (p := 0) (t := t) (q := ops.size) (by omega) (Nat.le_refl _) (fun k ok _ _ hk hkd => hex ⟨k, ok, hk, hkd⟩)
              rw [this]
              exact inv.t2 t fun k ok hk hkd => absurd ⟨k, ok, hk, hkd⟩ hex
          have hR : Rel τ B ι' d.s.h w' := by
            rw [h1]
            refine RelG.toRel (inv.rel.congr (fun id l hid => ?_) (Nat.le_refl _) hto')
            have hkn := inv.kn
            have h5 := (tr.al_spec hc (id := id) (n := ops.size) (Nat.le_refl _)).1
            rcases Nat.lt_or_ge id (drAt P call ops ⟨s, [], [], [], []⟩ ops.size).s.h.next with h3 | h3
            · have h4 := tr.al_lt hc h3
              exact tr.keep hc (p := max K (al (fun j => (drAt P call ops ⟨s, [], [], [], []⟩ j).s.h) ops.size id)) (Nat.lt_of_lt_of_le h4 (tr.mono hc (by omega) (by omega))) (by omega) (Nat.le_refl _)
                (fun i i1 i2 hw => by have := (inv.kw i i2 hw).1 i2; omega)
            · have none_ : ∀ m, m ≤ ops.size → ((fun j => (drAt P call ops ⟨s, [], [], [], []⟩ j).s.h) m).get id = none := fun m hm => (tr.wf m hm).2 id (Nat.le_trans (tr.mono hc hm (Nat.le_refl _)) h3)
              exact (none_ ops.size (Nat.le_refl _)).trans (none_ (max K _) (by omega)).symm
          refine hn ι' a' w' hT hR ⟨inv.sub, by rw [h1]; exact h0, fun id l hid => ?_⟩ inv.df
          rw [h1]; exact inv.ext id l hid
        · simp [List.count_replicate]
        · rw [hD]
          refine ⟨Nat.zero_le _, fun i _ _ => by simp, fun i _ h => h.elim, ?_, ?_, fun i o t h => h.elim, fun t _ => ht.at t, by (show a.tmps.size = s.tm.length; simpa using ht.1), Sub.refl _, fun id l hid => .inl hid, rfl⟩
          · refine hrel.toG.congr (fun id l hid => ?_) h0 hto'
            rcases (hrel.dom id l hid).2 with h3 | h3
            · have := tr.al_le hc (j := 0) (Nat.zero_le _) h3
              have h6 : al (fun j => (drAt P call ops ⟨s, [], [], [], []⟩ j).s.h) ops.size id = 0 := by omega
              simp only [h6]; rfl
            · have h5 := (tr.al_spec hc (id := id) (n := ops.size) (Nat.le_refl _)).1
              have none_ : ∀ m, m ≤ ops.size → ((fun j => (drAt P call ops ⟨s, [], [], [], []⟩ j).s.h) m).get id = none := fun m hm => (tr.wf m hm).2 id (Nat.le_trans (tr.mono hc hm (Nat.le_refl _)) (Nat.le_trans hto' h3))
              exact (none_ (max 0 _) (by omega)).trans (none_ 0 (Nat.zero_le _)).symm
          · intro id l hid
            rcases (hrel.dom id l hid).2 with h3 | h3
            · exact .inl h3
            · exact .inr (.inl h3)
      · simp at he

/-! ## Code -/
def exOf : Ex → Exit
  | .norm => .normal
  | .exit id => .exit id
  | .ret => .ret

theorem loop_stp {body : St → Option (Ex × St)} (hb : ∀ s e s', body s = some (e, s') → s.h.Wf → Stp s.h s'.h) : ∀ (n : Nat) (s : St) (e : Ex) (s' : St), evLoop body n s = some (e, s') → s.h.Wf → Stp s.h s'.h := by
  intro n
  induction n with
  | zero => intro s e s' h; simp [evLoop_zero] at h
  | succ n ih =>
    intro s e s' h w
    simp only [evLoop_succ] at h
    split at h
    · rename_i s1 h1
      have s2 := hb _ _ _ h1 w
      exact s2.trans (ih _ _ _ h s2.wf)
    · exact hb _ _ _ h w

theorem code_stp (hc : CallStp call) : ∀ (c : Code) (s : St) (e : Ex) (s' : St), evCode P call c s = some (e, s') → s.h.Wf → Stp s.h s'.h := by
  intro c
  induction c with
  | skip => intro s e s' h w; simp [evCode_skip, evCode_region, evCode_seq, evCode_cond, evCode_block, evCode_loop, evCode_exit, evCode_ret, evCode_label, evCode_rangeFunc, evCode_scope, evCode_goto, evCode_refuse] at h; obtain ⟨_, rfl⟩ := h; exact .refl w
  | region id ops draw =>
    intro s e s' h w
    simp only [evCode_skip, evCode_region, evCode_seq, evCode_cond, evCode_block, evCode_loop, evCode_exit, evCode_ret, evCode_label, evCode_rangeFunc, evCode_scope, evCode_goto, evCode_refuse] at h
    split at h
    · rename_i s1 h1; simp at h; obtain ⟨_, rfl⟩ := h; exact region_stp hc h1 w
    · simp at h
  | seq x y ihx ihy =>
    intro s e s' h w
    simp only [evCode_skip, evCode_region, evCode_seq, evCode_cond, evCode_block, evCode_loop, evCode_exit, evCode_ret, evCode_label, evCode_rangeFunc, evCode_scope, evCode_goto, evCode_refuse] at h
    split at h
    · rename_i s1 h1
      have s2 := ihx _ _ _ h1 w
      exact s2.trans (ihy _ _ _ h s2.wf)
    · exact ihx _ _ _ h w
  | cond c x y ihx ihy =>
    intro s e s' h w
    simp only [evCode_skip, evCode_region, evCode_seq, evCode_cond, evCode_block, evCode_loop, evCode_exit, evCode_ret, evCode_label, evCode_rangeFunc, evCode_scope, evCode_goto, evCode_refuse] at h
    split at h
    · exact ihx _ _ _ h w
    · exact ihy _ _ _ h w
    · simp at h
  | block id x ih =>
    intro s e s' h w
    simp only [evCode_skip, evCode_region, evCode_seq, evCode_cond, evCode_block, evCode_loop, evCode_exit, evCode_ret, evCode_label, evCode_rangeFunc, evCode_scope, evCode_goto, evCode_refuse] at h
    split at h
    · rename_i id' s1 h1
      simp at h; obtain ⟨_, rfl⟩ := h
      exact ih _ _ _ h1 w
    · exact ih _ _ _ h w
  | loop x ih => intro s e s' h w; simp only [evCode_skip, evCode_region, evCode_seq, evCode_cond, evCode_block, evCode_loop, evCode_exit, evCode_ret, evCode_label, evCode_rangeFunc, evCode_scope, evCode_goto, evCode_refuse] at h; exact loop_stp ih _ _ _ _ h w
  | exit id => intro s e s' h w; simp [evCode_skip, evCode_region, evCode_seq, evCode_cond, evCode_block, evCode_loop, evCode_exit, evCode_ret, evCode_label, evCode_rangeFunc, evCode_scope, evCode_goto, evCode_refuse] at h; obtain ⟨_, rfl⟩ := h; exact .refl w
  | ret => intro s e s' h w; simp [evCode_skip, evCode_region, evCode_seq, evCode_cond, evCode_block, evCode_loop, evCode_exit, evCode_ret, evCode_label, evCode_rangeFunc, evCode_scope, evCode_goto, evCode_refuse] at h; obtain ⟨_, rfl⟩ := h; exact .refl w
  | label l => intro s e s' h w; simp [evCode_skip, evCode_region, evCode_seq, evCode_cond, evCode_block, evCode_loop, evCode_exit, evCode_ret, evCode_label, evCode_rangeFunc, evCode_scope, evCode_goto, evCode_refuse] at h; obtain ⟨_, rfl⟩ := h; exact .refl w
  | _ => intro s e s' h; simp [evCode_skip, evCode_region, evCode_seq, evCode_cond, evCode_block, evCode_loop, evCode_exit, evCode_ret, evCode_label, evCode_rangeFunc, evCode_scope, evCode_goto, evCode_refuse] at h

theorem code_sound (hτ : ∀ i, (τ i).oneCell' = true) {Z : Zed} (hcall : CallSound P τ Z call) (hbits : BitsOk P) (hB : BOk Z B) (hc : CallStp call) (hm : P.follows .mixedOrders = true) :
    ∀ (c : Code) (s : St) (e : Ex) (s' : St) (ι : Emb) (a : Act) (w : World) (Q : Exit → Act → World → Prop), evCode P call c s = some (e, s') → RelT τ ι a s.tm → Rel τ B ι s.h w → s.h.Wf → s'.h.next ≤ B.top →
    (∀ ι' a' w', RelT τ ι' a' s'.tm → Rel τ B ι' s'.h w' → Ext ι s.h ι' s'.h → a'.defers = a.defers → Q (exOf e) a' w') → c.wp P Q a w := by
  intro c
  induction c with
  | skip => intro s e s' ι a w Q h ht hr hw hto hn; simp [evCode_skip, evCode_region, evCode_seq, evCode_cond, evCode_block, evCode_loop, evCode_exit, evCode_ret, evCode_label, evCode_rangeFunc, evCode_scope, evCode_goto, evCode_refuse] at h; obtain ⟨rfl, rfl⟩ := h; exact wp_skip (hn ι a w ht hr (Ext.refl _ _) rfl)
  | region id ops draw =>
    intro s e s' ι a w Q h ht hr hw hto hn
    simp only [evCode_skip, evCode_region, evCode_seq, evCode_cond, evCode_block, evCode_loop, evCode_exit, evCode_ret, evCode_label, evCode_rangeFunc, evCode_scope, evCode_goto, evCode_refuse] at h
    split at h
    · rename_i s1 h1; simp at h; obtain ⟨rfl, rfl⟩ := h
      exact region_sound hτ hcall hbits hB hc hm h1 ht hr hw hto hn
    · simp at h
  | seq x y ihx ihy =>
    intro s e s' ι a w Q h ht hr hw hto hn
    simp only [evCode_skip, evCode_region, evCode_seq, evCode_cond, evCode_block, evCode_loop, evCode_exit, evCode_ret, evCode_label, evCode_rangeFunc, evCode_scope, evCode_goto, evCode_refuse] at h
    split at h
    · rename_i s1 h1
      have s2 := code_stp hc _ _ _ _ h1 hw
      have s3 := code_stp hc _ _ _ _ h s2.wf
      refine wp_seq (ihx _ _ _ ι a w _ h1 ht hr hw (Nat.le_trans s3.le hto) fun ι1 a1 w1 g1 g2 g3 g4 => ?_)
      exact ihy _ _ _ ι1 a1 w1 Q h g1 g2 s2.wf hto fun ι2 a2 w2 k1 k2 k3 k4 => hn ι2 a2 w2 k1 k2 (g3.trans k3) (k4.trans g4)
    · rename_i hne
      refine wp_seq (ihx _ _ _ ι a w _ h ht hr hw hto fun ι1 a1 w1 g1 g2 g3 g4 => ?_)
      have := hn ι1 a1 w1 g1 g2 g3 g4
      cases e with
      | norm => exact absurd h (hne s')
      | exit id => exact this
      | ret => exact this
  | cond c x y ihx ihy =>
    intro s e s' ι a w Q h ht hr hw hto hn
    simp only [evCode_skip, evCode_region, evCode_seq, evCode_cond, evCode_block, evCode_loop, evCode_exit, evCode_ret, evCode_label, evCode_rangeFunc, evCode_scope, evCode_goto, evCode_refuse] at h
    have hv := ht.eval c
    split at h
    · rename_i hb; rw [hb] at hv; exact wp_cond_true hv.bool_inv (ihx _ _ _ ι a w Q h ht hr hw hto hn)
    · rename_i hb; rw [hb] at hv; exact wp_cond_false hv.bool_inv (ihy _ _ _ ι a w Q h ht hr hw hto hn)
    · simp at h
  | block id x ih =>
    intro s e s' ι a w Q h ht hr hw hto hn
    simp only [evCode_skip, evCode_region, evCode_seq, evCode_cond, evCode_block, evCode_loop, evCode_exit, evCode_ret, evCode_label, evCode_rangeFunc, evCode_scope, evCode_goto, evCode_refuse] at h
    split at h
    · rename_i id' s1 h1
      simp at h; obtain ⟨rfl, rfl⟩ := h
      refine wp_block (ih _ _ _ ι a w _ h1 ht hr hw hto fun ι1 a1 w1 g1 g2 g3 g4 => ?_)
      have := hn ι1 a1 w1 g1 g2 g3 g4
      simp only [exOf, Exit.inBlock]
      by_cases hid : id' = id
      · subst hid; simpa [exOf] using this
      · have hb : Nat.beq id' id = false := by rw [← Bool.not_eq_true, Nat.beq_eq]; exact hid
        rw [if_neg hid]; simpa [exOf, hb] using this
    · rename_i hne
      refine wp_block (ih _ _ _ ι a w _ h ht hr hw hto fun ι1 a1 w1 g1 g2 g3 g4 => ?_)
      have := hn ι1 a1 w1 g1 g2 g3 g4
      cases e with
      | norm => exact this
      | exit id' => exact absurd h (hne id' s')
      | ret => exact this
  | loop x ih =>
    intro s e s' ι a w Q h ht hr hw hto hn
    simp only [evCode_skip, evCode_region, evCode_seq, evCode_cond, evCode_block, evCode_loop, evCode_exit, evCode_ret, evCode_label, evCode_rangeFunc, evCode_scope, evCode_goto, evCode_refuse] at h
    refine wp_loop_rounds loopFuel ?_
    generalize loopFuel = n at h ⊢
    induction n generalizing s ι a w with
    | zero => simp [evLoop_zero] at h
    | succ n ihn =>
      simp only [evLoop_succ] at h
      rw [rounds_succ]
      split at h
      · rename_i s1 h1
        have s2 := code_stp hc _ _ _ _ h1 hw
        have s3 := loop_stp (fun s e s' h w => code_stp hc x s e s' h w) _ _ _ _ h s2.wf
        refine ih _ _ _ ι a w _ h1 ht hr hw (Nat.le_trans s3.le hto) fun ι1 a1 w1 g1 g2 g3 g4 => ?_
        exact ihn s1 ι1 a1 w1 g1 g2 s2.wf (fun ι2 a2 w2 k1 k2 k3 k4 => hn ι2 a2 w2 k1 k2 (g3.trans k3) (k4.trans g4)) h
      · rename_i hne
        refine ih _ _ _ ι a w _ h ht hr hw hto fun ι1 a1 w1 g1 g2 g3 g4 => ?_
        have := hn ι1 a1 w1 g1 g2 g3 g4
        cases e with
        | norm => exact absurd h (hne s')
        | exit id' => exact this
        | ret => exact this
  | exit id => intro s e s' ι a w Q h ht hr hw hto hn; simp [evCode_skip, evCode_region, evCode_seq, evCode_cond, evCode_block, evCode_loop, evCode_exit, evCode_ret, evCode_label, evCode_rangeFunc, evCode_scope, evCode_goto, evCode_refuse] at h; obtain ⟨rfl, rfl⟩ := h; exact wp_exit (hn ι a w ht hr (Ext.refl _ _) rfl)
  | ret => intro s e s' ι a w Q h ht hr hw hto hn; simp [evCode_skip, evCode_region, evCode_seq, evCode_cond, evCode_block, evCode_loop, evCode_exit, evCode_ret, evCode_label, evCode_rangeFunc, evCode_scope, evCode_goto, evCode_refuse] at h; obtain ⟨rfl, rfl⟩ := h; exact wp_ret (hn ι a w ht hr (Ext.refl _ _) rfl)
  | label l => intro s e s' ι a w Q h ht hr hw hto hn; simp [evCode_skip, evCode_region, evCode_seq, evCode_cond, evCode_block, evCode_loop, evCode_exit, evCode_ret, evCode_label, evCode_rangeFunc, evCode_scope, evCode_goto, evCode_refuse] at h; obtain ⟨rfl, rfl⟩ := h; exact wp_label (hn ι a w ht hr (Ext.refl _ _) rfl)
  | _ => intro s e s' ι a w Q h; simp [evCode_skip, evCode_region, evCode_seq, evCode_cond, evCode_block, evCode_loop, evCode_exit, evCode_ret, evCode_label, evCode_rangeFunc, evCode_scope, evCode_goto, evCode_refuse] at h

/-! ## Functions -/
theorem repT_eq (n : Nat) : repT n = List.replicate n (.tup []) := by
  induction n with
  | zero => rfl
  | succ n ih => simp [repT, ih, List.replicate_succ]

theorem res_sound {s : St} (ht : RelT τ ι a s.tm) (hr : Rel τ B ι s.h w) : ∀ (rs : List ResultVar) (vs : List AV), ressA P s rs = some vs →
    ∃ us, (rs.mapM (m := Sem) fun
      | .tmp t => pure (a.tmps.getD t undef)
      | .cell b t => do loadVar t (← asAddr (a.tmps.getD b undef))).run P w = .ok us w ∧ RelL τ ι us vs := by
  intro rs
  induction rs with
  | nil => intro vs h; simp [ressA] at h; subst h; exact ⟨[], by simp, .nil⟩
  | cons r rs ih =>
    intro vs h
    simp only [ressA] at h
    split at h
    · rename_i v vs' hv hvs
      simp only [Option.some.injEq] at h
      subst h
      obtain ⟨us, h1, h2⟩ := ih vs' hvs
      cases r with
      | tmp t =>
        simp only [resA, Option.some.injEq] at hv
        subst hv
        exact ⟨a.tmps.getD t undef :: us, by simp only [List.mapM_cons, Sem.run_bind, Sem.run_pure, Result.andThen_ok, h1], .cons (ht.at t) h2⟩
      | cell b t =>
        simp only [resA] at hv
        have hb := ht.at b
        obtain ⟨u, h3, h4, _⟩ := loadA_sound hv hr hb
        have hp : ∃ ad, a.tmps.getD b undef = .pointer (some ad) := by
          unfold loadA at hv
          split at hv
          · rename_i hq; rw [hq] at hb; obtain ⟨l, _, e⟩ := hb.ptr_inv; exact ⟨_, e⟩
          · simp at hv
        obtain ⟨ad, hp⟩ := hp
        rw [hp] at h3
        have h5 : (loadVar t ad).run P w = .ok u w := by simpa [Instr.loadAt, Instr.sureAddr] using h3
        have h6 : (asAddr (a.tmps.getD b undef)).run P w = .ok ad w := by rw [hp]; rfl
        exact ⟨u :: us, by simp only [List.mapM_cons, Sem.run_bind, h6, Sem.run_pure, Result.andThen_ok, h5, h1], .cons h4 h2⟩
    · simp at h

noncomputable def evW (P : Program) (W : Call → Call) : Nat → Call
  | 0 => fun _ _ _ => none
  | n + 1 => W (evFn P (evW P W n))

theorem fn_stp (hc : CallStp call) : CallStp (evFn P call) := by
  intro f args h r h' he hw
  unfold evFn at he
  split at he
  · simp at he
  · rename_i fn hf
    split at he
    · simp at he
    · rename_i c hb
      rw [Bool.cond_eq_ite] at he
      split at he
      · simp at he
      · have key : ∀ e s, evCode P call c ⟨args ++ repT (fn.ntmps - args.length), h⟩ = some (e, s) → (match ressA P s fn.results.toList with
            | some [v] => some (v, s.h)
            | some vs => some (AV.tup vs, s.h)
            | none => none) = some (r, h') → Stp h h' := by
          intro e s h1 h2
          have s1 := code_stp hc _ _ _ _ h1 hw
          split at h2
          · simp at h2; rw [← h2.2]; exact s1
          · simp at h2; rw [← h2.2]; exact s1
          · simp at h2
        split at he
        · rename_i s h1; exact key _ s h1 he
        · rename_i s h1; exact key _ s h1 he
        · simp at he

theorem fn_sound (hτ : ∀ i, (τ i).oneCell' = true) {Z : Zed} (hcall : CallSound P τ Z call) (hbits : BitsOk P) (hc : CallStp call) (hm : P.follows .mixedOrders = true)
    {f : FuncId} {args : List AV} {h h' : Hp} {r : AV} (he : evFn P call f args h = some (r, h')) (hw : h.Wf) :
    (∃ fn c, P.funcs[f]? = some fn ∧ fn.body = some c ∧ (fn.name == "runtime.NumGoroutine") = false) ∧
    ∀ (B : Base) (ι : Emb) (w : World) (cargs : Array Value), BOk Z B → RelL τ ι cargs.toList args → Rel τ B ι h w → h'.next ≤ B.top →
      Calls P f cargs w fun e w' => ∃ v ι', e = .returned v ∧ RelV τ ι' v r ∧ Rel τ B ι' h' w' ∧ Ext ι h ι' h' := by
  unfold evFn at he
  split at he
  · simp at he
  · rename_i fn hf
    split at he
    · simp at he
    · rename_i c hb
      rw [Bool.cond_eq_ite] at he
      split at he
      · simp at he
      · rename_i hname
        have hname' : (fn.name == "runtime.NumGoroutine") = false := by simpa using hname
        refine ⟨⟨fn, c, hf, hb, hname'⟩, fun B ι w cargs hB hargs hr hto => ?_⟩
        have hsz : cargs.size = args.length := by simpa using hargs.1
        have ht : RelT τ ι ⟨cargs ++ Array.replicate (fn.ntmps - cargs.size) undef, []⟩ (args ++ repT (fn.ntmps - args.length)) := by
          unfold RelT
          simp only [Array.toList_append, Array.toList_replicate]
          refine hargs.append ?_
          rw [repT_eq, hsz]
          refine ⟨by simp, fun i v x h1 h2 => ?_⟩
          rw [List.getElem?_replicate] at h1 h2
          split at h1
          · rename_i hlt
            rw [if_pos hlt] at h2
            simp at h1 h2
            subst h1; subst h2; exact relUndef
          · simp at h1
        have key : ∀ e s, (exOf e = .normal ∨ exOf e = .ret) → evCode P call c ⟨args ++ repT (fn.ntmps - args.length), h⟩ = some (e, s) → (match ressA P s fn.results.toList with
            | some [v] => some (v, s.h)
            | some vs => some (AV.tup vs, s.h)
            | none => none) = some (r, h') → Calls P f cargs w fun e w' => ∃ v ι', e = .returned v ∧ RelV τ ι' v r ∧ Rel τ B ι' h' w' ∧ Ext ι h ι' h' := by
          intro e s hex h1 h2
          have hs : s.h = h' := by
            split at h2
            · simp at h2; exact h2.2
            · simp at h2; exact h2.2
            · simp at h2
          refine calls_of_wp hf hb (code_sound hτ hcall hbits hB hc hm c _ e s ι _ w _ h1 ht hr hw (by rw [hs]; exact hto) fun ι' a' w' g1 g2 g3 g4 => ?_)
          have hres : ∃ v, (results fn a'.tmps).run P w' = .ok v w' ∧ RelV τ ι' v r := by
            cases hvs : ressA P s fn.results.toList with
            | none => rw [hvs] at h2; simp at h2
            | some vs =>
              obtain ⟨us, k1, k2⟩ := res_sound (P := P) g1 g2 fn.results.toList vs hvs
              rw [hvs] at h2
              unfold results
              rw [Sem.run_bind, Array.mapM_eq_mapM_toList, Sem.run_map]
              refine ⟨if h : us.toArray.size = 1 then us.toArray[0] else .tuple us.toArray, ?_, ?_⟩
              · erw [k1]; simp only [Result.andThen_ok, Sem.run_pure]
              · have hl := k2.1
                split at h2
                · rename_i v hv
                  simp at hv; subst hv
                  simp at h2
                  obtain ⟨rfl, _⟩ := h2
                  obtain ⟨u, us', rfl, k3, k4⟩ := k2.cons_inv'
                  obtain rfl := k4.nil_inv
                  simpa using k3
                · rename_i vs' hne hv
                  simp at hv; subst hv
                  simp at h2
                  obtain ⟨rfl, _⟩ := h2
                  have : us.toArray.size ≠ 1 := by
                    intro e1
                    simp at e1
                    rw [hl] at e1
                    obtain ⟨v, hv⟩ := List.length_eq_one_iff.1 e1
                    exact hne v (by rw [hv])
                  rw [dif_neg this]
                  exact RelL.tup k2
                · simp at h2
          obtain ⟨v, hv, hrv⟩ := hres
          have post : a'.defers = [] ∧ ∃ v, (results fn a'.tmps).run P w' = .ok v w' ∧ ∃ v2 ι2, Ending.returned v = .returned v2 ∧ RelV τ ι2 v2 r ∧ Rel τ B ι2 h' w' ∧ Ext ι h ι2 h' :=
            ⟨g4, v, hv, v, ι', rfl, hrv, hs ▸ g2, hs ▸ g3⟩
          rcases hex with hex | hex <;> rw [hex] <;> exact post
        split at he
        · rename_i s h1; exact key _ s (.inl rfl) h1 he
        · rename_i s h1; exact key _ s (.inr rfl) h1 he
        · simp at he

theorem evCall_ok {Z : Zed} (hτ : ∀ i, (τ i).oneCell' = true) (hbits : BitsOk P) (hm : P.follows .mixedOrders = true) (W : Call → Call)
    (hW : ∀ call, CallSound P τ Z call → CallStp call → CallSound P τ Z (W call) ∧ CallStp (W call)) :
    ∀ n, CallSound P τ Z (evW P W n) ∧ CallStp (evW P W n) := by
  intro n
  induction n with
  | zero => exact ⟨fun f args h r h' he => by simp [evW] at he, fun f args h r h' he => by simp [evW] at he⟩
  | succ n ih =>
    exact hW _ (fun f args h r h' he hw => fn_sound hτ ih.1 hbits ih.2 hm he hw) (fn_stp ih.2)
end
end Go.PE
