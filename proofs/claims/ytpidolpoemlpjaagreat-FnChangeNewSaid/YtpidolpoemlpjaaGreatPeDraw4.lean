/-
  Part of the proof: an evaluator of the model's code, proved sound, and its run (PeDraw4).
-/
import Derived.Test.YtpidolpoemlpjaaGreatPeDraw3
set_option linter.unusedVariables false
set_option linter.unusedSimpArgs false
set_option linter.unnecessarySimpa false
set_option linter.unusedSectionVars false
namespace Go.PE
section
variable {P : Program} {call : Call} {ops : Array Oper} {H : Nat → Hp} {T : Nat → Tm} {τ : Nat → Value} {B : Base} {ι0 ι : Emb} {df : List Deferred} {D : Nat → Prop} {K : Nat} {a : Act} {w : World}

theorem new_some {h : Hp} {b : Blk} (e : h.next < maxIds) : ∃ h', h.new b = some h' := by
  have : Nat.blt h.next maxIds = true := by rw [Nat.blt_eq]; exact e
  exact ⟨_, by unfold Hp.new; rw [this]; rfl⟩

theorem get_lf {n l : Nat} (id : Nat) : (⟨.lf, n, l⟩ : Hp).get id = none := rfl

theorem Inv.step {Z : Zed} (hτ : ∀ i, (τ i).oneCell' = true) (hcall : CallSound P τ Z call) (hbits : BitsOk P) (hB : BOk Z B) (hc : CallStp call)
    (inv : Inv P τ B ops H T ι0 df D K ι a w) (dk : Dk ops) (tr : Trace P call ops H T) {j : Nat} {o : Oper} (x : Nxt ops D j o)
    {next : Act → World → Prop} {Q : Exit → Act → World → Prop} (hn : ∀ K' ι' a' w', Inv P τ B ops H T ι0 df (fun i => D i ∨ i = j) K' ι' a' w' → next a' w') :
    wpOp P ops Q j next a w := by
  have hj := x.lt
  have hkn := inv.kn
  have hm1 := tr.mono hc (i := j) (j := ops.size) (by omega) (Nat.le_refl _)
  have hm2 := tr.mono hc (i := j + 1) (j := ops.size) (by omega) (Nat.le_refl _)
  have hm3 := tr.stp hc hj
  have hsm := inv.rel.small
  have hmk := inv.masked dk tr x.ho x.hnd x.hb
  have hkw0 : ¬ Wr H j → ∀ i, i < ops.size → Wr H i → ((D i ∨ i = j) ↔ i < K) := by
    intro hnw i hi hw
    constructor
    · rintro (h1 | rfl)
      · exact (inv.kw i hi hw).1 h1
      · exact absurd hw hnw
    · exact fun h1 => .inl ((inv.kw i hi hw).2 h1)
  obtain ⟨o', ho', hcase⟩ := tr.step j hj
  rw [x.ho] at ho'
  simp only [Option.some.injEq] at ho'
  subst ho'
  unfold wpOp
  rw [x.ho]
  simp only []
  rcases hcase with ⟨hw, hT, hH⟩ | ⟨hw, v, h1, hev, hT, hHt, hHn⟩
  · -- not done
    have hwant : Region.wanted o (yielded ops a.tmps) = false := wanted_sound hmk (by rw [wanted_mask]; exact hw)
    rw [hwant]
    simp only [Bool.false_eq_true, if_false]
    have hnw : ¬ Wr H j := by rintro ⟨id, _, hne⟩; rw [hH] at hne; exact hne rfl
    exact hn K ι _ w (inv.done dk tr x.ho x.hb relUndef hT hkn (hkw0 hnw) (Sub.refl ι) (fun id l h => .inl h) hc inv.rel)
  · have hwant : Region.wanted o (yielded ops a.tmps) = true := wanted_sound hmk (by rw [wanted_mask]; exact hw)
    rw [hwant]
    simp only [if_true]
    left
    have hcongr : ∀ hx, evOp P call (mask (o.looksAt ops) (T j)) o hx = evOp P call (T j) o hx := fun hx => (evOp_congr evX_mask).symm
    have hHg : ∀ id, (H (j + 1)).get id = h1.get id := get_t hHt
    -- an operation that leaves the heap alone, seen at a heap of at most one block
    have quiet : ∀ (hz : Hp), hz.Wf → hz.next = (H ops.size).next → ¬ Wr H j → (∀ id b, hz.get id = some b → (H (max K (al H ops.size id))).get id = some b) →
        evOp P call (T j) o hz = some (v, hz) → o.wp P a w next Q := by
      intro hz hzw hzn hnw hsub hez
      have hent : Rel τ ⟨w, Own ι hz, B.top⟩ ι hz w := inv.rel.enter (fun id l b _ hg => hsub id b hg) (fun id l hid => by rw [hzn]; exact (inv.rel.dom id l hid).2) (by rw [hzn]; exact hsm.1) hsm.2
      refine evOp_sound hτ hcall hbits (inv.rel.bok hB (fun id l b _ hg => hsub id b hg)) (by rw [hcongr]; exact hez) hzw hmk hent (by show hz.next ≤ B.top; rw [hzn]; exact hsm.1) fun u w' ι' hu hr' hext => ?_
      have hback : ∀ id l, ι' id = some l → ι id = some l := fun id l hid => (hext.2.2 id l hid).elim (fun y => y) fun y => by omega
      refine hn K ι' _ w' (inv.done dk tr x.ho x.hb hu hT hkn (hkw0 hnw) hext.1 (fun id l hid => .inl (hback id l hid)) hc ?_)
      refine inv.rel.leave (fun id l b _ hg => hsub id b hg) hr' hext (Nat.le_refl _) (by omega) hsm.1 fun id l hid => ?_
      cases hg : hz.get id with
      | none => exact .inr ⟨hback id l hid, rfl, rfl⟩
      | some b => exact .inl (hsub id b hg)
    by_cases hld : ∃ t ad, o.op = .load t ad
    · -- a load
      obtain ⟨t, ad, hop⟩ := hld
      have hle : loadA P t (evX (T j) ad) (H j) = some v ∧ h1 = ⟨(H j).t, (H j).next, noId⟩ := by
        unfold evOp at hev
        simp only [hop, Option.map_eq_some_iff, Prod.mk.injEq] at hev
        obtain ⟨v', e1, rfl, rfl⟩ := hev
        exact ⟨by rw [← e1]; exact loadA_t fun id => rfl, rfl⟩
      have hnw : ¬ Wr H j := by
        rintro ⟨id, _, hne⟩; apply hne; rw [hHg, hle.2]; rfl
      cases had : evX (T j) ad with
      | ptr id off =>
        rw [had] at hle
        have hcell : ∃ b, (H j).get id = some b := by
          have := hle.1
          unfold loadA at this
          simp only [] at this
          split at this
          · rename_i cs n hcs _ _; exact ⟨_, Hp.cells_get hcs⟩
          · rename_i cs n hcs _ _; exact ⟨_, Hp.cells_get hcs⟩
          · simp at this
        obtain ⟨b, hb⟩ := hcell
        have hid := (tr.wf j (by omega)).live hb
        obtain ⟨m, hm, hlm⟩ := inv.load tr hc x hop hw had hid hnw
        have hidm : id < maxIds := Nat.lt_of_lt_of_le hid (tr.wf j (by omega)).1
        have hg := fun k => Hp.get_put (h := ⟨.lf, (H ops.size).next, noId⟩) (b := (H (max K (al H ops.size id))).get id) hidm k
        refine quiet ((⟨.lf, (H ops.size).next, noId⟩ : Hp).put id ((H (max K (al H ops.size id))).get id)) ⟨(tr.wf ops.size (Nat.le_refl _)).1, fun k hk => by
            have hk' : (H ops.size).next ≤ k := hk
            rw [hg, if_neg (by omega)]; rfl⟩ rfl hnw (fun k b hk => ?_) ?_
        · rw [hg] at hk
          split at hk
          · rename_i e; subst e; exact hk
          · rw [get_lf] at hk; simp at hk
        · have hlz : loadA P t (.ptr id off) ((⟨.lf, (H ops.size).next, noId⟩ : Hp).put id ((H (max K (al H ops.size id))).get id)) = some v := by
            rw [← hle.1, ← hlm]
            unfold loadA Hp.cells
            simp only []
            rw [hg, if_pos rfl, hm]
          unfold evOp
          simp only [hop, had, hlz, Option.map_some]
      | _ => rw [had] at hle; simp [loadA] at hle
    · have hnl : ∀ t ad, o.op ≠ .load t ad := fun t ad h => hld ⟨t, ad, h⟩
      by_cases hl : looks o = true
      · -- it looks into the heap
        have hlk : Lk ops T P j := ⟨o, x.ho, hw, hl⟩
        have hz : ∀ i, i < ops.size → Wr H i → (i < j → D i) ∧ (j < i → ¬ D i) := by
          intro i hi hwi
          refine ⟨fun h2 => x.hb i (tr.C i j h2 hj hwi hlk), fun h2 hdi => x.hnd (inv.cl i hi hdi j (tr.B j i h2 hi hlk hwi))⟩
        have hwfj : Hp.Wf ⟨(H j).t, (H j).next, noId⟩ := tr.wf j (by omega)
        have hsub : ∀ id l b, ι id = some l → (⟨(H j).t, (H j).next, noId⟩ : Hp).get id = some b → (H (max K (al H ops.size id))).get id = some b := by
          intro id l b _ hg
          have hid : id < (H j).next := hwfj.live hg
          rw [inv.seen tr hc x hz hid]; exact hg
        have hdom : ∀ id l, ι id = some l → id < (H j).next ∨ (H (j + 1)).next ≤ id := by
          intro id l hid
          rcases inv.dom id l hid with h2 | h2 | ⟨i, h2, h3, h4, h5⟩
          · have := tr.mono hc (i := 0) (j := j) (by omega) (by omega); omega
          · omega
          · by_cases hij : i < j
            · have := tr.mono hc (i := i + 1) (j := j) (by omega) (by omega); omega
            · have hne : i ≠ j := fun e => x.hnd (e ▸ h3)
              have := tr.mono hc (i := j + 1) (j := i) (by omega) (by omega); omega
        have hent : Rel τ ⟨w, Own ι ⟨(H j).t, (H j).next, noId⟩, (H (j + 1)).next⟩ ι ⟨(H j).t, (H j).next, noId⟩ w :=
          inv.rel.enter hsub hdom hm3 (Nat.le_trans hm2 (Nat.le_trans hsm.1 hsm.2))
        refine evOp_sound hτ hcall hbits (inv.rel.bok hB hsub) (by rw [hcongr]; exact hev) hwfj hmk hent (by show h1.next ≤ (H (j + 1)).next; rw [hHn]; exact Nat.le_refl _) fun u w' ι' hu hr' hext => ?_
        have hnew : ∀ id l, ι' id = some l → ι id = some l ∨ ((H j).next ≤ id ∧ id < (H (j + 1)).next) := fun id l hid => (hext.2.2 id l hid).imp (fun y => y) fun y => ⟨y.1, by rw [hHn]; exact y.2⟩
        by_cases hwr : Wr H j
        · refine hn (j + 1) ι' _ w' (inv.done dk tr x.ho x.hb hu hT (by omega) (fun i hi hwi => ?_) hext.1 hnew hc ?_)
          · have hzi := hz i hi hwi
            constructor
            · rintro (h2 | rfl)
              · rcases Nat.lt_or_ge i (j + 1) with h3 | h3
                · exact h3
                · exact absurd h2 (hzi.2 (by omega))
              · omega
            · intro h2
              by_cases hij : i = j
              · exact .inr hij
              · exact .inl (hzi.1 (by omega))
          · refine inv.rel.leave hsub hr' hext (Nat.le_refl _) (by omega) hsm.1 fun id l hid => ?_
            rcases Nat.lt_or_ge id (H (j + 1)).next with h2 | h2
            · left
              have := tr.al_le hc (j := j + 1) (by omega) h2
              rw [show max (j + 1) (al H ops.size id) = j + 1 by omega]
              exact hHg id
            · right
              have hold : ι id = some l := (hnew id l hid).elim (fun y => y) fun y => by omega
              refine ⟨hold, hwfj.2 id (by show (H j).next ≤ id; omega), ?_⟩
              rcases Nat.lt_or_ge id (H ops.size).next with h3 | h3
              · have h4 := tr.al_lt hc h3
                have h5 := (tr.al_spec hc (id := id) (n := ops.size) (Nat.le_refl _)).1
                have h6 : j + 1 < al H ops.size id := by
                  rcases Nat.lt_or_ge (j + 1) (al H ops.size id) with h6 | h6
                  · exact h6
                  · have := tr.mono hc (i := al H ops.size id) (j := j + 1) h6 (by omega); omega
                rw [show max (j + 1) (al H ops.size id) = al H ops.size id by omega]
                refine (tr.keep hc h4 (q := max K (al H ops.size id)) (by omega) (by omega) fun i i1 i2 hwi => ?_).symm
                exact (hz i (by omega) hwi).2 (by omega) ((inv.kw i (by omega) hwi).2 (by omega))
              · have none_ : ∀ m, m ≤ ops.size → (H m).get id = none := fun m hm => (tr.wf m hm).2 id (Nat.le_trans (tr.mono hc hm (Nat.le_refl _)) h3)
                have h5 := (tr.al_spec hc (id := id) (n := ops.size) (Nat.le_refl _)).1
                rw [none_ _ (by omega), none_ _ (by omega)]
        · refine hn K ι' _ w' (inv.done dk tr x.ho x.hb hu hT hkn (hkw0 hwr) hext.1 hnew hc ?_)
          refine inv.rel.leave hsub hr' hext (Nat.le_refl _) (by omega) hsm.1 fun id l hid => ?_
          simp only []
          rcases hnew id l hid with hold | ⟨h2, h3⟩
          · cases hg : (⟨(H j).t, (H j).next, noId⟩ : Hp).get id with
            | none => exact .inr ⟨hold, rfl, trivial⟩
            | some b =>
              left
              have hid2 : id < (H j).next := hwfj.live hg
              rw [inv.seen tr hc x hz hid2, ← hHg]
              by_cases he : (H (j + 1)).get id = (H j).get id
              · exact he.symm
              · exact absurd ⟨id, hid2, he⟩ hwr
          · left
            rw [inv.fresh tr hc x h2 h3]; exact hHg id
      · have hl' : looks o = false := by simpa using hl
        rcases evOp_silent hl' hnl hev with ⟨rfl, hall⟩ | ⟨b, f, hnew, rfl, hall⟩
        · have hnw : ¬ Wr H j := by rintro ⟨id, _, hne⟩; apply hne; rw [hHg]; rfl
          exact quiet ⟨.lf, (H ops.size).next, noId⟩ ⟨(tr.wf ops.size (Nat.le_refl _)).1, fun _ _ => rfl⟩ rfl hnw (fun id b hg => by rw [get_lf] at hg; simp at hg) (hall _)
        · obtain ⟨n1, n2, n3, n4⟩ := Hp.new_spec hnew
          have n1' : h1.next = (H j).next + 1 := n1
          have n2' : (H j).next < maxIds := n2
          have hnw : ¬ Wr H j := by
            rintro ⟨id, hid, hne⟩
            apply hne
            rw [hHg, n4]
            have : id ≠ (⟨(H j).t, (H j).next, noId⟩ : Hp).next := by show id ≠ (H j).next; omega
            rw [if_neg this]; rfl
          obtain ⟨hz', hzn⟩ := new_some (h := ⟨.lf, (H j).next, noId⟩) (b := b) n2'
          obtain ⟨m1, m2, m3, m4⟩ := Hp.new_spec hzn
          have m1' : hz'.next = (H j).next + 1 := m1
          have hez := hall _ _ hzn
          have hdom : ∀ id l, ι id = some l → id < (H j).next ∨ (H (j + 1)).next ≤ id := by
            intro id l hid
            rcases inv.dom id l hid with h2 | h2 | ⟨i, h2, h3, h4, h5⟩
            · have := tr.mono hc (i := 0) (j := j) (by omega) (by omega); omega
            · omega
            · by_cases hij : i < j
              · have := tr.mono hc (i := i + 1) (j := j) (by omega) (by omega); omega
              · have hne : i ≠ j := fun e => x.hnd (e ▸ h3)
                have := tr.mono hc (i := j + 1) (j := i) (by omega) (by omega); omega
          have hsub : ∀ id l b, ι id = some l → (⟨.lf, (H j).next, noId⟩ : Hp).get id = some b → (H (max K (al H ops.size id))).get id = some b := by
            intro id l b _ hg; rw [get_lf] at hg; simp at hg
          have hent : Rel τ ⟨w, Own ι ⟨.lf, (H j).next, noId⟩, (H (j + 1)).next⟩ ι ⟨.lf, (H j).next, noId⟩ w :=
            inv.rel.enter hsub hdom hm3 (Nat.le_trans hm2 (Nat.le_trans hsm.1 hsm.2))
          refine evOp_sound (h := ⟨.lf, (H j).next, noId⟩) hτ hcall hbits (inv.rel.bok hB hsub) (by rw [hcongr]; exact hez) ⟨Nat.le_of_lt n2', fun _ _ => rfl⟩ hmk hent (by show hz'.next ≤ (H (j + 1)).next; omega) fun u w' ι' hu hr' hext => ?_
          have hnew' : ∀ id l, ι' id = some l → ι id = some l ∨ ((H j).next ≤ id ∧ id < (H (j + 1)).next) := fun id l hid => (hext.2.2 id l hid).imp (fun y => y) fun y => ⟨y.1, by have := y.2; omega⟩
          refine hn K ι' _ w' (inv.done dk tr x.ho x.hb hu hT hkn (hkw0 hnw) hext.1 hnew' hc ?_)
          refine inv.rel.leave hsub hr' hext (Nat.le_refl _) (by omega) hsm.1 fun id l hid => ?_
          simp only []
          rcases hnew' id l hid with hold | ⟨h2, h3⟩
          · exact .inr ⟨hold, rfl, trivial⟩
          · left
            have he : id = (H j).next := by omega
            rw [inv.fresh tr hc x h2 h3, hHg, n4, m4]
            have e1 : id = (⟨(H j).t, (H j).next, noId⟩ : Hp).next := he
            have e2 : id = (⟨.lf, (H j).next, noId⟩ : Hp).next := he
            rw [if_pos e1, if_pos e2]
end
end Go.PE
