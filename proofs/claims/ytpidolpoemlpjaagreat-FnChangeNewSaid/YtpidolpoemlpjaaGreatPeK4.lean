/-
  Part of the proof: an evaluator of the model's code, proved sound, and its run (PeK4).
-/
import Derived.Test.YtpidolpoemlpjaaGreatPeK3
set_option linter.unusedVariables false
set_option linter.unusedSimpArgs false
set_option linter.unnecessarySimpa false
set_option linter.unusedSectionVars false
namespace Go.PE
noncomputable section
abbrev KT := Ex → TT2 → Hp → R
inductive WK where | mk (f : Call → TT2 → Hp → KT → R)
def WK.run (g : WK) (c : Call) (t : TT2) (h : Hp) (K : KT) : R := WK.rec (motive := fun _ => R) (fun f => f c t h K) g
theorem WK.run_mk (f : Call → TT2 → Hp → KT → R) (c : Call) (t : TT2) (h : Hp) (K : KT) : (WK.mk f).run c t h K = f c t h K := rfl
def nowK : WK := .mk fun _ _ _ _ => none
variable (P : Program)
/-- The temporary that a guard reads. -/
def guardK (n : Nat) (ops : List Oper) (o : Oper) : Option (Nat × Bool) :=
  match o.guard with
  | none => none
  | some (j, want) =>
    match (ops[j]?).bind (·.dst) with
    | some d => bif Nat.blt d n then some (d, want) else none
    | none => none
/-- An operation, then what follows. -/
def actK (n : Nat) (o : Oper) (nx : WK) : WK :=
  match o.op with
  | .move x => .mk fun c t h K => nx.run c ((sdK o.dst).run t ((gxK x).run t)) h K
  | .assign x => .mk fun c t h K => nx.run c ((sdK o.dst).run t ((gxK x).run t)) h K
  | .load ty a => .mk fun c t h K => (loK P ty).run ((gxK a).run t) h fun v => nx.run c ((sdK o.dst).run t v) h K
  | .binOp op ty x y _ => .mk fun c t h K => (bK P op ty).run ((gxK x).run t) ((gxK y).run t) fun v => nx.run c ((sdK o.dst).run t v) h K
  | .fieldAddr s x f => .mk fun c t h K => (faK P s f).run ((gxK x).run t) fun v => nx.run c ((sdK o.dst).run t v) h K
  | .indexAddr ty x ix => .mk fun c t h K => (iaK P ty).run ((gxK x).run t) ((gxK ix).run t) fun v => nx.run c ((sdK o.dst).run t v) h K
  | .nilCheck x => .mk fun c t h K => avRef ((gxK x).run t) fun v => nx.run c ((sdK o.dst).run t v) h K
  | .pick x a b => .mk fun c t h K => avBool ((gxK x).run t) (nx.run c ((sdK o.dst).run t ((gxK a).run t)) h K) (nx.run c ((sdK o.dst).run t ((gxK b).run t)) h K)
  | _ => .mk fun c t h K => (kop P n o).run c t h fun v h' => nx.run c ((sdK o.dst).run t v) h' K
theorem actK_run {n : Nat} (hn : n ≤ 256) {t : TT2} {tm : Tm} (ag : Agr n t tm) (o : Oper) (ok : okO n o = true) {c' c : Call} (hc : Refines c' c) {h : Hp} {K : KT} {r : AV × Hp} {nx : WK}
    (he : (actK P n o nx).run c' t h K = some r) : ∃ v h', evOp P c tm o h = some (v, h') ∧ nx.run c' ((sdK o.dst).run t v) h' K = some r := by
  obtain ⟨dst, op, type, pos, after, guard⟩ := o
  have ok1 := ok
  unfold okO at ok1
  simp only [Bool.and_eq_true] at ok1
  have g : ∀ x, x ∈ op.operands.toList → (gxK x).run t = evX tm x := fun x hx => gxK_run ag x (List.all_eq_true.1 ok1.1 x hx)
  unfold actK at he
  simp only [] at he
  split at he
  · rename_i x
    have g_x := g x (by simp [Op.operands])
    simp only [WK.run_mk, g_x] at he
    exact ⟨_, _, by simp [evOp], he⟩
  · rename_i x
    have g_x := g x (by simp [Op.operands])
    simp only [WK.run_mk, g_x] at he
    exact ⟨_, _, by simp [evOp], he⟩
  · exact kop_run P ag _ ok hc he
  · exact kop_run P ag _ ok hc he
  · exact kop_run P ag _ ok hc he
  · exact kop_run P ag _ ok hc he
  · exact kop_run P ag _ ok hc he
  · exact kop_run P ag _ ok hc he
  · exact kop_run P ag _ ok hc he
def opK (n : Nat) (ops : List Oper) (o : Oper) (nx : WK) : WK :=
  bif !(okO n o) then nowK else
  match o.guard with
  | none => actK P n o nx
  | some _ =>
    match guardK n ops o with
    | none => nowK
    | some (d, want) => bif want then .mk fun c t h K => avWant ((gk d).run t) ((actK P n o nx).run c t h K) (nx.run c ((sdK o.dst).run t (.tup [])) h K) (nx.run c ((sdK o.dst).run t (.tup [])) h K)
      else .mk fun c t h K => avWant ((gk d).run t) (nx.run c ((sdK o.dst).run t (.tup [])) h K) ((actK P n o nx).run c t h K) (nx.run c ((sdK o.dst).run t (.tup [])) h K)
theorem okO_dst {n : Nat} {o : Oper} (hok : okO n o = true) : (match o.dst with | some d => Nat.blt d n | none => true) = true := by
  unfold okO at hok; simp only [Bool.and_eq_true] at hok; exact hok.2
theorem guardK_spec {n : Nat} {ops : List Oper} {o : Oper} {d : Nat} {want : Bool} (h : guardK n ops o = some (d, want)) {t : TT2} {tm : Tm} (ag : Agr n t tm) :
    (∀ b, (gk d).run t = .bool b → wantedA ops tm o = some (b == want)) ∧ ((gk d).run t = .tup [] → wantedA ops tm o = some false) := by
  unfold guardK at h
  split at h
  · simp at h
  · rename_i j w hg
    split at h
    · rename_i d' hd
      cases hb : Nat.blt d' n with
      | false => rw [hb] at h; simp at h
      | true =>
        rw [hb] at h
        simp only [cond_true, Option.some.injEq, Prod.mk.injEq] at h
        obtain ⟨rfl, rfl⟩ := h
        have hdn : d' < n := by simpa [Nat.blt_eq] using hb
        have e := ag.2 d' hdn
        unfold wantedA
        rw [hg]
        simp only [hd]
        constructor
        · intro b hb; rw [e] at hb; rw [hb]
        · intro hb; rw [e] at hb; rw [hb]
    · simp at h
theorem opK_run {n : Nat} (hn : n ≤ 256) {t : TT2} {tm : Tm} (ag : Agr n t tm) (ops : List Oper) (o : Oper) {c' c : Call} (hc : Refines c' c) {h : Hp} {K : KT} {r : AV × Hp} {nx : WK}
    (he : (opK P n ops o nx).run c' t h K = some r) :
    (∃ v h', wantedA ops tm o = some true ∧ evOp P c tm o h = some (v, h') ∧ Agr n ((sdK o.dst).run t v) (putD tm o.dst v) ∧ nx.run c' ((sdK o.dst).run t v) h' K = some r) ∨
    (wantedA ops tm o = some false ∧ Agr n ((sdK o.dst).run t (.tup [])) (putD tm o.dst (.tup [])) ∧ nx.run c' ((sdK o.dst).run t (.tup [])) h K = some r) := by
  unfold opK at he
  cases hok : okO n o with
  | false => rw [hok] at he; exact nomatch he
  | true =>
    rw [hok] at he
    simp only [Bool.not_true, cond_false] at he
    have hd := okO_dst hok
    have yes : wantedA ops tm o = some true → (actK P n o nx).run c' t h K = some r →
        (∃ v h', wantedA ops tm o = some true ∧ evOp P c tm o h = some (v, h') ∧ Agr n ((sdK o.dst).run t v) (putD tm o.dst v) ∧ nx.run c' ((sdK o.dst).run t v) h' K = some r) ∨
        (wantedA ops tm o = some false ∧ Agr n ((sdK o.dst).run t (.tup [])) (putD tm o.dst (.tup [])) ∧ nx.run c' ((sdK o.dst).run t (.tup [])) h K = some r) := fun hw ha => by
      obtain ⟨v, h', h1, h2⟩ := actK_run P hn ag o hok hc ha
      exact .inl ⟨v, h', hw, h1, ag.put hn o.dst v hd, h2⟩
    split at he
    · rename_i hg
      exact yes (by unfold wantedA; rw [hg]) he
    · split at he
      · exact nomatch he
      · rename_i d want hgk
        have gs := guardK_spec hgk ag
        cases want with
        | true =>
          simp only [cond_true, WK.run_mk] at he
          rcases avWant_inv he with ⟨h1, h2⟩ | ⟨h1, h2⟩ | ⟨h1, h2⟩
          · exact yes (gs.1 _ h1) h2
          · exact .inr ⟨gs.1 _ h1, ag.put hn o.dst _ hd, h2⟩
          · exact .inr ⟨gs.2 h1, ag.put hn o.dst _ hd, h2⟩
        | false =>
          simp only [cond_false, WK.run_mk] at he
          rcases avWant_inv he with ⟨h1, h2⟩ | ⟨h1, h2⟩ | ⟨h1, h2⟩
          · exact .inr ⟨gs.1 _ h1, ag.put hn o.dst _ hd, h2⟩
          · exact yes (gs.1 _ h1) h2
          · exact .inr ⟨gs.2 h1, ag.put hn o.dst _ hd, h2⟩
/-- A region's operations in the text's order. -/
def oxK (n : Nat) (ops rest : List Oper) (nx : WK) : WK := List.rec (motive := fun _ => WK) nx (fun o _ ih => opK P n ops o ih) rest
theorem oxK_run {n : Nat} (hn : n ≤ 256) (ops : List Oper) {c' c : Call} (hc : Refines c' c) {K : KT} {r : AV × Hp} {nx : WK} : ∀ (rest : List Oper) {t : TT2} {tm : Tm} {h : Hp}, Agr n t tm →
    (oxK P n ops rest nx).run c' t h K = some r → ∃ tm' t' h', evOps P c ops rest ⟨tm, h⟩ = some ⟨tm', h'⟩ ∧ Agr n t' tm' ∧ nx.run c' t' h' K = some r := by
  intro rest
  induction rest with
  | nil => intro t tm h ag he; exact ⟨tm, t, h, rfl, ag, he⟩
  | cons o rest ih =>
    intro t tm h ag he
    rw [evOps_cons]
    rcases opK_run P hn ag ops o hc he with ⟨v, h', h1, h2, h3, h4⟩ | ⟨h1, h2, h3⟩
    · obtain ⟨tm', t', h'', k1, k2, k3⟩ := ih h3 h4
      exact ⟨tm', t', h'', by simp only [h1, h2, k1], k2, k3⟩
    · obtain ⟨tm', t', h'', k1, k2, k3⟩ := ih h2 h3
      exact ⟨tm', t', h'', by simp only [h1, k1], k2, k3⟩

/-! Regions that draw their order. -/
abbrev Ws := List (Nat × Hp)
abbrev Lds := List (Nat × TypeId × AV × AV)
abbrev Als := List (Nat × Nat)
inductive DK where | mk (f : Call → TT2 → Hp → Ws → List Nat → Lds → Als → KT → R)
def DK.run (g : DK) (c : Call) (t : TT2) (h : Hp) (ws : Ws) (rs : List Nat) (lds : Lds) (als : Als) (K : KT) : R := DK.rec (motive := fun _ => R) (fun f => f c t h ws rs lds als K) g
theorem DK.run_mk (f : Call → TT2 → Hp → Ws → List Nat → Lds → Als → KT → R) (c : Call) (t : TT2) (h : Hp) (ws : Ws) (rs : List Nat) (lds : Lds) (als : Als) (K : KT) :
    (DK.mk f).run c t h ws rs lds als K = f c t h ws rs lds als K := rfl
def allJ {α : Type} (f : α → Bool) (l : List α) : Bool := List.rec (motive := fun _ => Bool) true (fun a _ ih => Bool.rec (motive := fun _ => Bool) false ih (f a)) l
theorem allJ_eq {α : Type} (f : α → Bool) (l : List α) : allJ f l = l.all f := by
  induction l with
  | nil => rfl
  | cons a l ih =>
    show Bool.rec (motive := fun _ => Bool) false (allJ f l) (f a) = _
    rw [ih, List.all_cons]; cases f a <;> rfl
def dLoad (i bi : Nat) (ty : TypeId) (av v : AV) (h h1 : Hp) (ws : Ws) (lds : Lds) (k : Hp → Lds → R) : R :=
  andR (allJ (fun p => Nat.testBit bi p.1 || stays P ty av v p.2) ws) (k ⟨h1.t, h1.next, lwMin h1.lw h.lw⟩ ((i, ty, av, v) :: lds))
def dAct (lk : Bool) (i bi : Nat) (h h1 : Hp) (ws : Ws) (rs : List Nat) (lds : Lds) (als : Als) (k : Hp → Ws → List Nat → Als → R) : R :=
  orR (Nat.blt h1.lw h.next)
    (andR (allJ (fun p => Nat.testBit bi p.1) ws && allJ (Nat.testBit bi ·) rs &&
        allJ (fun p => Nat.testBit bi p.1 || stays P p.2.1 p.2.2.1 p.2.2.2 ⟨h1.t, h1.next, lwMin h1.lw h.lw⟩) lds &&
        allJ (fun p => Nat.testBit bi p.1 || sameB (h.get p.2) (Hp.get ⟨h1.t, h1.next, lwMin h1.lw h.lw⟩ p.2)) als)
      (k ⟨h1.t, h1.next, lwMin h1.lw h.lw⟩ ((i, h) :: ws) rs als))
    (orR lk (andR (allJ (fun p => Nat.testBit bi p.1) ws) (k ⟨h1.t, h1.next, lwMin h1.lw h.lw⟩ ws (i :: rs) als))
      (k ⟨h1.t, h1.next, lwMin h1.lw h.lw⟩ ws rs (orA (Nat.blt h.next h1.next) ((i, h.next) :: als) als)))
where orA (b : Bool) (x y : Als) : Als := Bool.rec (motive := fun _ => Als) y x b
def dActK (n : Nat) (o : Oper) (i bi : Nat) (nx : DK) : DK :=
  match o.op with
  | .load ty a => .mk fun c t h ws rs lds als K => (kop P n o).run c t ⟨h.t, h.next, noId⟩ fun v h1 =>
      dLoad P i bi ty ((gxK a).run t) v h h1 ws lds fun h' lds' => nx.run c ((sdK o.dst).run t v) h' ws rs lds' als K
  | _ => bif looks o then .mk fun c t h ws rs lds als K => (kop P n o).run c t ⟨h.t, h.next, noId⟩ fun v h1 =>
      dAct P true i bi h h1 ws rs lds als fun h' ws' rs' als' => nx.run c ((sdK o.dst).run t v) h' ws' rs' lds als' K
    else .mk fun c t h ws rs lds als K => (kop P n o).run c t ⟨h.t, h.next, noId⟩ fun v h1 =>
      dAct P false i bi h h1 ws rs lds als fun h' ws' rs' als' => nx.run c ((sdK o.dst).run t v) h' ws' rs' lds als' K
def dOpK (n : Nat) (ops : List Oper) (o : Oper) (i bi : Nat) (nx : DK) : DK :=
  bif !(okO n o) then .mk fun _ _ _ _ _ _ _ _ => none else
  match o.guard with
  | none => dActK P n o i bi nx
  | some _ =>
    match guardK n ops o with
    | none => .mk fun _ _ _ _ _ _ _ _ => none
    | some (d, want) => bif want then .mk fun c t h ws rs lds als K => avWant ((gk d).run t) ((dActK P n o i bi nx).run c t h ws rs lds als K)
          (nx.run c ((sdK o.dst).run t (.tup [])) h ws rs lds als K) (nx.run c ((sdK o.dst).run t (.tup [])) h ws rs lds als K)
      else .mk fun c t h ws rs lds als K => avWant ((gk d).run t) (nx.run c ((sdK o.dst).run t (.tup [])) h ws rs lds als K)
          ((dActK P n o i bi nx).run c t h ws rs lds als K) (nx.run c ((sdK o.dst).run t (.tup [])) h ws rs lds als K)
theorem dActK_run {n : Nat} (hn : n ≤ 256) {t : TT2} {tm : Tm} (ag : Agr n t tm) (ops : List Oper) (o : Oper) (hok : okO n o = true) (i bi : Nat) {c' c : Call} (hc : Refines c' c) {h : Hp} {ws : Ws} {rs : List Nat} {lds : Lds} {als : Als}
    {K : KT} {r : AV × Hp} {nx : DK} (hw : wantedA ops tm o = some true) (he : (dActK P n o i bi nx).run c' t h ws rs lds als K = some r) :
    ∃ tm' t' h' ws' rs' lds' als', drStep P c ops o i bi ⟨⟨tm, h⟩, ws, rs, lds, als⟩ = some ⟨⟨tm', h'⟩, ws', rs', lds', als'⟩ ∧ Agr n t' tm' ∧ nx.run c' t' h' ws' rs' lds' als' K = some r := by
  have hd := okO_dst hok
  have act : ∀ lk, lk = looks o → (∀ ty a, o.op ≠ .load ty a) → (∃ v h1, evOp P c tm o ⟨h.t, h.next, noId⟩ = some (v, h1) ∧
      dAct P lk i bi h h1 ws rs lds als (fun h' ws' rs' als' => nx.run c' ((sdK o.dst).run t v) h' ws' rs' lds als' K) = some r) →
      ∃ tm' t' h' ws' rs' lds' als', drStep P c ops o i bi ⟨⟨tm, h⟩, ws, rs, lds, als⟩ = some ⟨⟨tm', h'⟩, ws', rs', lds', als'⟩ ∧ Agr n t' tm' ∧ nx.run c' t' h' ws' rs' lds' als' K = some r := by
    rintro lk hlk hne ⟨v, h1, he2, hp⟩
    have ag' := ag.put hn o.dst v hd
    unfold dAct at hp
    rw [allJ_eq, allJ_eq, allJ_eq, allJ_eq] at hp
    have fin : ∀ h' ws' rs' als', (bif Nat.blt h1.lw h.next then
            bif ws.all (fun (j, _) => Nat.testBit bi j) && rs.all (Nat.testBit bi ·) &&
                lds.all (fun (j, t, a, v) => Nat.testBit bi j || stays P t a v ⟨h1.t, h1.next, bif Nat.blt h1.lw h.lw then h1.lw else h.lw⟩) &&
                als.all (fun (j, id) => Nat.testBit bi j || sameB (h.get id) (Hp.get ⟨h1.t, h1.next, bif Nat.blt h1.lw h.lw then h1.lw else h.lw⟩ id)) then
              some (⟨⟨putD tm o.dst v, ⟨h1.t, h1.next, bif Nat.blt h1.lw h.lw then h1.lw else h.lw⟩⟩, (i, h) :: ws, rs, lds, als⟩ : Dr)
            else none
          else bif looks o then
            bif ws.all (fun (j, _) => Nat.testBit bi j) then some ⟨⟨putD tm o.dst v, ⟨h1.t, h1.next, bif Nat.blt h1.lw h.lw then h1.lw else h.lw⟩⟩, ws, i :: rs, lds, als⟩ else none
          else some ⟨⟨putD tm o.dst v, ⟨h1.t, h1.next, bif Nat.blt h1.lw h.lw then h1.lw else h.lw⟩⟩, ws, rs, lds, bif Nat.blt h.next h1.next then (i, h.next) :: als else als⟩) =
          some ⟨⟨putD tm o.dst v, h'⟩, ws', rs', lds, als'⟩ → nx.run c' ((sdK o.dst).run t v) h' ws' rs' lds als' K = some r →
        ∃ tm' t' h' ws' rs' lds' als', drStep P c ops o i bi ⟨⟨tm, h⟩, ws, rs, lds, als⟩ = some ⟨⟨tm', h'⟩, ws', rs', lds', als'⟩ ∧ Agr n t' tm' ∧ nx.run c' t' h' ws' rs' lds' als' K = some r := by
      intro h' ws' rs' als' k1 k2
      refine ⟨_, _, h', ws', rs', lds, als', ?_, ag', k2⟩
      unfold drStep
      simp only [hw, he2]
      exact k1
    rcases orR_cases hp with ⟨q1, q2⟩ | ⟨q1, q2⟩
    · obtain ⟨q3, q4⟩ := andR_inv q2
      refine fin _ _ _ _ ?_ q4
      rw [q1]
      simp only [cond_true]
      have : (ws.all (fun (j, _) => Nat.testBit bi j) && rs.all (Nat.testBit bi ·) &&
                lds.all (fun (j, t, a, v) => Nat.testBit bi j || stays P t a v ⟨h1.t, h1.next, bif Nat.blt h1.lw h.lw then h1.lw else h.lw⟩) &&
                als.all (fun (j, id) => Nat.testBit bi j || sameB (h.get id) (Hp.get ⟨h1.t, h1.next, bif Nat.blt h1.lw h.lw then h1.lw else h.lw⟩ id))) = true := q3
      rw [this]; rfl
    · rcases orR_cases q2 with ⟨q3, q4⟩ | ⟨q3, q4⟩
      · obtain ⟨q5, q6⟩ := andR_inv q4
        refine fin _ _ _ _ ?_ q6
        rw [q1, ← hlk, q3]
        simp only [cond_true, cond_false]
        have : ws.all (fun (j, _) => Nat.testBit bi j) = true := q5
        rw [this]; rfl
      · refine fin _ _ _ _ ?_ q4
        rw [q1, ← hlk, q3]
        simp only [cond_false]
        cases hb : Nat.blt h.next h1.next <;> rfl
  unfold dActK at he
  split at he
  · rename_i ty a hop
    have ga : (gxK a).run t = evX tm a := by
      have : okX n a = true := by
        unfold okO at hok; simp only [Bool.and_eq_true] at hok
        exact List.all_eq_true.1 hok.1 a (by rw [hop]; simp [Op.operands])
      exact gxK_run ag a this
    simp only [DK.run_mk, ga] at he
    obtain ⟨v, h1, he2, hp⟩ := kop_run P ag o hok hc he
    unfold dLoad at hp
    rw [allJ_eq] at hp
    obtain ⟨q1, q2⟩ := andR_inv hp
    refine ⟨_, _, _, _, _, _, _, ?_, ag.put hn o.dst v hd, q2⟩
    unfold drStep
    simp only [hw, he2, hop]
    have : ws.all (fun (j, hb) => Nat.testBit bi j || stays P ty (evX tm a) v hb) = true := q1
    rw [this]; rfl
  · rename_i hne
    cases hlk : looks o with
    | true =>
      rw [hlk] at he
      simp only [cond_true, DK.run_mk] at he
      obtain ⟨v, h1, he2, hp⟩ := kop_run P ag o hok hc he
      exact act true hlk.symm hne ⟨v, h1, he2, hp⟩
    | false =>
      rw [hlk] at he
      simp only [cond_false, DK.run_mk] at he
      obtain ⟨v, h1, he2, hp⟩ := kop_run P ag o hok hc he
      exact act false hlk.symm hne ⟨v, h1, he2, hp⟩
theorem dOpK_run {n : Nat} (hn : n ≤ 256) {t : TT2} {tm : Tm} (ag : Agr n t tm) (ops : List Oper) (o : Oper) (i bi : Nat) {c' c : Call} (hc : Refines c' c) {h : Hp} {ws : Ws} {rs : List Nat} {lds : Lds} {als : Als}
    {K : KT} {r : AV × Hp} {nx : DK} (he : (dOpK P n ops o i bi nx).run c' t h ws rs lds als K = some r) :
    ∃ tm' t' h' ws' rs' lds' als', drStep P c ops o i bi ⟨⟨tm, h⟩, ws, rs, lds, als⟩ = some ⟨⟨tm', h'⟩, ws', rs', lds', als'⟩ ∧ Agr n t' tm' ∧ nx.run c' t' h' ws' rs' lds' als' K = some r := by
  unfold dOpK at he
  cases hok : okO n o with
  | false => rw [hok] at he; exact nomatch he
  | true =>
    rw [hok] at he
    simp only [Bool.not_true, cond_false] at he
    have hd := okO_dst hok
    have no : wantedA ops tm o = some false → nx.run c' ((sdK o.dst).run t (.tup [])) h ws rs lds als K = some r →
        ∃ tm' t' h' ws' rs' lds' als', drStep P c ops o i bi ⟨⟨tm, h⟩, ws, rs, lds, als⟩ = some ⟨⟨tm', h'⟩, ws', rs', lds', als'⟩ ∧ Agr n t' tm' ∧ nx.run c' t' h' ws' rs' lds' als' K = some r := fun hw ha =>
      ⟨_, _, _, _, _, _, _, by unfold drStep; simp only [hw], ag.put hn o.dst _ hd, ha⟩
    split at he
    · rename_i hg
      exact dActK_run P hn ag ops o hok i bi hc (by unfold wantedA; rw [hg]) he
    · split at he
      · exact nomatch he
      · rename_i d want hgk
        have gs := guardK_spec hgk ag
        cases want with
        | true =>
          simp only [cond_true, DK.run_mk] at he
          rcases avWant_inv he with ⟨h1, h2⟩ | ⟨h1, h2⟩ | ⟨h1, h2⟩
          · exact dActK_run P hn ag ops o hok i bi hc (gs.1 _ h1) h2
          · exact no (gs.1 _ h1) h2
          · exact no (gs.2 h1) h2
        | false =>
          simp only [cond_false, DK.run_mk] at he
          rcases avWant_inv he with ⟨h1, h2⟩ | ⟨h1, h2⟩ | ⟨h1, h2⟩
          · exact no (gs.1 _ h1) h2
          · exact dActK_run P hn ag ops o hok i bi hc (gs.1 _ h1) h2
          · exact no (gs.2 h1) h2
def doneK (nx : WK) : DK := .mk fun c t h _ _ _ _ K => nx.run c t h K
def dsK (n : Nat) (ops : List Oper) (nx : WK) (rest : List Oper) : List Nat → Nat → DK :=
  List.rec (motive := fun _ => List Nat → Nat → DK) (fun _ _ => doneK nx)
    (fun o _ ih bs i => List.rec (motive := fun _ => DK) (.mk fun _ _ _ _ _ _ _ _ => none) (fun b bs' _ => dOpK P n ops o i b (ih bs' (Nat.succ i))) bs) rest
theorem dsK_run {n : Nat} (hn : n ≤ 256) (ops : List Oper) {c' c : Call} (hc : Refines c' c) {K : KT} {r : AV × Hp} {nx : WK} : ∀ (rest : List Oper) (bs : List Nat) (i : Nat) {t : TT2} {tm : Tm} {h : Hp} {ws : Ws} {rs : List Nat} {lds : Lds} {als : Als},
    Agr n t tm → (dsK P n ops nx rest bs i).run c' t h ws rs lds als K = some r →
    ∃ tm' t' h' ws' rs' lds' als', drOps P c ops rest bs i ⟨⟨tm, h⟩, ws, rs, lds, als⟩ = some ⟨⟨tm', h'⟩, ws', rs', lds', als'⟩ ∧ Agr n t' tm' ∧ nx.run c' t' h' K = some r := by
  intro rest
  induction rest with
  | nil => intro bs i t tm h ws rs lds als ag he; exact ⟨tm, t, h, ws, rs, lds, als, by simp [drOps], ag, he⟩
  | cons o rest ih =>
    intro bs i t tm h ws rs lds als ag he
    cases bs with
    | nil => exact nomatch he
    | cons b bs =>
      have h2 : (dOpK P n ops o i b (dsK P n ops nx rest bs (i + 1))).run c' t h ws rs lds als K = some r := he
      obtain ⟨tm1, t1, h1, ws1, rs1, lds1, als1, k1, k2, k3⟩ := dOpK_run P hn ag ops o i b hc h2
      obtain ⟨tm2, t2, h3, ws2, rs2, lds2, als2, k4, k5, k6⟩ := ih bs (i + 1) k2 k3
      exact ⟨tm2, t2, h3, ws2, rs2, lds2, als2, by simp only [drOps, k1, k4], k5, k6⟩
/-- What is asked of a region that draws its order; `bs`: the places that stand ahead of each. -/
def okReg (ops : Array Oper) (bs : List Nat) : Bool := eqL (Region.before ops).toList bs && (drOk ops.toList bs (Oper.looksAt ops) && drBack ops.toList)
theorem eqL_to : ∀ {a b : List Nat}, eqL a b = true → a = b := by
  intro a
  induction a with
  | nil => intro b h; cases b with | nil => rfl | cons _ _ => exact nomatch h
  | cons x a ih =>
    intro b h
    cases b with
    | nil => exact nomatch h
    | cons y b =>
      simp only [eqL] at h
      cases hb : Nat.beq x y with
      | false => rw [hb] at h; exact nomatch h
      | true =>
        rw [hb] at h
        have : x = y := by simpa using hb
        rw [this, ih h]
abbrev Tb := Nat → Option (List Nat)
def regK (n : Nat) (tb : Tb) (id : Nat) (ops : Array Oper) (draw : Bool) (nx : WK) : WK :=
  bif draw then
    match tb id with
    | some bs => .mk fun c t h K => (dsK P n ops.toList nx ops.toList bs 0).run c t h [] [] [] [] K
    | none => nowK
  else oxK P n ops.toList ops.toList nx
def okDraw (tb : Tb) (id : Nat) (ops : Array Oper) (draw : Bool) : Bool :=
  bif draw then
    match tb id with
    | some bs => okReg ops bs
    | none => true
  else true
theorem regK_run {n : Nat} (hn : n ≤ 256) {c' c : Call} (hc : Refines c' c) (tb : Tb) (id : Nat) (ops : Array Oper) (draw : Bool) (hok : okDraw tb id ops draw = true) {K : KT} {r : AV × Hp} {nx : WK} {t : TT2} {tm : Tm} {h : Hp} (ag : Agr n t tm)
    (he : (regK P n tb id ops draw nx).run c' t h K = some r) : ∃ tm' t' h', evRegion P c ops draw ⟨tm, h⟩ = some ⟨tm', h'⟩ ∧ Agr n t' tm' ∧ nx.run c' t' h' K = some r := by
  unfold regK at he
  unfold okDraw at hok
  unfold evRegion
  cases draw with
  | false => exact oxK_run P hn _ hc _ ag he
  | true =>
    simp only [cond_true] at he hok ⊢
    split at he
    · rename_i bs hb
      rw [hb] at hok
      simp only [okReg, Bool.and_eq_true] at hok
      obtain ⟨h1, h2, h3⟩ := hok
      have h1 := eqL_to h1
      obtain ⟨tm', t', h', ws', rs', lds', als', k1, k2, k3⟩ := dsK_run P hn _ hc _ _ _ ag he
      rw [h1, h2, h3]
      refine ⟨tm', t', h', ?_, k2, k3⟩
      simp only [Bool.and_self, Bool.not_true, cond_false, k1]
    · exact nomatch he
end
end Go.PE
