/-
  Part of the proof: an evaluator of the model's code, proved sound, and its run (PeK3).
-/
import Derived.Test.YtpidolpoemlpjaaGreatPeK2
set_option linter.unusedVariables false
set_option linter.unusedSimpArgs false
set_option linter.unnecessarySimpa false
set_option linter.unusedSectionVars false
namespace Go.PE
noncomputable section
inductive KW where | mk (f : Call → TT2 → Hp → (AV → Hp → R) → R)
def KW.run (g : KW) (c : Call) (t : TT2) (h : Hp) (k : AV → Hp → R) : R := KW.rec (motive := fun _ => R) (fun f => f c t h k) g
inductive PLK where | mk (f : TT2 → List (Nat × AV))
def PLK.run (g : PLK) (t : TT2) : List (Nat × AV) := PLK.rec (motive := fun _ => List (Nat × AV)) (fun f => f t) g
def plK (xs : List (Nat × Operand)) : PLK :=
  List.rec (motive := fun _ => PLK) (.mk fun _ => []) (fun x _ ih => .mk fun t => (x.1, (gxK x.2).run t) :: ih.run t) xs
theorem plK_run {n : Nat} {t : TT2} {tm : Tm} (ag : Agr n t tm) (xs : List (Nat × Operand)) (h : ∀ x ∈ xs, okX n x.2 = true) : (plK xs).run t = xs.map fun (i, x) => (i, evX tm x) := by
  induction xs with
  | nil => rfl
  | cons x xs ih =>
    show (x.1, (gxK x.2).run t) :: (plK xs).run t = _
    rw [ih fun y hy => h y (List.mem_cons_of_mem _ hy), gxK_run ag x.2 (h x (List.mem_cons_self ..))]; rfl
inductive OK1 where | mk (f : TT2 → Option AV)
def OK1.run (g : OK1) (t : TT2) : Option AV := OK1.rec (motive := fun _ => Option AV) (fun f => f t) g
def oxJ : Option Operand → OK1
  | none => .mk fun _ => none
  | some x => .mk fun t => some ((gxK x).run t)
theorem oxJ_run {n : Nat} {t : TT2} {tm : Tm} (ag : Agr n t tm) (x : Option Operand) (h : ∀ y, x = some y → okX n y = true) : (oxJ x).run t = x.map (evX tm) := by
  cases x with
  | none => rfl
  | some y => show some ((gxK y).run t) = _; rw [gxK_run ag y (h y rfl)]; rfl
def appJ (l : List AV) : List AV → List AV := List.rec (motive := fun _ => List AV → List AV) (fun m => m) (fun a _ ih m => a :: ih m) l
theorem appJ_eq (l m : List AV) : appJ l m = l ++ m := by
  induction l with
  | nil => rfl
  | cons a l ih => show a :: appJ l m = _; rw [ih]; rfl
variable (P : Program)
def zeroJ (t : TypeId) : Option AV := match infoJ P t with | some i => (match i.zero with | some v => some (ofConst v) | none => none) | none => none
theorem zeroJ_eq (t : TypeId) : zeroJ P t = zeroA P t := by
  unfold zeroJ zeroA
  rw [infoJ_eq]
  cases P.info? t with
  | none => rfl
  | some i =>
    show (match i.zero with | some v => some (ofConst v) | none => none) = (i.zero).map ofConst
    cases i.zero <;> rfl
def isBitsJ (f : FuncId) : Bool :=
  match fnJ P f with
  | some fn => fn.body.isNone && fn.name == "math.Float64bits"
  | none => false
theorem isBitsJ_eq (f : FuncId) : isBitsJ P f = isBits P f := by unfold isBitsJ isBits; rw [fnJ_eq]; cases P.funcs[f]? <;> rfl
def slowOp (n : Nat) (o : Oper) : KW := .mk fun c t h k => oh (evOp P c (toLK n t) o h) k
def kop (n : Nat) (o : Oper) : KW :=
  match o.op with
  | .move x => .mk fun _ t h k => k ((gxK x).run t) h
  | .assign x => .mk fun _ t h k => k ((gxK x).run t) h
  | .pick c a b => .mk fun _ t h k => avBool ((gxK c).run t) (k ((gxK a).run t) h) (k ((gxK b).run t) h)
  | .load ty a => .mk fun _ t h k => (loK P ty).run ((gxK a).run t) h fun v => k v h
  | .store ty a x => .mk fun _ t h k => (stoK P ty).run ((gxK a).run t) ((gxK x).run t) h fun h' => k (.tup []) h'
  | .binOp op ty x y _ => .mk fun _ t h k => (bK P op ty).run ((gxK x).run t) ((gxK y).run t) fun v => k v h
  | .unOp .not _ x => .mk fun _ t h k => avBool ((gxK x).run t) (k (.bool false) h) (k (.bool true) h)
  | .fieldAddr s x f => .mk fun _ t h k => (faK P s f).run ((gxK x).run t) fun v => k v h
  | .indexAddr ty x ix => .mk fun _ t h k => (iaK P ty).run ((gxK x).run t) ((gxK ix).run t) fun v => k v h
  | .index ty x ix => .mk fun _ t h k => (ixK P ty).run ((gxK x).run t) ((gxK ix).run t) fun v => k v h
  | .field ty x f => .mk fun _ t h k => o2 (fieldA P ty ((gxK x).run t) f) fun v => k v h
  | .extract t' i => .mk fun _ t h k => avTup ((gxK t').run t) fun vs => nthA vs i fun v => k v h
  | .nilCheck x => .mk fun _ t h k => avRef ((gxK x).run t) fun v => k v h
  | .convert s d x => .mk fun _ t h k => o2 (convA P s d ((gxK x).run t) h) fun v => k v h
  | .box _ x => .mk fun _ t h k => avCells ((gxK x).run t) fun cs => andR (allOneJ cs) (newJ cs h fun id h' => k (.ptr id 0) h')
  | .build ty ps => .mk fun _ t h k => (buK P ty ps.toList).run t fun v => k v h
  | .buildSlice ty m ps => .mk fun _ t h k => (bsK P ty m ps.toList).run t h k
  | .makeFunc (.func f) first cap => .mk fun _ t h k => k (.fn f ((glK first.toList).run t) ((glK cap.toList).run t)) h
  | .alloc ty => (match zeroJ P ty with
    | some z => bif z.cells.all AV.one then .mk fun _ _ h k => newJ z.cells h fun id h' => k (.ptr id 0) h' else slowOp P n o
    | none => slowOp P n o)
  | .slice ty x lo hi mx => .mk fun _ t h k => (slK P ty).run ((gxK x).run t) ((oxJ lo).run t) ((oxJ hi).run t) ((oxJ mx).run t) fun v => k v h
  | .call { callee := .value (.tmp j), args, .. } => .mk fun c t h k => avFn ((gk j).run t) fun f xs ys => andR (notJ (isBitsJ P f)) (oh (c f (appJ xs (appJ ((glK args.toList).run t) ys)) h) k)
  | .call { callee := .value (.func f), args, .. } => bif isBitsJ P f then slowOp P n o else .mk fun c t h k => oh (c f ((glK args.toList).run t) h) k
  | .call { callee := .builtin .len, args, argTypes } => (match args.toList with
    | [x] => .mk fun _ t h k => (lnK P argTypes).run ((gxK x).run t) fun v => k v h
    | _ => slowOp P n o)
  | .call { callee := .builtin .append, args, argTypes } => (match args.toList with
    | [x, y] => .mk fun _ t h k => (apK P argTypes).run ((gxK x).run t) ((gxK y).run t) h k
    | _ => slowOp P n o)
  | _ => slowOp P n o
theorem slowOp_run {n : Nat} {t : TT2} {tm : Tm} (ag : Agr n t tm) (o : Oper) {c' c : Call} (hc : Refines c' c) {h : Hp} {k : AV → Hp → R} {r : AV × Hp}
    (he : (slowOp P n o).run c' t h k = some r) : ∃ v h', evOp P c tm o h = some (v, h') ∧ k v h' = some r := by
  obtain ⟨v, h', h1, h2⟩ := oh_inv he
  rw [toLK_eq ag] at h1
  exact ⟨v, h', evOp_mono hc h1, h2⟩
theorem kop_run {n : Nat} {t : TT2} {tm : Tm} (ag : Agr n t tm) (o : Oper) (ok : okO n o = true) {c' c : Call} (hc : Refines c' c) {h : Hp} {k : AV → Hp → R} {r : AV × Hp}
    (he : (kop P n o).run c' t h k = some r) : ∃ v h', evOp P c tm o h = some (v, h') ∧ k v h' = some r := by
  obtain ⟨dst, op, type, pos, after, guard⟩ := o
  unfold okO at ok
  simp only [Bool.and_eq_true] at ok
  have ok1 := ok.1
  clear ok
  have g : ∀ x, x ∈ op.operands.toList → (gxK x).run t = evX tm x := fun x hx => gxK_run ag x (List.all_eq_true.1 ok1 x hx)
  have slow := fun (he : (slowOp P n ⟨dst, op, type, pos, after, guard⟩).run c' t h k = some r) => slowOp_run P ag _ hc he
  unfold kop at he
  simp only [] at he
  split at he
  · rename_i x
    have g_x := g x (by simp [Op.operands])
    simp only [KW.run, g_x] at he
    exact ⟨_, _, by simp [evOp], he⟩
  · rename_i x
    have g_x := g x (by simp [Op.operands])
    simp only [KW.run, g_x] at he
    exact ⟨_, _, by simp [evOp], he⟩
  · rename_i x a b
    have g_x := g x (by simp [Op.operands])
    have g_a := g a (by simp [Op.operands])
    have g_b := g b (by simp [Op.operands])
    simp only [KW.run, g_x, g_a, g_b] at he
    obtain ⟨b', h1, h2⟩ := avBool_inv he
    refine ⟨bif b' then evX tm a else evX tm b, h, by simp [evOp, h1], ?_⟩
    cases b' <;> exact h2
  · rename_i ty a
    have g_x := g a (by simp [Op.operands])
    simp only [KW.run, g_x] at he
    obtain ⟨v, h1, h2⟩ := loK_run P he
    exact ⟨v, h, by simp [evOp, h1], h2⟩
  · rename_i ty a x
    have g_x := g a (by simp [Op.operands])
    have g_y := g x (by simp [Op.operands])
    simp only [KW.run, g_x, g_y] at he
    obtain ⟨v, h1, h2⟩ := stoK_run P he
    exact ⟨_, v, by simp [evOp, h1], h2⟩
  · rename_i bop ty x y yt
    have g_x := g x (by simp [Op.operands])
    have g_y := g y (by simp [Op.operands])
    simp only [KW.run, g_x, g_y] at he
    obtain ⟨v, h1, h2⟩ := bK_run P he
    exact ⟨v, h, by simp [evOp, h1], h2⟩
  · rename_i ty x
    have g_x := g x (by simp [Op.operands])
    simp only [KW.run, g_x] at he
    obtain ⟨b', h1, h2⟩ := avBool_inv he
    refine ⟨.bool !b', h, by simp [evOp, unA, h1], ?_⟩
    cases b' <;> exact h2
  · rename_i s x f
    have g_x := g x (by simp [Op.operands])
    simp only [KW.run, g_x] at he
    obtain ⟨v, h1, h2⟩ := faK_run P he
    exact ⟨v, h, by simp [evOp, h1], h2⟩
  · rename_i ty x ix
    have g_x := g x (by simp [Op.operands])
    have g_y := g ix (by simp [Op.operands])
    simp only [KW.run, g_x, g_y] at he
    obtain ⟨v, h1, h2⟩ := iaK_run P he
    exact ⟨v, h, by simp [evOp, h1], h2⟩
  · rename_i ty x ix
    have g_x := g x (by simp [Op.operands])
    have g_y := g ix (by simp [Op.operands])
    simp only [KW.run, g_x, g_y] at he
    obtain ⟨v, h1, h2⟩ := ixK_run P he
    exact ⟨v, h, by simp [evOp, h1], h2⟩
  · rename_i ty x f
    have g_x := g x (by simp [Op.operands])
    simp only [KW.run, g_x] at he
    obtain ⟨v, h1, h2⟩ := o2_inv he
    exact ⟨v, h, by simp [evOp, h1], h2⟩
  · rename_i x i
    have g_x := g x (by simp [Op.operands])
    simp only [KW.run, g_x] at he
    obtain ⟨vs, h1, h2⟩ := avTup_inv he
    obtain ⟨v, h3, h4⟩ := nthA_inv h2
    exact ⟨v, h, by simp [evOp, h1, h3], h4⟩
  · rename_i x
    have g_x := g x (by simp [Op.operands])
    simp only [KW.run, g_x] at he
    obtain ⟨h1, h2⟩ := avRef_inv he
    refine ⟨evX tm x, h, ?_, h2⟩
    rcases h1 with ⟨i, o, h1⟩ | ⟨f, xs, ys, h1⟩ <;> simp [evOp, h1]
  · rename_i s d x
    have g_x := g x (by simp [Op.operands])
    simp only [KW.run, g_x] at he
    obtain ⟨v, h1, h2⟩ := o2_inv he
    exact ⟨v, h, by simp [evOp, h1], h2⟩
  · rename_i ty x
    have g_x := g x (by simp [Op.operands])
    simp only [KW.run, g_x] at he
    have h1 := avCells_inv he
    obtain ⟨h2, h3⟩ := andR_inv h1
    rw [allOneJ_eq] at h2
    obtain ⟨id, h', h4, h5⟩ := newJ_inv h3
    exact ⟨_, h', by simp [evOp, h2, h4], h5⟩
  · rename_i ty ps
    have hx : ∀ x ∈ ps.toList, okX n x.2 = true := fun x hx => List.all_eq_true.1 ok1 x.2 (by simp [Op.operands]; exact ⟨x.1, by simpa using hx⟩)
    obtain ⟨v, h1, h2⟩ := buK_run P ag hx he
    exact ⟨v, h, by simp only [evOp, h1, Option.map_some], h2⟩
  · rename_i ty m ps
    have hx : ∀ x ∈ ps.toList, okX n x.2 = true := fun x hx => List.all_eq_true.1 ok1 x.2 (by simp [Op.operands]; exact ⟨x.1, by simpa using hx⟩)
    obtain ⟨v, h', h1, h2⟩ := bsK_run P ag hx he
    exact ⟨v, h', by simp only [evOp, h1], h2⟩
  · rename_i f first cap
    have g1 := glK_run ag first.toList (List.all_eq_true.2 fun x hx => List.all_eq_true.1 ok1 x (by simp [Op.operands]; exact .inl (by simpa using hx)))
    have g2 := glK_run ag cap.toList (List.all_eq_true.2 fun x hx => List.all_eq_true.1 ok1 x (by simp [Op.operands]; exact .inr (by simpa using hx)))
    simp only [KW.run, g1, g2] at he
    exact ⟨_, _, by simp only [evOp], he⟩
  · rename_i ty
    split at he
    · rename_i z hz
      rw [zeroJ_eq] at hz
      cases hb : z.cells.all AV.one with
      | false => rw [hb] at he; exact slow he
      | true =>
        rw [hb] at he
        obtain ⟨id, h', h4, h5⟩ := newJ_inv he
        exact ⟨_, h', by simp [evOp, hz, hb, h4], h5⟩
    · exact slow he
  · rename_i ty x lo hi mx
    have g_x := g x (by simp [Op.operands])
    have g_l := oxJ_run ag lo fun y hy => List.all_eq_true.1 ok1 y (by simp [Op.operands, hy])
    have g_h := oxJ_run ag hi fun y hy => List.all_eq_true.1 ok1 y (by simp [Op.operands, hy])
    have g_m := oxJ_run ag mx fun y hy => List.all_eq_true.1 ok1 y (by simp [Op.operands, hy])
    simp only [KW.run, g_x, g_l, g_h, g_m] at he
    obtain ⟨v, h1, h2⟩ := slK_run P he
    exact ⟨v, h, by simp [evOp, h1], h2⟩
  · rename_i j args ats
    have g_j : (gk j).run t = evX tm (.tmp j) := g (.tmp j) (by simp [Op.operands, Call.operands])
    have ga := glK_run ag args.toList (List.all_eq_true.2 fun x hx => List.all_eq_true.1 ok1 x (by simp [Op.operands, Call.operands] at hx ⊢; exact .inr hx))
    simp only [KW.run, g_j, ga, appJ_eq] at he
    obtain ⟨f, xs, ys, h1, h2⟩ := avFn_inv he
    obtain ⟨h3, h4⟩ := andR_inv h2
    rw [notJ_eq, isBitsJ_eq] at h3
    obtain ⟨v, h', h5, h6⟩ := oh_inv h4
    refine ⟨v, h', ?_, h6⟩
    have hb : isBits P f = false := by simpa using h3
    simp only [evOp, h1, hb, cond_false, List.append_assoc]
    exact hc _ _ _ _ h5
  · rename_i f args ats
    rw [isBitsJ_eq] at he
    cases hb : isBits P f with
    | true => rw [hb] at he; exact slow he
    | false =>
      rw [hb] at he
      have := glK_run ag args.toList (List.all_eq_true.2 fun x hx => List.all_eq_true.1 ok1 x (by simp [Op.operands, Call.operands] at hx ⊢; exact .inr hx))
      simp only [cond_false, KW.run, this] at he
      obtain ⟨v, h', h1, h2⟩ := oh_inv he
      refine ⟨v, h', ?_, h2⟩
      simp only [evOp, evX, hb, cond_false, List.nil_append, List.append_nil]
      exact hc _ _ _ _ h1
  · rename_i args ats
    split at he
    · rename_i x hx
      have hmem : x ∈ (Op.call { callee := .builtin .len, args := args, argTypes := ats }).operands.toList := by
        simp only [Op.operands, Call.operands]
        have : x ∈ args.toList := by rw [hx]; simp
        simpa using this
      have g_x := g x hmem
      simp only [KW.run, g_x] at he
      obtain ⟨v, h1, h2⟩ := lnK_run P he
      exact ⟨v, h, by simp only [evOp, hx, List.map_cons, List.map_nil, h1, Option.map_some], h2⟩
    · exact slow he
  · rename_i args ats
    split at he
    · rename_i x y hx
      have hmem : ∀ z ∈ args.toList, z ∈ (Op.call { callee := .builtin .append, args := args, argTypes := ats }).operands.toList := by
        intro z hz
        simp only [Op.operands, Call.operands]
        simpa using hz
      have g_x := g x (hmem x (by rw [hx]; simp))
      have g_y := g y (hmem y (by rw [hx]; simp))
      simp only [KW.run, g_x, g_y] at he
      obtain ⟨v, h', h1, h2⟩ := apK_run P he
      exact ⟨v, h', by simp only [evOp, hx, List.map_cons, List.map_nil, h1], h2⟩
    · exact slow he
  · exact slow he
end
end Go.PE
