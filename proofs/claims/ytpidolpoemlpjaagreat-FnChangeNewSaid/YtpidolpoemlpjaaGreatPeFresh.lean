/-
  Part of the proof: an evaluator of the model's code, proved sound, and its run (PeFresh).
-/
import Derived.Test.YtpidolpoemlpjaaGreatPeK2
set_option linter.unusedVariables false
set_option linter.unusedSimpArgs false
set_option linter.unnecessarySimpa false
set_option linter.unusedSectionVars false
namespace Go.PE
noncomputable section
/-! Calls of functions that take flat values and give new memory: worked out at an empty heap, what is reached is laid behind the heap's blocks. -/
def shF (n : Nat) : AV → AV
  | .bool b => .bool b
  | .int k m => .int k m
  | .flt b => .flt b
  | .str l => .str l
  | .nilp => .nilp
  | .ptr id off => .ptr (Nat.add n id) off
  | .nils => .nils
  | .sl id off len cap sz => .sl (Nat.add n id) off len cap sz
  | .nilm => .nilm
  | .nilf => .nilf
  | .tok i => .tok i
  | .cls m r => .cls m r
  | _ => .dead
def shL (n : Nat) (l : List AV) : List AV := List.rec (motive := fun _ => List AV) [] (fun a _ ih => shF n a :: ih) l
theorem shL_eq (n : Nat) (l : List AV) : shL n l = l.map (shF n) := by
  induction l with
  | nil => rfl
  | cons a l ih => show shF n a :: shL n l = _; rw [ih]; rfl
def shA (n : Nat) : AV → AV
  | .agg cs => .agg (shL n cs)
  | v => shF n v
def shAL (n : Nat) (l : List AV) : List AV := List.rec (motive := fun _ => List AV) [] (fun a _ ih => shA n a :: ih) l
theorem shAL_eq (n : Nat) (l : List AV) : shAL n l = l.map (shA n) := by
  induction l with
  | nil => rfl
  | cons a l ih => show shA n a :: shAL n l = _; rw [ih]; rfl
def shT (n : Nat) : AV → AV
  | .tup vs => .tup (shAL n vs)
  | v => shA n v
section
variable {τ : Nat → Value} {ι2 ι' : Emb} {n : Nat}
theorem shF_rel (hs : ∀ id l, ι2 id = some l → ι' (n + id) = some l) {v : Value} {a : AV} (h : RelV τ ι2 v a) : RelV τ ι' v (shF n a) := by
  cases h with
  | bool b => exact .bool b
  | int k m => exact .int k m
  | flt b => exact .flt b
  | str s => exact .str s
  | nilp => exact .nilp
  | ptr id off l h => exact .ptr _ off l (hs _ _ h)
  | nils => exact .nils
  | sl id off len cap sz c o' l h1 h2 h3 h4 h5 => exact .sl _ off len cap sz c o' l (hs _ _ h1) h2 h3 h4 h5
  | nilm => exact .nilm
  | nilf => exact .nilf
  | tok i => exact .tok i
  | cls m r k h => exact .cls m r k h
  | _ => exact .dead _
theorem relL_map {f : AV → AV} {vs : List Value} {as : List AV} (hf : ∀ v a, RelV τ ι2 v a → RelV τ ι' v (f a)) (h : RelL τ ι2 vs as) : RelL τ ι' vs (as.map f) := by
  refine ⟨by simpa using h.1, fun i v a h1 h2 => ?_⟩
  rw [List.getElem?_map, Option.map_eq_some_iff] at h2
  obtain ⟨b, h3, rfl⟩ := h2
  exact hf v b (h.2 i v b h1 h3)
theorem shA_rel (hs : ∀ id l, ι2 id = some l → ι' (n + id) = some l) {v : Value} {a : AV} (h : RelV τ ι2 v a) : RelV τ ι' v (shA n a) := by
  by_cases e : ∃ cs, a = .agg cs
  · obtain ⟨cs, rfl⟩ := e
    obtain ⟨xs, rfl, hl⟩ := h.agg_inv
    show RelV τ ι' _ (.agg (shL n cs))
    rw [shL_eq]
    exact RelL.agg (relL_map (fun v a => shF_rel hs) hl)
  · have : shA n a = shF n a := by cases a <;> first | rfl | exact absurd ⟨_, rfl⟩ e
    rw [this]; exact shF_rel hs h
theorem shT_rel (hs : ∀ id l, ι2 id = some l → ι' (n + id) = some l) {v : Value} {a : AV} (h : RelV τ ι2 v a) : RelV τ ι' v (shT n a) := by
  by_cases e : ∃ cs, a = .tup cs
  · obtain ⟨cs, rfl⟩ := e
    obtain ⟨xs, rfl, hl⟩ := h.tup_inv
    show RelV τ ι' _ (.tup (shAL n cs))
    rw [shAL_eq]
    exact RelL.tup (relL_map (fun v a => shA_rel hs) hl)
  · have : shT n a = shA n a := by cases a <;> first | rfl | exact absurd ⟨_, rfl⟩ e
    rw [this]; exact shA_rel hs h
end
/-- What a value leads to: a block, more values, nothing. -/
def seeV (v : AV) (f : Nat → R) (g : List AV → R) (no : R) : R :=
  match v with
  | .ptr id _ => f id
  | .sl id _ _ _ _ => f id
  | .agg cs => g cs
  | .tup cs => g cs
  | _ => no
def copyT (n : Nat) (h2 : Hp) (fuel : Nat) : List AV → Tr → (Tr → R) → R :=
  Nat.rec (motive := fun _ => List AV → Tr → (Tr → R) → R) (fun _ _ _ => none)
    (fun _ ih wl t k => List.rec (motive := fun _ => R) (k t) (fun v rest _ =>
      seeV v (fun id => forceN (Nat.add n id) fun m => Option.rec (motive := fun _ => R)
          (getJ h2 id fun cs => andR (Nat.blt m maxIds) (ih (toJ.appL cs rest) (t.laid m (some (.cells (shL n cs)))) k)) (fun _ => ih rest t k) (Tr.getJ t (Nat.succ m)))
        (fun cs => ih (toJ.appL cs rest) t k) (ih rest t k)) wl) fuel
/-- What is copied: below `n` all stays; from `n` on stand blocks of `h2`. -/
def Copied (n : Nat) (t0 : Tr) (h2 : Hp) (t : Tr) : Prop :=
  (∀ id, id < n → t.get id = t0.get id) ∧ ∀ id, t.get (n + id) = none ∨ ∃ cs, h2.get id = some (.cells cs) ∧ t.get (n + id) = some (.cells (cs.map (shF n)))
theorem copyT_inv {n : Nat} {t0 : Tr} {h2 : Hp} : ∀ (fuel : Nat) {wl : List AV} {t : Tr} {k : Tr → R} {r : AV × Hp}, Copied n t0 h2 t → copyT n h2 fuel wl t k = some r → ∃ t', Copied n t0 h2 t' ∧ k t' = some r := by
  intro fuel
  induction fuel with
  | zero => intro wl t k r _ h; exact nomatch h
  | succ fuel ih =>
    intro wl t k r hc h
    cases wl with
    | nil => exact ⟨t, hc, h⟩
    | cons v rest =>
      have h1 : seeV v (fun id => forceN (Nat.add n id) fun m => Option.rec (motive := fun _ => R)
          (getJ h2 id fun cs => andR (Nat.blt m maxIds) (copyT n h2 fuel (toJ.appL cs rest) (t.laid m (some (.cells (shL n cs)))) k)) (fun _ => copyT n h2 fuel rest t k) (Tr.getJ t (Nat.succ m)))
        (fun cs => copyT n h2 fuel (toJ.appL cs rest) t k) (copyT n h2 fuel rest t k) = some r := h
      have blk : ∀ id, (forceN (Nat.add n id) fun m => Option.rec (motive := fun _ => R)
          (getJ h2 id fun cs => andR (Nat.blt m maxIds) (copyT n h2 fuel (toJ.appL cs rest) (t.laid m (some (.cells (shL n cs)))) k)) (fun _ => copyT n h2 fuel rest t k) (Tr.getJ t (Nat.succ m))) = some r →
          ∃ t', Copied n t0 h2 t' ∧ k t' = some r := by
        intro id h3
        rw [forceN_eq] at h3
        cases hg : Tr.getJ t (Nat.succ (Nat.add n id)) with
        | some b => rw [hg] at h3; exact ih hc h3
        | none =>
          rw [hg] at h3
          have h3' : getJ h2 id (fun cs => andR (Nat.blt (Nat.add n id) maxIds) (copyT n h2 fuel (toJ.appL cs rest) (t.laid (Nat.add n id) (some (.cells (shL n cs)))) k)) = some r := h3
          obtain ⟨cs, h4, h5⟩ := getJ_inv h3'
          obtain ⟨h6, h7⟩ := andR_inv h5
          have hlt : n + id < maxIds := by
            have h6' : Nat.blt (n + id) maxIds = true := h6
            simpa [Nat.blt_eq] using h6'
          have hget : ∀ m, (t.laid (n + id) (some (.cells (shL n cs)))).get m = if m = n + id then some (.cells (shL n cs)) else t.get m := by
            intro m
            rw [Tr.laid_eq _ _ _ hlt]
            exact Tr.get_set depthBits t (n + id) _ m (by unfold maxIds at hlt; unfold depthBits; omega)
          refine ih ⟨fun i hi => ?_, fun i => ?_⟩ h7
          · show (t.laid (n + id) (some (.cells (shL n cs)))).get i = _
            rw [hget, if_neg (by omega)]; exact hc.1 i hi
          · show (t.laid (n + id) (some (.cells (shL n cs)))).get (n + i) = none ∨ ∃ cs', h2.get i = some (.cells cs') ∧ (t.laid (n + id) (some (.cells (shL n cs)))).get (n + i) = some (.cells (cs'.map (shF n)))
            rw [hget]
            by_cases e : i = id
            · subst e
              rw [if_pos rfl]
              exact .inr ⟨cs, Hp.cells_get h4, by rw [shL_eq]⟩
            · rw [if_neg (by omega)]; exact hc.2 i
      cases v with
      | ptr id off => exact blk id h1
      | sl id off len cap sz => exact blk id h1
      | agg cs => exact ih hc h1
      | tup cs => exact ih hc h1
      | _ => exact ih hc h1
def freshR (r : AV) (h2 : Hp) (h : Hp) : R :=
  Hp.rec (motive := fun _ => R) (fun t nx lw => forceN nx fun n => forceN h2.next fun m => forceN (Nat.add n m) fun s =>
    andR (Nat.ble s maxIds) (copyT n h2 1000000 [r] t fun t' => some (shT n r, ⟨t', s, lw⟩))) h
theorem freshR_inv {r : AV} {h2 h h' : Hp} {x : AV} (w : h.Wf) (e : freshR r h2 h = some (x, h')) :
    x = shT h.next r ∧ h'.next = h.next + h2.next ∧ h.next + h2.next ≤ maxIds ∧ h'.lw = h.lw ∧ Copied h.next h.t h2 h'.t := by
  obtain ⟨t, nx, lw⟩ := h
  unfold freshR at e
  have e2 : (forceN nx fun n => forceN h2.next fun m => forceN (Nat.add n m) fun s =>
    andR (Nat.ble s maxIds) (copyT n h2 1000000 [r] t fun t' => some (shT n r, ⟨t', s, lw⟩))) = some (x, h') := e
  rw [forceN_eq, forceN_eq, forceN_eq] at e2
  obtain ⟨h3, h4⟩ := andR_inv e2
  have hw : Copied nx t h2 t := ⟨fun _ _ => rfl, fun id => .inl (w.2 (nx + id) (Nat.le_add_right _ _))⟩
  obtain ⟨t', h5, h6⟩ := copyT_inv _ hw h4
  simp only [Option.some.injEq, Prod.mk.injEq] at h6
  obtain ⟨rfl, rfl⟩ := h6
  exact ⟨rfl, rfl, by simpa using h3, rfl, h5⟩
/-- Functions of `tab` at plain arguments: by `pc`, at an empty heap; the new memory laid behind. -/
def freshW (tab : FuncId → Bool) (pc : Call) (call : Call) : Call := fun f args h =>
  bi (tab f) (forceA args (fun as => Option.rec (motive := fun _ => R) (call f args h) (fun p => Prod.rec (motive := fun _ => R) (fun r h2 => freshR r h2 h) p) (pc f as hp0)) (call f args h)) (call f args h)
theorem freshW_cases {tab : FuncId → Bool} {pc call : Call} {f : FuncId} {args : List AV} {h h' : Hp} {x : AV} (he : freshW tab pc call f args h = some (x, h')) :
    call f args h = some (x, h') ∨ (args.all AV.plain = true ∧ ∃ r h2, pc f args hp0 = some (r, h2) ∧ freshR r h2 h = some (x, h')) := by
  unfold freshW at he
  rw [bi_eq] at he
  cases ht : tab f with
  | false => rw [ht] at he; exact .inl he
  | true =>
    rw [ht] at he
    simp only [cond_true] at he
    rw [forceA_eq] at he
    by_cases ha : args.all AV.plain = true
    · rw [if_pos ha] at he
      cases hp : pc f args hp0 with
      | none => rw [hp] at he; exact .inl he
      | some p => obtain ⟨r, h2⟩ := p; rw [hp] at he; exact .inr ⟨ha, r, h2, rfl, he⟩
    · rw [if_neg ha] at he; exact .inl he
section
variable {P : Program} {τ : Nat → Value}
theorem fresh_sound {Z : Zed} {tab : FuncId → Bool} {pc call : Call} (hp : CallSound P τ Z pc) (hps : CallStp pc) (hc : CallSound P τ Z call) (hcs : CallStp call) :
    CallSound P τ Z (freshW tab pc call) ∧ CallStp (freshW tab pc call) := by
  have wf0 : hp0.Wf := ⟨Nat.zero_le _, fun id _ => rfl⟩
  refine ⟨fun f args h r h' he hw => ?_, fun f args h r h' he hw => ?_⟩
  · rcases freshW_cases he with he | ⟨ha, r2, h2, he, hf⟩
    · exact hc f args h r h' he hw
    · obtain ⟨g1, g2⟩ := hp f args hp0 r2 h2 he wf0
      have s2 := (hps f args hp0 r2 h2 he wf0).wf
      obtain ⟨rfl, hn, hmx, hlw, hcp⟩ := freshR_inv hw hf
      refine ⟨g1, fun B ι w cargs hB hargs hrel hto => ?_⟩
      have hrel0 : Rel τ ⟨w, fun _ _ => False, maxIds⟩ (fun _ => none) hp0 w :=
        ⟨Kept.refl _ _ _, fun id l h => by simp at h, ⟨Nat.zero_le _, Nat.le_refl _⟩, fun id l cs h => by simp at h, fun id l es h => by simp at h, fun id id' l l' _ h => by simp at h, fun id l h => by simp at h⟩
      have hB0 : BOk Z ⟨w, fun _ _ => False, maxIds⟩ := by
        intro k x v hz
        obtain ⟨h1, h3, h4⟩ := hB k x v hz
        exact ⟨Nat.lt_of_lt_of_le h1 hrel.kept.size, fun h => h, (hrel.kept.cell k x h1 h3).trans h4⟩
      refine (g2 ⟨w, fun _ _ => False, maxIds⟩ (fun _ => none) w cargs hB0 (hargs.plain ha) hrel0 s2.1).mono ?_
      rintro e w' ⟨v, ι2, rfl, k1, k2, k3⟩
      have q := hrel.kept_on k2.kept
      -- the new blocks' places
      have d2 : ∀ id l, ι2 id = some l → id < h2.next := by
        intro id l hid
        rcases k3.2.2 id l hid with h5 | h5
        · simp at h5
        · exact h5.2
      let ι' : Emb := fun id => if h.next ≤ id ∧ id < h.next + h2.next then ι2 (id - h.next) else ι id
      have hsm := hrel.small
      rw [hn] at hto
      have old : ∀ id l, ι id = some l → ι' id = some l := by
        intro id l hid
        have := hrel.dom id l hid
        show (if h.next ≤ id ∧ id < h.next + h2.next then ι2 (id - h.next) else ι id) = some l
        rw [if_neg (by omega)]; exact hid
      have new : ∀ id l, ι2 id = some l → ι' (h.next + id) = some l := by
        intro id l hid
        have := d2 id l hid
        show (if h.next ≤ h.next + id ∧ h.next + id < h.next + h2.next then ι2 (h.next + id - h.next) else ι (h.next + id)) = some l
        rw [if_pos (by omega), Nat.add_sub_cancel_left]; exact hid
      have inv : ∀ id l, ι' id = some l → (ι id = some l ∧ ¬ (h.next ≤ id ∧ id < h.next + h2.next)) ∨ ∃ j, id = h.next + j ∧ j < h2.next ∧ ι2 j = some l := by
        intro id l hid
        have h5 : (if h.next ≤ id ∧ id < h.next + h2.next then ι2 (id - h.next) else ι id) = some l := hid
        split at h5
        · rename_i h6; exact .inr ⟨id - h.next, by omega, by omega, h5⟩
        · rename_i h6; exact .inl ⟨h5, h6⟩
      have hold : ∀ id, id < h.next → h'.get id = h.get id := fun id hid => hcp.1 id hid
      -- an old number outside has no block here nor there
      have hout : ∀ id l, ι id = some l → ¬ (h.next ≤ id ∧ id < h.next + h2.next) → h'.get id = h.get id := by
        intro id l hid hn2
        rcases Nat.lt_or_ge id h.next with h5 | h5
        · exact hold id h5
        · have h6 : h.get id = none := hw.2 id h5
          have h7 : h'.get id = none := by
            rcases hcp.2 (id - h.next) with h8 | ⟨cs, h8, h9⟩
            · rw [show h.next + (id - h.next) = id by omega] at h8; exact h8
            · have := s2.live h8
              omega
          rw [h6, h7]
      have hnew : ∀ j b, h'.get (h.next + j) = some b → ∃ cs, h2.get j = some (.cells cs) ∧ b = .cells (cs.map (shF h.next)) := by
        intro j b hb
        rcases hcp.2 j with h8 | ⟨cs, h8, h9⟩
        · have h8' : h'.get (h.next + j) = none := h8
          rw [h8'] at hb; exact nomatch hb
        · have h9' : h'.get (h.next + j) = some (.cells (cs.map (shF h.next))) := h9
          rw [h9'] at hb
          simp only [Option.some.injEq] at hb
          exact ⟨cs, h8, hb.symm⟩
      have ownNew : ∀ j l b, ι2 j = some l → h'.get (h.next + j) = some b → w.heap.size ≤ l.b ∨ l.ext = 0 := by
        intro j l b hj hb
        obtain ⟨cs, h8, _⟩ := hnew j b hb
        rcases Nat.eq_zero_or_pos l.ext with h5 | h5
        · exact .inr h5
        · rcases k2.own j l hj (by rw [h8]; rfl) l.o (Nat.le_refl _) (by omega) with h6 | h6
          · exact .inl h6
          · exact h6.elim
      refine ⟨_, ι', rfl, shT_rel new k1, ⟨q.kept, ?_, ?_, ?_, ?_, ?_, ?_⟩, ⟨old, by rw [hn]; omega, ?_⟩⟩
      · intro id l hid
        rw [hn]
        rcases inv id l hid with ⟨h5, h6⟩ | ⟨j, rfl, h5, h6⟩
        · have := hrel.dom id l h5
          omega
        · omega
      · rw [hn]; exact ⟨hto, hsm.2⟩
      · intro id l cs hid hcs'
        rcases inv id l hid with ⟨h5, h6⟩ | ⟨j, rfl, h5, h6⟩
        · rw [hout id l h5 h6] at hcs'
          obtain ⟨a1, a2, a3, a4⟩ := q.cells id l cs h5 hcs'
          exact ⟨a1, a2, a3, fun x a ha => by obtain ⟨u, u1, u2, u3⟩ := a4 x a ha; exact ⟨u, u1, u2.mono old, u3⟩⟩
        · obtain ⟨cs2, h8, h9⟩ := hnew j _ hcs'
          simp only [Blk.cells.injEq] at h9
          subst h9
          obtain ⟨a1, a2, a3, a4⟩ := k2.cells j l cs2 h6 h8
          refine ⟨a1, by simpa using a2, a3, fun x a ha => ?_⟩
          rw [List.getElem?_map, Option.map_eq_some_iff] at ha
          obtain ⟨b, hb, rfl⟩ := ha
          obtain ⟨u, u1, u2, u3⟩ := a4 x b hb
          exact ⟨u, u1, shF_rel new u2, u3⟩
      · intro id l es hid hcs'
        rcases inv id l hid with ⟨h5, h6⟩ | ⟨j, rfl, h5, h6⟩
        · rw [hout id l h5 h6] at hcs'
          obtain ⟨a1, a2, ents, c, a3, a4, a5⟩ := q.map id l es h5 hcs'
          exact ⟨a1, a2, ents, c, a3, a4, fun i en a x1 x2 => ⟨(a5 i en a x1 x2).1.mono old, (a5 i en a x1 x2).2.mono old⟩⟩
        · obtain ⟨cs2, h8, h9⟩ := hnew j _ hcs'
          exact nomatch h9
      · have mixed : ∀ j l b i l2, ι2 j = some l → h'.get (h.next + j) = some b → ι i = some l2 → (h.get i).isSome = true → Apart l l2 := by
          intro j l b i l2 hj hb hi hi2 eb x x1 x2 x3 x4
          have h5 := hrel.toG.live_block hi hi2
          rcases ownNew j l b hj hb with h6 | h6
          · omega
          · omega
        intro a b la lb hne ha hb hla hlb
        rcases inv a la ha with ⟨a1, a2⟩ | ⟨j, rfl, a1, a2⟩
        · rw [hout a la a1 a2] at hla
          rcases inv b lb hb with ⟨b1, b2⟩ | ⟨i, rfl, b1, b2⟩
          · rw [hout b lb b1 b2] at hlb
            exact q.apart a b la lb hne a1 b1 hla hlb
          · obtain ⟨x, hx⟩ := Option.isSome_iff_exists.1 hlb
            exact fun eb y y1 y2 y3 y4 => mixed i lb x a la b2 hx a1 hla eb.symm y y3 y4 y1 y2
        · obtain ⟨x, hx⟩ := Option.isSome_iff_exists.1 hla
          rcases inv b lb hb with ⟨b1, b2⟩ | ⟨i, rfl, b1, b2⟩
          · rw [hout b lb b1 b2] at hlb
            exact mixed j la x b lb a2 hx b1 hlb
          · obtain ⟨y, hy⟩ := Option.isSome_iff_exists.1 hlb
            obtain ⟨c1, e1, _⟩ := hnew j x hx
            obtain ⟨c2, e2, _⟩ := hnew i y hy
            exact k2.apart j i la lb (by omega) a2 b2 (by rw [e1]; rfl) (by rw [e2]; rfl)
      · intro id l hid hl x x1 x2
        rcases inv id l hid with ⟨h5, h6⟩ | ⟨j, rfl, h5, h6⟩
        · rw [hout id l h5 h6] at hl
          exact q.own id l h5 hl x x1 x2
        · obtain ⟨b, hb⟩ := Option.isSome_iff_exists.1 hl
          have hsz := hrel.kept.size
          rcases ownNew j l b h6 hb with h7 | h7
          · left; omega
          · omega
      · intro id l hid
        rcases inv id l hid with ⟨h5, h6⟩ | ⟨j, rfl, h5, h6⟩
        · exact .inl h5
        · rw [hn]; exact .inr ⟨by omega, by omega⟩
  · rcases freshW_cases he with he | ⟨ha, r2, h2, he, hf⟩
    · exact hcs f args h r h' he hw
    · have s2 := (hps f args hp0 r2 h2 he wf0).wf
      obtain ⟨rfl, hn, hmx, hlw, hcp⟩ := freshR_inv hw hf
      refine ⟨by omega, ⟨by omega, fun id hid => ?_⟩, by omega, fun id _ hid => hcp.1 id hid⟩
      rcases hcp.2 (id - h.next) with h8 | ⟨cs, h8, h9⟩
      · rw [show h.next + (id - h.next) = id by omega] at h8; exact h8
      · have := s2.live h8
        omega
end
end
end Go.PE
