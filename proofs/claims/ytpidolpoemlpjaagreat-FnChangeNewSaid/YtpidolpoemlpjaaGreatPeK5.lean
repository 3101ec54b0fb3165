/-
  Part of the proof: an evaluator of the model's code, proved sound, and its run (PeK5).
-/
import Derived.Test.YtpidolpoemlpjaaGreatPeK4
set_option linter.unusedVariables false
set_option linter.unusedSimpArgs false
set_option linter.unnecessarySimpa false
set_option linter.unusedSectionVars false
namespace Go.PE
noncomputable section
def exR (e : Ex) (kn : R) (kx : Nat → R) (kr : R) : R := Ex.rec (motive := fun _ => R) kn kx kr e
variable (P : Program)
def endNorm : WK := .mk fun _ t h K => K .norm t h
def loopK (body : WK) (nx : WK) (n : Nat) (c : Call) (K : KT) : TT2 → Hp → R :=
  Nat.rec (motive := fun _ => TT2 → Hp → R) (fun _ _ => none) (fun _ ih t h => body.run c t h fun e t' h' => exR e (ih t' h') (fun id => K (.exit id) t' h') (K .ret t' h')) n
theorem loopK_succ (body : WK) (nx : WK) (n : Nat) (c : Call) (K : KT) (t : TT2) (h : Hp) : loopK body nx (n + 1) c K t h =
    body.run c t h fun e t' h' => exR e (loopK body nx n c K t' h') (fun id => K (.exit id) t' h') (K .ret t' h') := rfl
def loopKF (body : WK) (nx : WK) (c : Call) (K : KT) (t : TT2) (h : Hp) : R := loopK body nx loopFuel c K t h
theorem loopKF_eq (body : WK) (nx : WK) (c : Call) (K : KT) (t : TT2) (h : Hp) : loopKF body nx c K t h = loopK body nx loopFuel c K t h := by unfold loopKF; exact Eq.refl _
def cxK (n : Nat) (tb : Tb) (code : Code) : WK → WK :=
  Code.rec (motive := fun _ => WK → WK)
    (fun nx => nx)
    (fun id ops draw nx => regK P n tb id ops draw nx)
    (fun _ _ ia ib nx => ia (ib nx))
    (fun x _ _ ia ib nx => bif okX n x then .mk fun c t h K => avBool ((gxK x).run t) ((ia nx).run c t h K) ((ib nx).run c t h K) else nowK)
    (fun id _ ia nx => .mk fun c t h K => (ia endNorm).run c t h fun e t' h' => exR e (nx.run c t' h' K) (fun id' => orR (Nat.beq id' id) (nx.run c t' h' K) (K (.exit id') t' h')) (K .ret t' h'))
    (fun _ ia nx => .mk fun c t h K => loopKF (ia endNorm) nx c K t h)
    (fun _ _ _ _ _ _ _ => nowK)
    (fun id _ => .mk fun _ t h K => K (.exit id) t h)
    (fun _ _ _ => nowK)
    (fun _ nx => nx)
    (fun _ _ => nowK)
    (fun _ => .mk fun _ t h K => K .ret t h)
    (fun _ _ => nowK) code
/-- What is asked of all the regions of a code. -/
def okCode (tb : Tb) (code : Code) : Bool :=
  Code.rec (motive := fun _ => Bool) true (fun id ops draw => okDraw tb id ops draw) (fun _ _ a b => a && b) (fun _ _ _ a b => a && b) (fun _ _ a => a) (fun _ a => a)
    (fun _ _ _ _ _ _ => true) (fun _ => true) (fun _ _ => true) (fun _ => true) (fun _ => true) true (fun _ => true) code
theorem cxK_loop (n : Nat) (tb : Tb) (a : Code) (nx : WK) : cxK P n tb (.loop a) nx = .mk fun c t h K => loopKF (cxK P n tb a endNorm) nx c K t h := rfl
def After (c' : Call) (nx : WK) (K : KT) (e : Ex) (t : TT2) (h : Hp) (r : AV × Hp) : Prop :=
  match e with
  | .norm => nx.run c' t h K = some r
  | e => K e t h = some r
theorem cxK_run {n : Nat} (hn : n ≤ 256) (tb : Tb) {c' c : Call} (hc : Refines c' c) {r : AV × Hp} (code : Code) : okCode tb code = true → ∀ {K : KT} {nx : WK} {t : TT2} {tm : Tm} {h : Hp}, Agr n t tm → (cxK P n tb code nx).run c' t h K = some r →
    ∃ e tm' t' h', evCode P c code ⟨tm, h⟩ = some (e, ⟨tm', h'⟩) ∧ Agr n t' tm' ∧ After c' nx K e t' h' r := by
  induction code with
  | skip => intro hok K nx t tm h ag he; exact ⟨.norm, tm, t, h, rfl, ag, he⟩
  | region id ops draw =>
    intro hok K nx t tm h ag he
    obtain ⟨tm', t', h', k1, k2, k3⟩ := regK_run P hn hc tb id ops draw hok ag he
    exact ⟨.norm, tm', t', h', by rw [evCode_region, k1], k2, k3⟩
  | seq a b iha ihb =>
    intro hok K nx t tm h ag he
    have hok2 : (okCode tb a && okCode tb b) = true := hok
    simp only [Bool.and_eq_true] at hok2
    have h2 : (cxK P n tb a (cxK P n tb b nx)).run c' t h K = some r := he
    obtain ⟨e, tm1, t1, h1, k1, k2, k3⟩ := iha hok2.1 ag h2
    rw [evCode_seq, k1]
    cases e with
    | norm => exact ihb hok2.2 k2 k3
    | exit i => exact ⟨_, tm1, t1, h1, rfl, k2, k3⟩
    | ret => exact ⟨_, tm1, t1, h1, rfl, k2, k3⟩
  | cond x a b iha ihb =>
    intro hok K nx t tm h ag he
    have hok2 : (okCode tb a && okCode tb b) = true := hok
    simp only [Bool.and_eq_true] at hok2
    rw [evCode_cond]
    have h2 : WK.run (bif okX n x then .mk fun c t h K => avBool ((gxK x).run t) ((cxK P n tb a nx).run c t h K) ((cxK P n tb b nx).run c t h K) else nowK) c' t h K = some r := he
    cases hx : okX n x with
    | false => rw [hx] at h2; exact nomatch h2
    | true =>
      rw [hx] at h2
      simp only [cond_true, WK.run_mk] at h2
      rw [gxK_run ag x hx] at h2
      obtain ⟨b', k1, k2⟩ := avBool_inv h2
      show ∃ e tm' t' h', (match evX tm x with
      | .bool true => evCode P c a ⟨tm, h⟩
      | .bool false => evCode P c b ⟨tm, h⟩
      | _ => none) = some (e, ⟨tm', h'⟩) ∧ _ ∧ _
      rw [k1]
      cases b' with
      | true => exact iha hok2.1 ag k2
      | false => exact ihb hok2.2 ag k2
  | block id a iha =>
    intro hok K nx t tm h ag he
    rw [evCode_block]
    have h2 : (cxK P n tb a endNorm).run c' t h (fun e t' h' => exR e (nx.run c' t' h' K) (fun id' => orR (Nat.beq id' id) (nx.run c' t' h' K) (K (.exit id') t' h')) (K .ret t' h')) = some r := he
    obtain ⟨e, tm1, t1, h1, k1, k2, k3⟩ := iha hok ag h2
    rw [k1]
    cases e with
    | norm => exact ⟨.norm, tm1, t1, h1, rfl, k2, k3⟩
    | exit i =>
      have k4 : orR (Nat.beq i id) (nx.run c' t1 h1 K) (K (.exit i) t1 h1) = some r := k3
      rcases orR_cases k4 with ⟨q1, q2⟩ | ⟨q1, q2⟩
      · exact ⟨.norm, tm1, t1, h1, by simp only [q1, cond_true], k2, q2⟩
      · exact ⟨.exit i, tm1, t1, h1, by simp only [q1, cond_false], k2, q2⟩
    | ret => exact ⟨.ret, tm1, t1, h1, rfl, k2, k3⟩
  | loop a iha =>
    intro hok K nx t tm h ag he
    rw [evCode_loop]
    rw [cxK_loop, WK.run_mk, loopKF_eq] at he
    generalize loopFuel = k at he ⊢
    induction k generalizing t tm h with
    | zero => exact nomatch he
    | succ k ih =>
      rw [loopK_succ] at he
      rw [evLoop_succ]
      obtain ⟨e, tm1, t1, h1, k1, k2, k3⟩ := iha hok ag he
      rw [k1]
      cases e with
      | norm => exact ih k2 k3
      | exit i => exact ⟨_, tm1, t1, h1, rfl, k2, k3⟩
      | ret => exact ⟨_, tm1, t1, h1, rfl, k2, k3⟩
  | exit id => intro hok K nx t tm h ag he; exact ⟨_, tm, t, h, rfl, ag, he⟩
  | label l => intro hok K nx t tm h ag he; exact ⟨.norm, tm, t, h, rfl, ag, he⟩
  | ret => intro hok K nx t tm h ag he; exact ⟨_, tm, t, h, rfl, ag, he⟩
  | _ => intro hok K nx t tm h ag he; exact nomatch he

/-! Functions -/
def layK (as : List AV) : Nat → TT2 → TT2 :=
  List.rec (motive := fun _ => Nat → TT2 → TT2) (fun _ t => t) (fun a _ ih i t => ih (Nat.succ i) ((sk i).run t a)) as
theorem layK_agr (n : Nat) (hn : n ≤ 256) : ∀ (as : List AV) (pre : List AV) (t : TT2), Agr n t (pre ++ repT (n - pre.length)) → pre.length + as.length ≤ n →
    Agr n (layK as pre.length t) ((pre ++ as) ++ repT (n - (pre ++ as).length)) := by
  intro as
  induction as with
  | nil => intro pre t ag _; simpa [layK] using ag
  | cons a as ih =>
    intro pre t ag hl
    simp only [List.length_cons] at hl
    have h1 := ag.put hn (some pre.length) a (by simp [Nat.blt_eq]; omega)
    have h2 : putD (pre ++ repT (n - pre.length)) (some pre.length) a = (pre ++ [a]) ++ repT (n - (pre ++ [a]).length) := by
      have hr : repT (n - pre.length) = .tup [] :: repT (n - (pre ++ [a]).length) := by
        have : n - pre.length = (n - (pre ++ [a]).length) + 1 := by simp; omega
        rw [this]; rfl
      rw [hr]
      unfold putD
      generalize repT (n - (pre ++ [a]).length) = r
      clear hl h1 hr ag ih
      simp only []
      induction pre with
      | nil => rfl
      | cons x xs ih2 =>
        simp only [List.cons_append, List.length_cons, Tm.put_cons]
        have : Nat.beq (xs.length + 1) 0 = false := rfl
        rw [this]
        simp only [cond_false, Nat.add_sub_cancel]
        rw [ih2]
    rw [h2] at h1
    have h3 := ih (pre ++ [a]) _ h1 (by simp; omega)
    simp only [List.append_assoc, List.singleton_append] at h3
    have h4 : layK (a :: as) pre.length t = layK as (pre ++ [a]).length ((sdK (some pre.length)).run t a) := by
      simp only [List.length_append, List.length_singleton]; rfl
    rw [h4]; simpa using h3
theorem t0_agr (n : Nat) (hn : n ≤ 256) : Agr n t0 (repT n) := by
  have hl : ∀ n, (repT n).length = n := by intro n; induction n with | zero => rfl | succ n ih => simp [repT, ih]
  refine ⟨hl n, fun k hk => ?_⟩
  have h2 : ∀ n k, k < n → Tm.at (repT n) k = .tup [] := by
    intro n
    induction n with
    | zero => intro k h; omega
    | succ n ih =>
      intro k h
      simp only [repT, Tm.at_cons]
      cases hk : Nat.beq k 0 with
      | true => rfl
      | false =>
        have : k ≠ 0 := by intro e; subst e; simp at hk
        simp only [cond_false]; exact ih _ (by omega)
  rw [h2 n k hk]
  exact gk_t0 (by omega)
inductive RvK where | mk (f : TT2 → Hp → (AV → R) → R)
def RvK.run (g : RvK) (t : TT2) (h : Hp) (k : AV → R) : R := RvK.rec (motive := fun _ => R) (fun f => f t h k) g
def rvK (n : Nat) : ResultVar → RvK
  | .tmp j => bif Nat.blt j n then .mk fun t _ k => k ((gk j).run t) else .mk fun _ _ _ => none
  | .cell a ty => bif Nat.blt a n then .mk fun t h k => (loK P ty).run ((gk a).run t) h k else .mk fun _ _ _ => none
theorem rvK_run {n : Nat} {t : TT2} {tm : Tm} (ag : Agr n t tm) (rv : ResultVar) {h : Hp} {k : AV → R} {r : AV × Hp} (he : (rvK P n rv).run t h k = some r) : ∃ v, resA P ⟨tm, h⟩ rv = some v ∧ k v = some r := by
  cases rv with
  | tmp j =>
    simp only [rvK] at he
    cases hk : Nat.blt j n with
    | false => rw [hk] at he; exact nomatch he
    | true =>
      rw [hk] at he
      have h2 : k ((gk j).run t) = some r := he
      rw [ag.2 j (by simpa [Nat.blt_eq] using hk)] at h2
      exact ⟨_, rfl, h2⟩
  | cell a ty =>
    simp only [rvK] at he
    cases hk : Nat.blt a n with
    | false => rw [hk] at he; exact nomatch he
    | true =>
      rw [hk] at he
      have h2 : (loK P ty).run ((gk a).run t) h k = some r := he
      rw [ag.2 a (by simpa [Nat.blt_eq] using hk)] at h2
      exact loK_run P h2
inductive RsK where | mk (f : TT2 → Hp → (List AV → R) → R)
def RsK.run (g : RsK) (t : TT2) (h : Hp) (k : List AV → R) : R := RsK.rec (motive := fun _ => R) (fun f => f t h k) g
def rsK (n : Nat) (rs : List ResultVar) : RsK :=
  List.rec (motive := fun _ => RsK) (.mk fun _ _ k => k []) (fun r _ ih => .mk fun t h k => (rvK P n r).run t h fun v => ih.run t h fun vs => k (v :: vs)) rs
theorem rsK_run {n : Nat} {t : TT2} {tm : Tm} (ag : Agr n t tm) {h : Hp} {r : AV × Hp} : ∀ (rs : List ResultVar) {k : List AV → R}, (rsK P n rs).run t h k = some r → ∃ vs, ressA P ⟨tm, h⟩ rs = some vs ∧ k vs = some r := by
  intro rs
  induction rs with
  | nil => intro k he; exact ⟨[], rfl, he⟩
  | cons x rs ih =>
    intro k he
    have h2 : (rvK P n x).run t h (fun v => (rsK P n rs).run t h fun vs => k (v :: vs)) = some r := he
    obtain ⟨v, k1, k2⟩ := rvK_run P ag x h2
    obtain ⟨vs, k3, k4⟩ := ih k2
    exact ⟨v :: vs, by simp only [ressA, k1, k3], k4⟩
def resK (n : Nat) (rs : List ResultVar) : RvK :=
  match rs with
  | [r] => rvK P n r
  | rs => .mk fun t h k => (rsK P n rs).run t h fun vs => k (.tup vs)
theorem resK_run {n : Nat} {t : TT2} {tm : Tm} (ag : Agr n t tm) {h : Hp} {rs : List ResultVar} {r : AV × Hp} (he : (resK P n rs).run t h (fun v => some (v, h)) = some r) : (match ressA P ⟨tm, h⟩ rs with
        | some [v] => some (v, h)
        | some vs => some (AV.tup vs, h)
        | none => none) = some r := by
  unfold resK at he
  split at he
  · rename_i x
    obtain ⟨v, k1, k2⟩ := rvK_run P ag x he
    simp [ressA, k1]; simpa using k2
  · rename_i hne
    have h2 : (rsK P n rs).run t h (fun vs => some (.tup vs, h)) = some r := he
    obtain ⟨vs, k1, k2⟩ := rsK_run P ag rs h2
    rw [k1]
    have hl : ∀ (rs : List ResultVar) (vs : List AV), ressA P ⟨tm, h⟩ rs = some vs → vs.length = rs.length := by
      intro rs
      induction rs with
      | nil => intro vs h; simp [ressA] at h; subst h; rfl
      | cons r rs ih =>
        intro vs h
        simp only [ressA] at h
        split at h
        · rename_i a b hb; simp at h; subst h; simp [ih _ hb]
        · simp at h
    have h3 := hl rs vs k1
    split
    · rename_i w hw
      simp only [Option.some.injEq] at hw; subst hw
      simp at h3
      obtain ⟨x, rfl⟩ := List.length_eq_one_iff.1 h3.symm
      exact absurd rfl (hne x)
    · rename_i hw; simp only [Option.some.injEq] at hw; subst hw; exact k2
    · rename_i hw; simp at hw
inductive WFK where | mk (f : Call → List AV → Hp → R)
def WFK.run (g : WFK) (c : Call) (args : List AV) (h : Hp) : R := WFK.rec (motive := fun _ => R) (fun f => f c args h) g
theorem WFK.run_mk (f : Call → List AV → Hp → R) (c : Call) (args : List AV) (h : Hp) : (WFK.mk f).run c args h = f c args h := rfl
def endK (rt : RvK) : KT := fun e t h => exR e (rt.run t h fun v => some (v, h)) (fun _ => none) (rt.run t h fun v => some (v, h))
/-- The tables of all functions; what is asked of them. -/
abbrev TbL := List (Nat × List Nat)
def TbL.at (l : TbL) : Tb := fun id => List.rec (motive := fun _ => Option (List Nat)) none (fun p _ ih => Bool.rec (motive := fun _ => Option (List Nat)) ih (some p.2) (Nat.beq p.1 id)) l
def okFn (tb : TbL) (fn : Func) : Bool :=
  match fn.body with
  | some c => !(fn.name == "runtime.NumGoroutine") && (Nat.ble fn.ntmps 256 && okCode tb.at c)
  | none => false
def TabOk (D : BT (Option TbL)) : Prop := ∀ f fn tb, P.funcs[f]? = some fn → D.get (f + 1) = some (some tb) → okFn tb fn = true
variable (D : BT (Option TbL))
def fxK (f : FuncId) : WFK :=
  match fnJ P f with
  | none => .mk fun _ _ _ => none
  | some fn =>
    match fn.body with
    | none => .mk fun _ _ _ => none
    | some c =>
      match D.get (Nat.succ f) with
      | some (some tb) => .mk fun call args h => andR (Nat.ble (lenJ args 0) fn.ntmps) ((cxK P fn.ntmps tb.at c endNorm).run call (layK args 0 t0) h (endK (resK P fn.ntmps fn.results.toList)))
      | _ => .mk fun _ _ _ => none
theorem fxK_run (hD : TabOk P D) {c' c : Call} (hc : Refines c' c) (f : FuncId) : ∀ args h r, (fxK P D f).run c' args h = some r → evFn P c f args h = some r := by
  intro args h r he
  unfold fxK at he
  rw [fnJ_eq] at he
  unfold evFn
  cases hf : P.funcs[f]? with
  | none => rw [hf] at he; exact nomatch he
  | some fn =>
    rw [hf] at he
    simp only [] at he ⊢
    cases hb : fn.body with
    | none => rw [hb] at he; exact nomatch he
    | some code =>
      rw [hb] at he
      simp only [] at he ⊢
      cases hd : D.get (Nat.succ f) with
      | none => rw [hd] at he; exact nomatch he
      | some o =>
        cases o with
        | none => rw [hd] at he; exact nomatch he
        | some tb =>
          rw [hd] at he
          have hok := hD f fn tb hf hd
          unfold okFn at hok
          rw [hb] at hok
          simp only [Bool.and_eq_true] at hok
          obtain ⟨h1, h2, h4⟩ := hok
          have h1 : (fn.name == "runtime.NumGoroutine") = false := by simpa using h1
          rw [h1]
          simp only [WFK.run_mk] at he
          obtain ⟨h3, he⟩ := andR_inv he
          rw [lenJ_eq, Nat.zero_add] at h3
          have hn : fn.ntmps ≤ 256 := by simpa using h2
          have hl : args.length ≤ fn.ntmps := by simpa using h3
          have ag := layK_agr fn.ntmps hn args [] t0 (by simpa using t0_agr fn.ntmps hn) (by simpa using hl)
          simp only [List.nil_append, List.length_nil] at ag
          simp only [cond_false]
          obtain ⟨e, tm', t', h', k1, k2, k3⟩ := cxK_run P hn tb.at hc code h4 ag he
          rw [k1]
          cases e with
          | norm => exact resK_run P k2 k3
          | exit i => exact nomatch k3
          | ret => exact resK_run P k2 k3
def evK (W : Call → Call) : Nat → Call
  | 0 => fun _ _ _ => none
  | n + 1 => W fun f args h => (fxK P D f).run (evK W n) args h
variable {P} {D} {τ : Nat → Value}
theorem evK_ok (hD : TabOk P D) {Z : Zed} (hτ : ∀ i, (τ i).oneCell' = true) (hbits : BitsOk P) (hm : P.follows .mixedOrders = true) (W : Call → Call)
    (hW : ∀ call, CallSound P τ Z call → CallStp call → CallSound P τ Z (W call) ∧ CallStp (W call)) :
    ∀ n, CallSound P τ Z (evK P D W n) ∧ CallStp (evK P D W n) := by
  intro n
  induction n with
  | zero => exact ⟨fun f args h r h' he => by simp [evK] at he, fun f args h r h' he => by simp [evK] at he⟩
  | succ n ih =>
    exact hW _ (fun f args h r h' he hw => fn_sound hτ ih.1 hbits ih.2 hm (fxK_run P D hD (Refines.refl _) f args h _ he) hw)
      (fun f args h r h' he hw => fn_stp ih.2 f args h r h' (fxK_run P D hD (Refines.refl _) f args h _ he) hw)
end
end Go.PE
