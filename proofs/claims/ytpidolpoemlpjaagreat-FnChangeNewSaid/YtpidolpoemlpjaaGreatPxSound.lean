/-
  Part of the proof: an evaluator of the model's code, proved sound, and its run (PxSound).
-/
import Derived.Test.YtpidolpoemlpjaaGreatPxTab
import Derived.Test.YtpidolpoemlpjaaGreatPxWalk
import Derived.Laws.Externs
set_option linter.unusedVariables false
set_option linter.unusedSimpArgs false
set_option linter.unnecessarySimpa false
set_option linter.unusedSectionVars false
namespace Go.PE
noncomputable section
open Go.RowKit (Below)
/-! The contracts of the law's two readers of its argument. -/
noncomputable def isTok : AV → Bool
  | .tok i => Nat.beq i 0
  | _ => false
noncomputable def tok1 : List AV → Bool
  | [a] => isTok a
  | _ => false
noncomputable def tok2 : List AV → Bool
  | [a, .int .i64 n] => isTok a && eqI n (.ofNat 0)
  | _ => false
noncomputable def Wc (b : Bool) (r : Nat) (call : Call) : Call := fun f args h =>
  bi (Nat.beq f 4) (bi (tok1 args) (some (.bool b, h)) (call f args h)) (bi (Nat.beq f 7) (bi (tok2 args) (some (.cls 3 r, h)) (call f args h)) (call f args h))
theorem isTok_eq {a : AV} (h : isTok a = true) : a = .tok 0 := by
  cases a <;> first | (simp [isTok] at h; done) | (simp [isTok] at h; rw [h])
theorem tok1_eq {args : List AV} (h : tok1 args = true) : args = [.tok 0] := by
  unfold tok1 at h
  split at h
  · rw [isTok_eq h]
  · exact nomatch h
theorem eqI_to {a b : Int} (h : eqI a b = true) : a = b := by
  cases a <;> cases b <;> first | (simp [eqI] at h; done) | (simp [eqI] at h; rw [h])
theorem tok2_eq {args : List AV} (h : tok2 args = true) : args = [.tok 0, .int .i64 (.ofNat 0)] := by
  unfold tok2 at h
  split at h
  · simp only [Bool.and_eq_true] at h
    rw [isTok_eq h.1, eqI_to h.2]
  · exact nomatch h
theorem Wc_cases {b : Bool} {r : Nat} {call : Call} {f : FuncId} {args : List AV} {h h' : Hp} {x : AV} (e : Wc b r call f args h = some (x, h')) :
    call f args h = some (x, h') ∨ (f = 4 ∧ args = [.tok 0] ∧ x = .bool b ∧ h' = h) ∨ (f = 7 ∧ args = [.tok 0, .int .i64 (.ofNat 0)] ∧ x = .cls 3 r ∧ h' = h) := by
  unfold Wc at e
  simp only [bi_eq] at e
  cases h1 : Nat.beq f 4 with
  | true =>
    rw [h1] at e
    simp only [cond_true] at e
    cases h2 : tok1 args with
    | true => rw [h2] at e; simp only [cond_true, Option.some.injEq, Prod.mk.injEq] at e; exact .inr (.inl ⟨by simpa using h1, tok1_eq h2, e.1.symm, e.2.symm⟩)
    | false => rw [h2] at e; exact .inl e
  | false =>
    rw [h1] at e
    simp only [cond_false] at e
    cases h3 : Nat.beq f 7 with
    | true =>
      rw [h3] at e
      simp only [cond_true] at e
      cases h2 : tok2 args with
      | true => rw [h2] at e; simp only [cond_true, Option.some.injEq, Prod.mk.injEq] at e; exact .inr (.inr ⟨by simpa using h3, tok2_eq h2, e.1.symm, e.2.symm⟩)
      | false => rw [h2] at e; exact .inl e
    | false => rw [h3] at e; exact .inl e
abbrev PP : Program := Go.Proofs.Tryz.prog
theorem relTok {τ : Nat → Value} {ι : Emb} {v : Value} (h : RelV τ ι v (.tok 0)) : v = τ 0 := by cases h; rfl
theorem relInt0 {τ : Nat → Value} {ι : Emb} {v : Value} (h : RelV τ ι v (.int .i64 (.ofNat 0))) : v = .int .i64 0 := by cases h; rfl
theorem body4 : ∃ c, Go.Proofs.Tryz.f4.body = some c := ⟨_, rfl⟩
theorem body7 : ∃ c, Go.Proofs.Tryz.f7.body = some c := ⟨_, rfl⟩
theorem name4 : (Go.Proofs.Tryz.f4.name == "runtime.NumGoroutine") = false := by kernel_rfl
theorem name7 : (Go.Proofs.Tryz.f7.name == "runtime.NumGoroutine") = false := by kernel_rfl
theorem Wc_sound {v0 : Value} {Z : Zed} {b : Bool} {r : Nat}
    (hbig : ∀ w, Calls PP 4 #[v0] w fun e w' => e = .returned (.bool b) ∧ w' = w)
    (hat : ∀ w, (∀ k x v, Z k x = some v → w.cell? ⟨k, x, none⟩ = some v) → Calls PP 7 #[v0, .int .i64 0] w fun e w' => (∃ n : Nat, n % 3 = r ∧ e = .returned (.int .i64 (Int.ofNat n))) ∧ w' = w)
    {call : Call} (hc : CallSound PP (fun _ => v0) Z call) (hs : CallStp call) : CallSound PP (fun _ => v0) Z (Wc b r call) ∧ CallStp (Wc b r call) := by
  refine ⟨fun f args h x h' he hw => ?_, fun f args h x h' he hw => ?_⟩
  · rcases Wc_cases he with he | ⟨rfl, rfl, rfl, rfl⟩ | ⟨rfl, rfl, rfl, rfl⟩
    · exact hc f args h x h' he hw
    · obtain ⟨c, hb⟩ := body4
      refine ⟨⟨_, c, Go.Proofs.Tryz.func4, hb, name4⟩, fun B ι w cargs hB hargs hrel hto => ?_⟩
      obtain ⟨v, vs, e1, hv, hr⟩ := hargs.cons_inv'
      obtain rfl := hr.nil_inv
      obtain rfl : cargs = #[v] := by cases cargs; simp_all
      obtain rfl := relTok hv
      refine (hbig w).mono ?_
      rintro e w' ⟨rfl, rfl⟩
      exact ⟨_, ι, rfl, .bool b, hrel, Ext.refl ι _⟩
    · obtain ⟨c, hb⟩ := body7
      refine ⟨⟨_, c, Go.Proofs.Tryz.func7, hb, name7⟩, fun B ι w cargs hB hargs hrel hto => ?_⟩
      obtain ⟨v, vs, e1, hv, hr⟩ := hargs.cons_inv'
      obtain ⟨u, us, e2, hu, hr2⟩ := hr.cons_inv'
      obtain rfl := hr2.nil_inv
      subst e2
      obtain rfl : cargs = #[v, u] := by cases cargs; simp_all
      obtain rfl := relTok hv
      obtain rfl := relInt0 hu
      refine (hat w fun k x v hz => ?_).mono ?_
      · obtain ⟨h1, h3, h4⟩ := hB k x v hz
        exact (hrel.kept.cell k x h1 h3).trans h4
      · rintro e w' ⟨⟨n, hn, rfl⟩, rfl⟩
        exact ⟨_, ι, rfl, .cls 3 r n hn, hrel, Ext.refl ι _⟩
  · rcases Wc_cases he with he | ⟨rfl, rfl, rfl, rfl⟩ | ⟨rfl, rfl, rfl, rfl⟩
    · exact hs f args h x h' he hw
    · exact Stp.refl hw
    · exact Stp.refl hw
noncomputable def bitsAt (f : Nat) : Bool := Bool.rec (motive := fun _ => Bool) (notJ (isBitsJ PP f)) true (Nat.beq f 295)
theorem bits_all : upto bitsAt 385 0 = true := by kernel_rfl
theorem funcs_size : PP.funcs.size = 385 := by kernel_rfl
theorem find295 : Extern.find Go.Proofs.Tryz.f295 = some Extern.MathFloatBits.float64bits := by kernel_rfl
theorem next295 : (Extern.findNext Go.Proofs.Tryz.f295).isNone = true := by kernel_rfl
theorem name295 : (Go.Proofs.Tryz.f295.name == "runtime.NumGoroutine") = false := by kernel_rfl
theorem nobody295 : Go.Proofs.Tryz.f295.body.isNone = true := by kernel_rfl
theorem bitsOk : BitsOk PP := by
  intro f hf b w
  have h385 : f < 385 := by
    rcases Nat.lt_or_ge f 385 with h | h
    · exact h
    · have hn : PP.funcs[f]? = none := Array.getElem?_eq_none (Nat.le_trans (Nat.le_of_eq funcs_size) h)
      rw [← isBitsJ_eq] at hf
      unfold isBitsJ at hf
      rw [fnJ_eq, hn] at hf
      exact nomatch hf
  have h1 := upto_spec bits_all f (Nat.zero_le _) (by omega)
  have h295 : f = 295 := by
    unfold bitsAt at h1
    cases h2 : Nat.beq f 295 with
    | true => simpa using h2
    | false =>
      rw [h2] at h1
      have h3 : notJ (isBitsJ PP f) = true := h1
      rw [notJ_eq, isBitsJ_eq, hf] at h3
      exact nomatch h3
  subst h295
  have hn : Extern.findNext Go.Proofs.Tryz.f295 = none := Option.isNone_iff_eq_none.1 next295
  rw [run_callFunc_extern Go.Proofs.Tryz.func295 name295 nobody295 hn find295]
  have e : Extern.MathFloatBits.float64bits #[.float .f64 b] = pure (.int .u64 b) := rfl
  rw [e]; rfl
/-- Plain functions, worked out at an empty heap. -/
noncomputable def mask1 : Nat := 2 ^ 146 + 2 ^ 147 + 2 ^ 88 + 2 ^ 44 + 2 ^ 87 + 2 ^ 100 + 2 ^ 202 + 2 ^ 210 + 2 ^ 32
noncomputable def mask2 : Nat := mask1 + 2 ^ 98 + 2 ^ 43
noncomputable def mask3 : Nat := 2 ^ 59
noncomputable def isT : Option (AV × Hp) → Bool
  | some (.bool true, _) => true
  | _ => false
noncomputable def runC (b : Bool) (r : Nat) : Bool := isT (evM PP DT mask1 mask2 mask3 (Wc b r) 300 3 [.tok 0] hp0)
theorem run_calls {v0 : Value} (hone : v0.oneCell' = true) {Z : Zed} {b : Bool} {r : Nat} {w : World} (hZ : BOk Z ⟨w, fun _ _ => False, maxIds⟩)
    (hbig : ∀ w, Calls PP 4 #[v0] w fun e w' => e = .returned (.bool b) ∧ w' = w)
    (hat : ∀ w, (∀ k x v, Z k x = some v → w.cell? ⟨k, x, none⟩ = some v) → Calls PP 7 #[v0, .int .i64 0] w fun e w' => (∃ n : Nat, n % 3 = r ∧ e = .returned (.int .i64 (Int.ofNat n))) ∧ w' = w)
    (hrun : runC b r = true) : Calls PP 3 #[v0] w fun e w' => e = .returned (.bool true) ∧ Below w.heap.size w w' := by
  have hm : PP.follows .mixedOrders = true := by kernel_rfl
  obtain ⟨hc, hs⟩ := evM_ok (P := PP) (D := DT) tabOk (τ := fun _ => v0) (Z := Z) (fun _ => hone) bitsOk hm mask1 mask2 mask3 (Wc b r) (fun call a b => Wc_sound hbig hat a b) 300
  unfold runC at hrun
  have wf0 : hp0.Wf := ⟨Nat.zero_le _, fun id _ => rfl⟩
  generalize he : evM PP DT mask1 mask2 mask3 (Wc b r) 300 3 [.tok 0] hp0 = res at hrun
  cases res with
  | none => exact nomatch hrun
  | some p =>
    obtain ⟨x, h'⟩ := p
    have hx : x = .bool true := by
      unfold isT at hrun
      split at hrun
      · rename_i heq; simp only [Option.some.injEq, Prod.mk.injEq] at heq; exact heq.1
      · exact nomatch hrun
    subst hx
    obtain ⟨_, g2⟩ := hc 3 [.tok 0] hp0 _ h' he wf0
    have s2 := (hs 3 [.tok 0] hp0 _ h' he wf0).wf.1
    have hrel0 : Rel (fun _ => v0) ⟨w, fun _ _ => False, maxIds⟩ (fun _ => none) hp0 w :=
      ⟨Kept.refl _ _ _, fun id l h => by simp at h, ⟨Nat.zero_le _, Nat.le_refl _⟩, fun id l cs h => by simp at h, fun id l es h => by simp at h, fun id id' l l' _ h => by simp at h, fun id l h => by simp at h⟩
    refine (g2 ⟨w, fun _ _ => False, maxIds⟩ (fun _ => none) w #[v0] hZ (.cons (.tok 0) .nil) hrel0 s2).mono ?_
    rintro e w' ⟨v, ι', rfl, k1, k2, k3⟩
    have hv : v = .bool true := by cases k1; rfl
    subst hv
    exact ⟨rfl, ⟨k2.kept.os, k2.kept.tape, k2.kept.output, k2.kept.size, fun i hi => k2.kept.blk i hi (fun _ h => h)⟩⟩
end
end Go.PE
