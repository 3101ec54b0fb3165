/-
  Proved: whatever slice of bytes comes in, laws.FnChangeNew returns true, and the slice reads afterwards as before. Conditions: none.
  How: the law depends on its argument by two readers alone (big, at); with their contracts it is run by an evaluator that is proved sound (the Pe texts), inside the kernel, at the four kinds of argument.
-/
import Derived.Test.YtpidolpoemlpjaaGreatRows
import Derived.ProofKit
import Derived.OpenShut
import Derived.Test.YtpidolpoemlpjaaGreatPxRunB
import Derived.Test.YtpidolpoemlpjaaGreatPxRun0
import Derived.Test.YtpidolpoemlpjaaGreatPxRun1
import Derived.Test.YtpidolpoemlpjaaGreatPxRun2
import Derived.Test.YtpidolpoemlpjaaGreatPxClosed2
set_option linter.unusedVariables false
set_option linter.unusedSimpArgs false
set_option linter.unnecessarySimpa false
set_option linter.unusedSectionVars false
namespace Go.Proofs.YtpidolpoemlpjaaGreat
open Go.ChangeShapes Go.WideShapes Go.ChangeAt Go.RowKit Go.PE
theorem Tryz.own : ownKnob Tryz.prog.godebug = none := by kernel_rfl
theorem Tryz.laidOut : laidOutB Tryz.prog = true := by kernel_rfl
theorem Tryz.cells5 : Tryz.prog.cellsOf 5 = 1 := by kernel_rfl
theorem run_b (b : Bool) (r : Nat) (h : r < 3) : runC b r = true := by
  obtain rfl | rfl | rfl : r = 0 ∨ r = 1 ∨ r = 2 := by omega
  · cases b with
    | true => exact runB0
    | false => exact run0
  · cases b with
    | true => exact runB1
    | false => exact run1
  · cases b with
    | true => exact runB2
    | false => exact run2
theorem fnamed : Tryz.prog.funcNamed Rows.fnChangeNewRow.func = some 3 := by kernel_rfl
theorem inst3 : Tryz.f3.isInstance Tryz.prog Rows.fnChangeNewRow.origin Rows.fnChangeNewRow.targs := of_decide_eq_true (by kernel_rfl)
theorem wrap3 : Tryz.f3.isWrapper Tryz.prog Rows.fnChangeNewRow.wrapper Rows.fnChangeNewRow.mainSum := by
  unfold Func.isWrapper
  first | (rw [if_pos (by decide +kernel)]; kernel_rfl) | (rw [if_neg (by decide +kernel)]; exact ⟨rfl, rfl⟩)
section
variable {P : Program}
theorem post_of_below {H : Type} {enc : TypeId × Value → H} {f : Func} {s : ChangeSpec} {apart fresh handsOn again : Bool} {W W' : World} {args : Array Value} {v : Value} {ds gs : List (DataW H)} {before pa pv : List MemPlace}
    (hW : DataW.Whole enc P f.params.toList s.vars apart W args.toList ds gs before)
    (hres : ∀ (b : Nat) (sp : Nat → Bool) (hd : Bool), DataW.TrodAll enc P W' b sp hd f.resultTypes.toList (v.resultList f.resultTypes.size) (s.fn H (ds ++ gs)).results [])
    (hargs : ∀ sp : Nat → Bool, (∀ p ∈ before, sp p.block = true) → DataW.TrodAll enc P W' 0 sp true f.params.toList args.toList (s.fn H (ds ++ gs)).args pa)
    (hvars : ∀ sp : Nat → Bool, (∀ p ∈ before, sp p.block = true) → DataW.TrodVars enc P W' sp s.vars (s.fn H (ds ++ gs)).vars pv)
    (hps : before = pa ++ pv) (hb : Below W.heap.size W W')
    (hok : ∀ (j : Nat) (t : TypeId) (r : Value), f.resultTypes[j]? = some t → (v.resultList f.resultTypes.size)[j]? = some r → Value.okWide P W' .any 0 t r) :
    s.post enc P f apart fresh handsOn again W args v W' := by
  have hlt : ∀ p ∈ before, p.block < W.heap.size := fun p hp => hW.lt p hp
  have hold : ∀ p ∈ before, (fun b => decide (b < W.heap.size)) p.block = true := fun p hp => by simpa using hlt p hp
  refine ⟨ds, gs, before, [], pa, pv, hW, hres _ _ _, hargs _ hold, hvars _ hold, World.keptBut_mono (fun p hp => ⟨hp, ?_⟩) (hb.frame (· ∈ before)), fun _ => ?_⟩
  · rw [hps, List.mem_append] at hp
    exact Or.inr hp
  · obtain ⟨_, _, _, _, _, hz, hn⟩ := hW
    refine ⟨hok, _, _, ([] ++ pa) ++ pv, ⟨[] ++ pa, pv, trodAll_append (hargs _ (fun _ _ => rfl)) (hres _ _ _), hvars _ (fun _ _ => rfl), rfl, ?_, ?_⟩, ?_⟩
    · intro b off hp
      have hin : MemPlace.cell b off ∈ before := by rw [hps]; simpa using hp
      rw [hb.frozen (hlt _ hin)]
      exact hz b off hin
    · intro ha
      have := hn ha
      rw [hps] at this
      simpa using this
    · intro p hp _
      rw [hps]
      simpa using hp
end
set_option maxRecDepth 100000 in
/-- The law's call, whatever slice of bytes comes in. -/
theorem law_calls (H : Type) (enc : TypeId × Value → H) (W : World) (base : Nat) (v0 : Value) (d0 : DataW H) (p0 : List MemPlace) (hval : Value.okWide Tryz.prog W .any base 22 v0)
    (h0 : DataW.Trod enc Tryz.prog W 0 (fun _ => true) true 22 v0 d0 p0) (hlt : ∀ p ∈ p0, p.block < W.heap.size) :
    Calls Tryz.prog 3 #[v0] W fun e W' => e = .returned (.bool true) ∧ Below W.heap.size W W' := by
  obtain ⟨a1, len, cap, rfl⟩ := okWide_slice Tryz.underlying22 hval
  obtain ⟨fuel, hf⟩ := h0
  have none_case : ∀ (a1 : Option Addr) (cap : Nat), Calls Tryz.prog 3 #[.slice a1 0 cap] W fun e W' => e = .returned (.bool true) ∧ Below W.heap.size W W' := fun a1 cap =>
    run_calls (v0 := .slice a1 0 cap) rfl (Z := fun _ _ => none) (b := decide (1048576 < 0)) (r := 0) (w := W) (fun k x v h => nomatch h) (fun w => big_any a1 0 cap w (by omega))
      (fun w _ => (at_no a1 cap w).mono fun e w' ⟨h1, h2⟩ => ⟨⟨0, rfl, h1⟩, h2⟩) (run_b _ 0 (by omega))
  rcases open_ints Tryz.underlying22 Tryz.underlying5 Tryz.cells5 hf with ⟨hcs, hx⟩ | ⟨a, len', cap', zs, hcs, _, hl, hm, hz, hx, hcell, hwz⟩
  · simp [Value.cells] at hcs
    obtain ⟨rfl, rfl, rfl⟩ := hcs
    exact none_case none 0
  · simp [Value.cells] at hcs
    obtain ⟨rfl, rfl, rfl⟩ := hcs
    simp only [Prod.mk.injEq] at hx
    obtain ⟨rfl, rfl⟩ := hx
    simp only [if_true] at hz
    unfold maxLen at hm
    by_cases h0 : len = 0
    · subst h0; exact none_case (some a) cap
    · have hc0 := hcell 0 (by omega)
      have ha0 : a.add 0 = a := by simp [Addr.add]
      rw [ha0] at hc0
      obtain ⟨ab, ao, spot⟩ := a
      have hspot : spot = none := by simpa using World.cell?_spot hc0
      subst hspot
      have hzr : 0 ≤ zs.getD 0 0 ∧ zs.getD 0 0 ≤ 255 := by
        have hmem : zs.getD 0 0 ∈ zs := by
          cases zs with
          | nil => simp at hz; omega
          | cons z zs => simp
        simpa [Lit.wf, IntKind.min, IntKind.max, IntKind.signed, IntKind.bits] using hwz _ hmem
      generalize zs.getD 0 0 = z at hc0 hzr
      obtain ⟨n, rfl⟩ := Int.eq_ofNat_of_zero_le hzr.1
      have hblk : ab < W.heap.size := World.block_lt_of_cell? W ⟨ab, ao, none⟩ hc0
      refine run_calls (v0 := .slice (some ⟨ab, ao, none⟩) len cap) rfl (Z := fun k x => if k = ab ∧ x = ao then some (.int .u8 (n : Int)) else none) (b := decide (1048576 < len)) (r := n % 3) (w := W)
        (fun k x v h => ?_) (fun w => big_any (some ⟨ab, ao, none⟩) len cap w (by omega)) (fun w hZ => ?_) (run_b _ _ (by omega))
      · simp only [] at h
        split at h
        · rename_i he; obtain ⟨rfl, rfl⟩ := he; simp at h; subst h; exact ⟨hblk, fun h => h, hc0⟩
        · exact nomatch h
      · have hcw := hZ ab ao _ (if_pos ⟨rfl, rfl⟩)
        exact (at_yes ⟨ab, ao, none⟩ len cap n w (by omega) (by omega) hcw hzr).mono fun e w' ⟨h1, h2⟩ => ⟨⟨n, rfl, h1⟩, h2⟩
set_option maxRecDepth 100000 in
theorem changeNew_lifted (os : Os) (started : os.Started) (H : Type) (enc : TypeId × Value → H) :
    ReturnsInHanded {} Tryz.checked os 3 .any (Rows.fnChangeNewSpec.pre6 enc Tryz.prog Tryz.f3 Rows.fnChangeNewRow.domain false) (Rows.fnChangeNewSpec.post enc Tryz.prog Tryz.f3 false true false false) := by
  refine returnsInHanded_of_change (C := Tryz.checked) Tryz.own started (by kernel_rfl) Tryz.func3
    (ChangeSpec.witness6 (enc := enc) (C := Tryz.checked) false ⟨#[], #[.slice none 0 0], []⟩ 8 (by kernel_rfl) (by kernel_rfl) (by kernel_rfl) (by kernel_rfl)) ?_
  intro W base args ds gs before hval0 hW hcnd _
  have hval : ∀ (j : Nat) t v, Tryz.f3.params[j]? = some t → args[j]? = some v → Value.okWide Tryz.prog W .any base t v := hval0
  have hW' := hW
  obtain ⟨p, q, hA0, hV, rfl, hfz, hnd⟩ := hW
  have hA : DataW.TrodAll enc Tryz.prog W 0 (fun _ => true) true Tryz.f3.params.toList args.toList ds p := hA0
  have hAk := hA
  rw [Tryz.params3] at hA hval
  obtain ⟨v0, d0, hargs, rfl, h0⟩ := trodAll_one hA
  obtain ⟨rfl, rfl⟩ := trodVars_none hV
  obtain rfl : args = #[v0] := by cases args; simp_all
  clear hA0 hval0
  simp only [List.append_nil] at hW'
  have hplain : ∀ x ∈ p, ∃ b o, x = MemPlace.cell b o := by
    obtain ⟨a1, len, cap, rfl⟩ := okWide_slice Tryz.underlying22 (hval 0 22 v0 rfl rfl)
    obtain ⟨fuel, hf⟩ := h0
    rcases open_ints Tryz.underlying22 Tryz.underlying5 Tryz.cells5 hf with ⟨_, hx⟩ | ⟨a, len', cap', zs, _, _, _, _, _, hx, _, _⟩
    · simp only [Prod.mk.injEq] at hx; obtain ⟨rfl, rfl⟩ := hx; intro x hx; cases hx
    · simp only [Prod.mk.injEq] at hx; obtain ⟨rfl, rfl⟩ := hx
      intro x hx
      simp only [MemPlace.row, List.mem_map] at hx
      obtain ⟨i, _, rfl⟩ := hx
      exact ⟨_, _, rfl⟩
  refine (law_calls H enc W base v0 d0 p (hval 0 22 v0 rfl rfl) h0 fun x hx => hW'.lt x hx).mono fun e W' ⟨he, hb⟩ => ?_
  subst he
  exact ⟨_, rfl, post_of_below (pa := p) (pv := []) hW' (fun _ _ _ => trodAll_mk1 (shut_bool Tryz.underlying4 _)) (fun sp hsp => trodAll_mk1 (WideElems.Trod_stays (P := Tryz.prog) Tryz.laidOut (by kernel_rfl) (of_decide_eq_true (by kernel_rfl)) h0
      (fun x hx => by obtain ⟨xb, xo, rfl⟩ := hplain x hx; exact hb.cell (p := ⟨xb, xo, none⟩) (hW'.lt _ hx))
      (fun x hx => by simpa using hsp x hx))) (fun _ _ => rfl) (by simp)
    hb (ok_one (by kernel_rfl) rfl (okWide_bool_mk Tryz.underlying4 _))⟩
theorem changeNew_holds : Rows.FnChangeNewSaid :=
  OpenClaim.holds_of_wide 3 Tryz.f3 rfl rfl rfl rfl rfl rfl rfl ⟨rfl, rfl, rfl, rfl, rfl⟩ rfl rfl rfl rfl rfl fnamed Tryz.func3 closed inst3 wrap3
    (fun os started H enc _ => changeNew_lifted os started H enc)
end Go.Proofs.YtpidolpoemlpjaaGreat
