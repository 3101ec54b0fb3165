/-
  Part of the proof: an evaluator of the model's code, proved sound, and its run (PeOps).
-/
import Derived.Test.YtpidolpoemlpjaaGreatPeWrite
set_option linter.unusedVariables false
set_option linter.unusedSimpArgs false
set_option linter.unnecessarySimpa false
set_option linter.unusedSectionVars false
namespace Go.PE
section
variable {P : Program} {τ : Nat → Value} {B : Base} {ι : Emb} {h : Hp} {w : World}

theorem Loc.at_add (l : Loc) (x j : Nat) : (l.at x).add j = l.at (x + j) := by
  unfold Loc.at Addr.add
  split
  · rename_i e; subst e; rfl
  · simp [Nat.add_assoc]

/-! ## Tables -/
theorem run_under {t : TypeId} {d : TypeDesc} (e : P.underlying t = some d) (w : World) : (underlying t).run P w = .ok d w := by
  simp [underlying, e]
theorem sizeA_info {t : TypeId} {n : Nat} (e : sizeA P t = some n) : ∃ i, P.info? t = some i ∧ i.size = n := by
  unfold sizeA at e
  cases hi : P.info? t with
  | none => rw [hi] at e; simp at e
  | some i => rw [hi] at e; exact ⟨i, rfl, by simpa using e⟩
theorem run_size {t : TypeId} {n : Nat} (e : sizeA P t = some n) (w : World) : (sizeOf t).run P w = .ok n w := by
  obtain ⟨i, hi, hn⟩ := sizeA_info e
  simp [sizeOf, typeInfo, hi, hn]
theorem run_bytes {t : TypeId} {n : Nat} (e : bytesA P t = some n) (w : World) : ∃ i, (typeInfo t).run P w = .ok i w ∧ i.bytes = n := by
  unfold bytesA at e
  cases hi : P.info? t with
  | none => rw [hi] at e; simp at e
  | some i => rw [hi] at e; exact ⟨i, by simp [typeInfo, hi], by simpa using e⟩
theorem run_zero {t : TypeId} {z : AV} (e : zeroA P t = some z) (w : World) : ∃ v, (zeroValue t).run P w = .ok v w ∧ z = ofConst v := by
  unfold zeroA at e
  cases hi : P.info? t with
  | none => rw [hi] at e; simp at e
  | some i =>
    rw [hi] at e
    simp only [Option.bind_some, Option.map_eq_some_iff] at e
    obtain ⟨v, hv, rfl⟩ := e
    exact ⟨v, by simp [zeroValue, typeInfo, hi, hv], rfl⟩
theorem run_agg {t : TypeId} {b : Bool} (e : isAggA P t = some b) (w : World) : (isAgg t).run P w = .ok b w := by
  unfold isAggA at e
  cases hu : P.underlying t with
  | none => rw [hu] at e; simp at e
  | some d =>
    rw [hu] at e
    simp only [isAgg, underlying, Sem.run_bind, run_program, Result.andThen_ok, hu, Sem.run_pure]
    cases d <;> simp at e <;> subst e <;> rfl

/-! ## Constants, operands -/
theorem relFlat (v : Value) : RelV τ ι v (ofFlat v) := by
  cases v with
  | bool b => exact .bool _
  | int k n => exact .int _ _
  | float k b => cases k with
    | f64 => exact .flt _
    | f32 => exact .dead _
  | string s => exact .str _
  | pointer a => cases a with
    | none => exact .nilp
    | some a => exact .dead _
  | slice a l c => cases a with
    | none =>
      show RelV τ ι _ (bif Nat.beq l 0 && Nat.beq c 0 then .nils else .dead)
      cases hb : (Nat.beq l 0 && Nat.beq c 0) with
      | false => exact .dead _
      | true =>
        simp only [Bool.and_eq_true, Nat.beq_eq] at hb
        rw [hb.1, hb.2]; exact .nils
    | some a => exact .dead _
  | map r => cases r with
    | none => exact .nilm
    | some r => exact .dead _
  | nilFunc => exact .nilf
  | func fn xs ys => cases fn with
    | func f =>
      show RelV τ ι _ (bif Nat.beq xs.size 0 && Nat.beq ys.size 0 then .fn f [] [] else .dead)
      cases hb : (Nat.beq xs.size 0 && Nat.beq ys.size 0) with
      | false => exact .dead _
      | true =>
        simp only [Bool.and_eq_true, Nat.beq_eq] at hb
        exact .fn f xs ys [] [] (by simpa using hb.1) (by simp) (by simpa using hb.2) (by simp)
    | _ => exact .dead _
  | _ => exact .dead _
theorem relConst (v : Value) : RelV τ ι v (ofConst v) := by
  unfold ofConst
  split
  · rename_i cs
    refine RelL.agg ⟨by simp, fun i x a h1 h2 => ?_⟩
    rw [List.getElem?_map, h1] at h2
    simp at h2; subst h2
    exact relFlat x
  · exact relFlat _

def RelT (τ : Nat → Value) (ι : Emb) (a : Act) (tm : Tm) : Prop := RelL τ ι a.tmps.toList tm

theorem RelT.mono {ι' : Emb} {a : Act} {tm : Tm} (hs : Sub ι ι') (r : RelT τ ι a tm) : RelT τ ι' a tm := RelL.mono hs r
theorem RelT.at {a : Act} {tm : Tm} (r : RelT τ ι a tm) (t : Nat) : RelV τ ι (a.tmps.getD t undef) (Tm.at tm t) := by
  rw [Tm.at_eq]
  by_cases ht : t < tm.length
  · have ht' : t < a.tmps.toList.length := by rw [r.1]; exact ht
    have := r.2 t _ _ (List.getElem?_eq_getElem ht') (List.getElem?_eq_getElem ht)
    rw [List.getElem?_eq_getElem ht]
    simp only [Option.getD_some]
    have ht2 : t < a.tmps.size := by simpa using ht'
    simp only [Array.getD, ht2, dif_pos]
    simpa using this
  · rw [List.getElem?_eq_none (by omega)]
    exact .dead _
theorem RelT.put {a : Act} {tm : Tm} (r : RelT τ ι a tm) (d : Option Nat) {v : Value} {x : AV} (hv : RelV τ ι v x) : RelT τ ι (a.put d v) (putD tm d x) := by
  cases d with
  | none => exact r
  | some d =>
    refine ⟨by simp [Act.put, putD, Tm.put_length, r.1], fun i u y h1 h2 => ?_⟩
    simp only [putD, Tm.put_get] at h2
    simp only [Act.put, Array.getElem?_toList, Array.getElem?_setIfInBounds] at h1
    have hlen := r.1
    simp at hlen
    by_cases e : d = i
    · subst e
      by_cases hlt : d < tm.length
      · rw [if_pos ⟨rfl, hlt⟩] at h2
        simp [hlen, hlt] at h1 h2
        subst h1; subst h2; exact hv
      · simp [hlen, hlt] at h1
    · rw [if_neg (by omega)] at h2
      rw [if_neg e] at h1
      exact r.2 i u y (by simpa using h1) h2
theorem RelT.eval {a : Act} {tm : Tm} (r : RelT τ ι a tm) (x : Operand) : RelV τ ι (a.eval x) (evX tm x) := by
  cases x with
  | tmp t => exact r.at t
  | const v => exact relConst v
  | global g => exact .dead _
  | func f => exact .fn f #[] #[] [] [] rfl (by simp) rfl (by simp)
theorem RelT.evals {a : Act} {tm : Tm} (r : RelT τ ι a tm) (xs : Array Operand) : RelL τ ι (xs.map a.eval).toList (xs.toList.map (evX tm)) := by
  rw [Array.toList_map]
  exact RelL.map _ fun x _ => r.eval x

/-! ## Reading cells -/
theorem read_cells {l : Loc} {cs as : List AV} {off n : Nat} (hb : BlkOk τ ι w l cs) (hc : cut off n cs = some as) :
    ∃ vs : List Value, vs.length = n ∧ (∀ (j : Nat) (v : Value), vs[j]? = some v → w.cell? (l.at (off + j)) = some v) ∧ RelL τ ι vs as ∧ ∀ v ∈ vs, v.oneCell' = true := by
  obtain ⟨c1, c2, c3⟩ := cut_spec hc
  have key : ∀ j, j < n → ∃ v a, w.cell? (l.at (off + j)) = some v ∧ as[j]? = some a ∧ RelV τ ι v a ∧ v.oneCell' = true := by
    intro j hj
    have hlt : off + j < cs.length := by omega
    obtain ⟨v, h1, h2, h3⟩ := hb.2.2.2 (off + j) cs[off + j] (List.getElem?_eq_getElem hlt)
    exact ⟨v, _, h1, by rw [c3 j hj, List.getElem?_eq_getElem hlt], h2, h3⟩
  refine ⟨(List.range n).map fun j => (w.cell? (l.at (off + j))).getD undef, by simp, fun j v hv => ?_, ⟨by simp [c1], fun j v a h1 h2 => ?_⟩, fun v hv => ?_⟩
  · rw [List.getElem?_map] at hv
    simp only [Option.map_eq_some_iff] at hv
    obtain ⟨k, hk, rfl⟩ := hv
    have hjn : j < n := by have := (List.getElem?_eq_some_iff.1 hk).1; simpa using this
    have : k = j := by rw [List.getElem?_range hjn] at hk; simpa using hk.symm
    subst this
    obtain ⟨v, a, h1, _⟩ := key k hjn
    rw [h1]; rfl
  · rw [List.getElem?_map] at h1
    simp only [Option.map_eq_some_iff] at h1
    obtain ⟨k, hk, rfl⟩ := h1
    have hjn : j < n := by have := (List.getElem?_eq_some_iff.1 hk).1; simpa using this
    have : k = j := by rw [List.getElem?_range hjn] at hk; simpa using hk.symm
    subst this
    obtain ⟨v, a', g1, g2, g3, _⟩ := key k hjn
    rw [h2] at g2; simp at g2; subst g2
    rw [g1]; exact g3
  · simp only [List.mem_map, List.mem_range] at hv
    obtain ⟨j, hj, rfl⟩ := hv
    obtain ⟨v, a', g1, _, _, g4⟩ := key j hj
    rw [g1]; exact g4

theorem run_cells {l : Loc} {off : Nat} {vs : List Value} (hv : ∀ (j : Nat) (v : Value), vs[j]? = some v → w.cell? (l.at (off + j)) = some v) :
    (loadCells (l.at off) vs.length).run P w = .ok vs.toArray w :=
  run_loadCells_list w _ vs fun j v h1 => by rw [Loc.at_add]; exact hv j v h1

theorem RelV.ptr_inv {v : Value} {id off : Nat} (h : RelV τ ι v (.ptr id off)) : ∃ l, ι id = some l ∧ v = .pointer (some (l.at off)) := by
  cases h with
  | ptr _ _ l h => exact ⟨l, h, rfl⟩
theorem RelV.sl_inv {v : Value} {id off len cap sz : Nat} (h : RelV τ ι v (.sl id off len cap sz)) :
    ∃ l c o', ι id = some l ∧ len ≤ cap ∧ cap ≤ c ∧ off + c * sz ≤ l.ext ∧ (c ≠ 0 → o' = off) ∧ v = .slice (some (l.at o')) len c := by
  cases h with
  | sl _ _ _ _ _ c o' l h1 h2 h3 h4 h5 => exact ⟨l, c, o', h1, h2, h3, h4, h5, rfl⟩
theorem RelV.int_inv {v : Value} {k : IntKind} {n : Int} (h : RelV τ ι v (.int k n)) : v = .int k n := by cases h; rfl
theorem RelV.bool_inv {v : Value} {b : Bool} (h : RelV τ ι v (.bool b)) : v = .bool b := by cases h; rfl
theorem RelV.flt_inv {v : Value} {b : Nat} (h : RelV τ ι v (.flt b)) : v = .float .f64 b := by cases h; rfl
theorem RelV.str_inv {v : Value} {l : List Nat} (h : RelV τ ι v (.str l)) : ∃ s, v = .string s ∧ l = strOf s := by cases h with | str s => exact ⟨s, rfl, rfl⟩
theorem RelV.nils_inv {v : Value} (h : RelV τ ι v .nils) : v = .slice none 0 0 := by cases h; rfl
theorem RelV.nilp_inv {v : Value} (h : RelV τ ι v .nilp) : v = .pointer none := by cases h; rfl
theorem RelV.nilm_inv {v : Value} (h : RelV τ ι v .nilm) : v = .map none := by cases h; rfl
theorem RelV.nilf_inv {v : Value} (h : RelV τ ι v .nilf) : v = .nilFunc := by cases h; rfl
theorem RelV.mp_inv {v : Value} {id : Nat} (h : RelV τ ι v (.mp id)) : ∃ l, ι id = some l ∧ v = .map (some l.b) := by cases h with | mp _ l h => exact ⟨l, h, rfl⟩
theorem RelV.fn_inv {v : Value} {f : Nat} {as bs : List AV} (h : RelV τ ι v (.fn f as bs)) :
    ∃ xs ys : Array Value, v = .func (.func f) xs ys ∧ RelL τ ι xs.toList as ∧ RelL τ ι ys.toList bs := by
  cases h with
  | fn _ xs ys _ _ h1 h2 h3 h4 => exact ⟨xs, ys, rfl, ⟨by simpa using h1, fun i v a x y => h2 i v a (by simpa using x) y⟩, ⟨by simpa using h3, fun i v a x y => h4 i v a (by simpa using x) y⟩⟩

theorem loadA_sound {t : TypeId} {x r : AV} {v : Value} (he : loadA P t x h = some r) (hr : Rel τ B ι h w) (hv : RelV τ ι v x) :
    ∃ u, (Instr.loadAt t v).run P w = .ok u w ∧ RelV τ ι u r ∧ (r.cells.all AV.one = true → True) := by
  unfold loadA at he
  split at he
  · rename_i id off
    obtain ⟨l, hl, rfl⟩ := hv.ptr_inv
    split at he
    · rename_i cs n hcs hagg hsz
      simp only [Option.map_eq_some_iff] at he
      obtain ⟨as, hcut, rfl⟩ := he
      obtain ⟨vs, e1, e2, e3, _⟩ := read_cells (hr.cells id l cs hl (Hp.cells_get hcs)) hcut
      refine ⟨.agg vs.toArray, ?_, RelL.agg (by simpa using e3), fun _ => trivial⟩
      have := run_cells (P := P) e2
      rw [e1] at this
      simp [Instr.loadAt, Instr.sureAddr, loadVar, run_agg hagg, run_size hsz, this]
    · rename_i cs n hcs hagg hsz
      obtain ⟨u, h1, h2, _⟩ := (hr.cells id l cs hl (Hp.cells_get hcs)).2.2.2 off r he
      exact ⟨u, by simp [Instr.loadAt, Instr.sureAddr, loadVar, run_agg hagg, h1], h2, fun _ => trivial⟩
    · simp at he
  · simp at he

theorem storeA_sound (hτ : ∀ i, (τ i).oneCell' = true) {t : TypeId} {x y : AV} {v u : Value} {h' : Hp} (he : storeA P t x y h = some h') (hr : Rel τ B ι h w) (hv : RelV τ ι v x) (hu : RelV τ ι u y) :
    ∃ w', (Instr.storeAt t v u).run P w = .ok () w' ∧ Rel τ B ι h' w' ∧ h.next ≤ h'.next := by
  unfold storeA at he
  split at he
  · rename_i id off
    obtain ⟨l, hl, rfl⟩ := hv.ptr_inv
    split at he
    · rename_i cs n hcs hsz
      cases hb : (Nat.beq y.cells.length n && y.cells.all AV.one) with
      | false => rw [hb] at he; simp at he
      | true =>
        rw [hb] at he
        simp only [cond_true, Option.map_eq_some_iff] at he
        obtain ⟨cs', hov, rfl⟩ := he
        simp only [Bool.and_eq_true, Nat.beq_eq] at hb
        obtain ⟨g1, g2⟩ := hu.cells hτ hb.2
        have hblk := hr.cells id l cs hl (Hp.cells_get hcs)
        obtain ⟨o1, o2, _⟩ := over_spec _ _ _ _ hov
        have hlen := g1.1
        refine ⟨w.setCells l.b (l.o + off) u.cells.toList, ?_, hr.write hl (Hp.cells_get hcs) hov g1 g2, Nat.le_refl _⟩
        have hst := run_storeCells_cells (P := P) l.b (l.o + off) u.cells.toList 0 w (fun j hj => by
            have := (hblk.2.2.1 (off + j) (by have := hblk.2.1; omega)).1
            unfold Loc.at at this
            rwa [show l.o + (off + j) = l.o + off + 0 + j by omega] at this) (fun j hj => by
            have := (hblk.2.2.1 (off + j) (by have := hblk.2.1; omega)).2
            unfold Loc.at at this
            rwa [show l.o + (off + j) = l.o + off + 0 + j by omega] at this) g2
        have hsz' : u.cells.size = n := by have : u.cells.toList.length = u.cells.size := by simp
                                           omega
        simp [Instr.storeAt, Instr.sureAddr, storeVar, run_size hsz, hsz', Loc.at]
        simpa using hst
    · simp at he
  · simp at he

end
end Go.PE
