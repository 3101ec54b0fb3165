/-
  Part of the proof: an evaluator of the model's code, proved sound, and its run (PeOps3).
-/
import Derived.Test.YtpidolpoemlpjaaGreatPeOps2
set_option linter.unusedVariables false
set_option linter.unusedSimpArgs false
set_option linter.unnecessarySimpa false
set_option linter.unusedSectionVars false
namespace Go.PE
section
variable {P : Program} {τ : Nat → Value} {B : Base} {ι : Emb} {h : Hp} {w : World}

theorem askRoom_run (n : Nat) (w : World) : (askRoom n).run P w = .ok () w := run_askRoom P w n

theorem makeSlice_sound (hτ : ∀ i, (τ i).oneCell' = true) {t : TypeId} {x y r : AV} {u v : Value} {h' : Hp} (hu : RelV τ ι u x) (hv : RelV τ ι v y)
    (he : makeSliceA P t x y h = some (r, h')) (hto : h'.next ≤ B.top) (hr : Rel τ B ι h w) :
    ∃ w' ι' z, (Instr.makeSlice t u v).run P w = .ok z w' ∧ RelV τ ι' z r ∧ Rel τ B ι' h' w' ∧ Ext ι h ι' h' := by
  unfold makeSliceA at he
  split at he
  · rename_i elem k1 l k2 c hun
    obtain rfl := hu.int_inv
    obtain rfl := hv.int_inv
    split at he
    · rename_i size bytes z hs hby hz
      cases hb : (Nat.ble l c && Nat.ble c 1000000000 && Nat.ble bytes 4096 && Nat.beq z.cells.length size && z.cells.all AV.one && Nat.blt 0 size) with
      | false => rw [hb] at he; simp at he
      | true =>
        rw [hb] at he
        simp only [cond_true] at he
        simp only [Bool.and_eq_true, Nat.beq_eq, Nat.ble_eq, Nat.blt_eq] at hb
        obtain ⟨⟨⟨⟨⟨b1, b2⟩, b3⟩, b4⟩, b5⟩, b6⟩ := hb
        simp only [Option.map_eq_some_iff] at he
        obtain ⟨⟨id, h1⟩, hn, e⟩ := he
        simp at e
        obtain ⟨rfl, rfl⟩ := e
        obtain ⟨zv, hzv, rfl⟩ := run_zero hz w
        obtain ⟨g1, g2⟩ := (relConst (τ := τ) (ι := ι) zv).cells hτ b5
        obtain ⟨z1, z2⟩ := zeros_rel (n := c) (m := c * size) g1 g2 (by rw [b4]) (by omega)
        obtain ⟨w', ι', loc, e1, e2, e3, e4, e5, e6⟩ := newRow_sound (P := P) (el := elem) hn hto hr z1 z2
        obtain ⟨inf, hi1, hi2⟩ := run_bytes hby w
        have hext : loc.ext = c * size := by rw [e3]; simp
        refine ⟨w', ι', .slice (some (loc.at 0)) l c, ?_, .sl id 0 l c size c 0 loc e4 b1 (Nat.le_refl _) (by omega) (fun _ => rfl), e5, e6⟩
        have wl : IntKind.i64.wrap (Int.ofNat l) = Int.ofNat l := by
          unfold IntKind.wrap; simp [IntKind.bits, IntKind.signed]; omega
        have wc : IntKind.i64.wrap (Int.ofNat c) = Int.ofNat c := by
          unfold IntKind.wrap; simp [IntKind.bits, IntKind.signed]; omega
        have hmul : bytes * c ≤ 4096 * 1000000000 := Nat.mul_le_mul b3 b2
        have hlarge : (decide ((Int.ofNat c) < 0) || decide ((inf.bytes : Int) * (Int.ofNat c) > 2 ^ 48)) = false := by
          rw [hi2]
          simp
          have : ((bytes : Int) * (c : Int)) = ((bytes * c : Nat) : Int) := by simp
          rw [this]
          omega
        have hcond : ((decide ((Int.ofNat c) < 0) || decide ((inf.bytes : Int) * (Int.ofNat c) > 2 ^ 48)) || decide ((Int.ofNat l) < 0) || decide ((Int.ofNat l) > Int.ofNat c)) = false := by
          rw [hlarge]; simp; omega
        have hla : (Int.ofNat l).toNat = l := rfl
        have hca : (Int.ofNat c).toNat = c := rfl
        by_cases h0 : c * size = 0
        · have hz0 : (Array.range (c * size)).map (zv.cells[· % zv.cells.size]!) = (Array.range (c * size)).map ((#[] : Array Value)[· % (#[] : Array Value).size]!) := by rw [h0]; simp
          rw [hz0] at e1
          simp only [Instr.makeSlice, Sem.run_bind, run_under hun, Result.andThen_ok, asInt, asIntOf, Sem.run_pure, hi1, wl, wc, hcond, Bool.false_eq_true, if_false, askRoom_run, hca, hla, run_size hs, h0, if_true]
          rw [h0] at e1
          rw [e1]
          simp [Loc.at, e2]
        · simp only [Instr.makeSlice, Sem.run_bind, run_under hun, Result.andThen_ok, asInt, asIntOf, Sem.run_pure, hi1, wl, wc, hcond, Bool.false_eq_true, if_false, askRoom_run, hca, hla, run_size hs, if_neg h0, hzv, e1]
          simp [Loc.at, e2]
    · simp at he
  · simp at he

theorem fieldAddr_sound {t : TypeId} {x r : AV} {u : Value} {f : Nat} (hu : RelV τ ι u x) (he : fieldAddrA P t x f = some r) (w : World) :
    ∃ z, (Instr.fieldAt t u f).run P w = .ok z w ∧ RelV τ ι z r := by
  unfold fieldAddrA at he
  split at he
  · rename_i fields id off hun
    obtain ⟨l, hl, rfl⟩ := hu.ptr_inv
    split at he
    · rename_i fl hf
      split at he
      · rename_i n hn
        cases hb : Nat.beq n 0 with
        | true => rw [hb] at he; simp at he
        | false =>
          rw [hb] at he
          simp only [cond_false, Option.some.injEq] at he
          subst he
          have hne : n ≠ 0 := by intro e; rw [e] at hb; simp at hb
          refine ⟨.pointer (some (l.at (off + fl.offset))), ?_, .ptr id _ l hl⟩
          simp [Instr.fieldAt, run_under hun, hf, Instr.sureAddr, fieldPlace, run_size hn, hne, Loc.at_add]
      · simp at he
    · simp at he
  · simp at he

theorem part_sound {t : TypeId} {cs : List AV} {xs : Array Value} {off : Nat} {r : AV} (hx : RelL τ ι xs.toList cs) (he : partA P t cs off = some r) (w : World) :
    ∃ z, (part t xs off).run P w = .ok z w ∧ RelV τ ι z r := by
  unfold partA at he
  split at he
  · rename_i n hagg hsz
    simp only [Option.map_eq_some_iff] at he
    obtain ⟨as, hcut, rfl⟩ := he
    obtain ⟨c1, c2, c3⟩ := cut_spec hcut
    have hlen := hx.1
    simp at hlen
    refine ⟨.agg (xs.extract off (off + n)), by simp [part, run_agg hagg, run_size hsz], RelL.agg ⟨by simp; omega, fun i v a p q => ?_⟩⟩
    have hi : i < n := by have := (List.getElem?_eq_some_iff.1 q).1; omega
    rw [c3 i hi] at q
    simp only [Array.getElem?_toList] at p
    rw [Array.getElem?_extract] at p
    split at p
    · exact hx.2 _ v a (by rw [Array.getElem?_toList]; exact p) q
    · simp at p
  · rename_i n hagg hsz
    have hlt : off < cs.length := (List.getElem?_eq_some_iff.1 he).1
    have hlt' : off < xs.toList.length := by rw [hx.1]; exact hlt
    have hlt2 : off < xs.size := by simpa using hlt'
    refine ⟨xs[off], ?_, hx.2 off _ r (by simp [hlt2]) he⟩
    simp [part, run_agg hagg, hlt2]
  · simp at he

theorem field_sound {t : TypeId} {x r : AV} {u : Value} {f : Nat} (hu : RelV τ ι u x) (he : fieldA P t x f = some r) (w : World) :
    ∃ z, (Instr.field t u f).run P w = .ok z w ∧ RelV τ ι z r := by
  unfold fieldA at he
  split at he
  · rename_i fields cs hun
    obtain ⟨xs, rfl, hl⟩ := hu.agg_inv
    split at he
    · rename_i fl hf
      obtain ⟨z, hz, hrel⟩ := part_sound hl he w
      exact ⟨z, by simp [Instr.field, run_under hun, hf, asAgg, hz], hrel⟩
    · simp at he
  · simp at he

theorem indexAddr_sound {t : TypeId} {x y r : AV} {u v : Value} (hu : RelV τ ι u x) (hv : RelV τ ι v y) (he : indexAddrA P t x y = some r) (w : World) :
    ∃ z, (Instr.indexAt t u v).run P w = .ok z w ∧ RelV τ ι z r := by
  unfold indexAddrA at he
  split at he
  · rename_i elem id off len cap sz k i hun
    obtain ⟨l, c, o', hl, h1, h2, h3, h4, rfl⟩ := hu.sl_inv
    obtain rfl := hv.int_inv
    split at he
    · rename_i s hs
      cases hb : (Nat.blt i len && Nat.beq s sz) with
      | false => rw [hb] at he; simp at he
      | true =>
        rw [hb] at he
        simp only [cond_true, Option.some.injEq] at he
        subst he
        simp only [Bool.and_eq_true, Nat.beq_eq, Nat.blt_eq] at hb
        obtain ⟨b1, rfl⟩ := hb
        obtain rfl := h4 (by omega)
        refine ⟨.pointer (some (l.at (o' + i * s))), ?_, .ptr id _ l hl⟩
        have hlt : ((0 : Int) ≤ Int.ofNat i ∧ (Int.ofNat i) < (len : Int)) := ⟨by simp, by simp; omega⟩
        simp [Instr.indexAt, asIntOf, run_under hun, hlt, run_size hs, Loc.at_add]
        intro hcon; omega
    · simp at he
  · rename_i len elem id off k i hun
    obtain ⟨l, hl, rfl⟩ := hu.ptr_inv
    obtain rfl := hv.int_inv
    split at he
    · rename_i s hs
      cases hb : Nat.blt i len with
      | false => rw [hb] at he; simp at he
      | true =>
        rw [hb] at he
        simp only [cond_true, Option.some.injEq] at he
        subst he
        simp only [Nat.blt_eq] at hb
        refine ⟨.pointer (some (l.at (off + i * s))), ?_, .ptr id _ l hl⟩
        simp [Instr.indexAt, asIntOf, run_under hun, Instr.sureAddr, run_size hs, Loc.at_add, hb]
    · simp at he
  · simp at he

theorem strOf_get (s : ByteArray) (i : Nat) : (strOf s)[i]? = (s.data[i]?).map (·.toNat) := by
  unfold strOf
  rw [List.getElem?_map, Array.getElem?_toList]
theorem strOf_length (s : ByteArray) : (strOf s).length = s.size := by
  unfold strOf; rw [List.length_map]; rfl

theorem index_sound {t : TypeId} {x y r : AV} {u v : Value} (hu : RelV τ ι u x) (hv : RelV τ ι v y) (he : indexA P t x y = some r) (w : World) :
    ∃ z, (Instr.index t u v).run P w = .ok z w ∧ RelV τ ι z r := by
  unfold indexA at he
  split at he
  · rename_i len elem cs k i hun
    obtain ⟨xs, rfl, hl⟩ := hu.agg_inv
    obtain rfl := hv.int_inv
    split at he
    · rename_i s hs
      cases hb : Nat.blt i len with
      | false => rw [hb] at he; simp at he
      | true =>
        rw [hb] at he
        simp only [cond_true] at he
        simp only [Nat.blt_eq] at hb
        obtain ⟨z, hz, hrel⟩ := part_sound hl he w
        refine ⟨z, ?_, hrel⟩
        simp [Instr.index, asIntOf, run_under hun, run_size hs, hb, hz]
    · simp at he
  · rename_i l k i hun
    obtain ⟨s, rfl, rfl⟩ := hu.str_inv
    obtain rfl := hv.int_inv
    simp only [Option.map_eq_some_iff] at he
    obtain ⟨b, hb, rfl⟩ := he
    rw [strOf_get] at hb
    simp only [Option.map_eq_some_iff] at hb
    obtain ⟨c, hc, rfl⟩ := hb
    refine ⟨.int .u8 c.toNat, ?_, .int _ _⟩
    have : s[i]? = some c := by
      rw [← hc]; rfl
    simp [Instr.index, asIntOf, run_under hun, this]
  · simp at he


theorem bound_sound {k : IntKind} {n y : Nat} {code : BoundsCode} (hle : n ≤ y) (w : World) : (Instr.sliceBound (.int k (Int.ofNat n)) y code).run P w = .ok n w := by
  have : ((0 : Int) ≤ Int.ofNat n ∧ (Int.ofNat n) ≤ (y : Int)) := ⟨by simp, by simp; omega⟩
  simp [Instr.sliceBound, asIntOf]
  intro hc; omega
theorem natOf_inv {v : Value} {a : AV} {n : Nat} (hv : RelV τ ι v a) (he : natOf a = some n) : ∃ k, v = .int k (Int.ofNat n) := by
  unfold natOf at he
  split at he
  · rename_i k m
    simp at he; subst he
    exact ⟨k, hv.int_inv⟩
  · simp at he

theorem bounds_sound {isSlice : Bool} {len cap a b c cA : Nat} {lo hi mx : Option AV} {vlo vhi vmx : Option Value}
    (hlo : ∀ x, lo = some x → ∃ v, vlo = some v ∧ RelV τ ι v x) (hlo' : lo = none → vlo = none)
    (hhi : ∀ x, hi = some x → ∃ v, vhi = some v ∧ RelV τ ι v x) (hhi' : hi = none → vhi = none)
    (hmx : ∀ x, mx = some x → ∃ v, vmx = some v ∧ RelV τ ι v x) (hmx' : mx = none → vmx = none)
    (ea : boundA lo 0 = some a) (eb : boundA hi len = some b) (ec : boundA mx cA = some c) (hmh : mx ≠ none → hi ≠ none)
    (h1 : a ≤ b) (h2 : b ≤ c) (h3 : c ≤ cap) (w : World) :
    (Instr.sliceBounds isSlice len cap vlo vhi vmx).run P w = .ok (a, b, if mx = none then cap else c) w := by
  cases mx with
  | none =>
    obtain rfl := hmx' rfl
    cases hi with
    | none =>
      obtain rfl := hhi' rfl
      simp [boundA] at eb; subst eb
      cases lo with
      | none => obtain rfl := hlo' rfl; simp [boundA] at ea; subst ea; simp [Instr.sliceBounds]
      | some x =>
        obtain ⟨v, rfl, hv⟩ := hlo x rfl
        obtain ⟨k, rfl⟩ := natOf_inv hv ea
        simp [Instr.sliceBounds, bound_sound h1, -Int.ofNat_eq_natCast]
    | some x =>
      obtain ⟨v, rfl, hv⟩ := hhi x rfl
      obtain ⟨k, rfl⟩ := natOf_inv hv eb
      have hb : b ≤ cap := by omega
      cases lo with
      | none => obtain rfl := hlo' rfl; simp [boundA] at ea; subst ea; simp [Instr.sliceBounds, bound_sound hb, -Int.ofNat_eq_natCast]
      | some y =>
        obtain ⟨u, rfl, hu⟩ := hlo y rfl
        obtain ⟨k', rfl⟩ := natOf_inv hu ea
        simp [Instr.sliceBounds, bound_sound h1, bound_sound hb, -Int.ofNat_eq_natCast]
  | some z =>
    obtain ⟨vz, rfl, hz⟩ := hmx z rfl
    obtain ⟨kz, rfl⟩ := natOf_inv hz ec
    cases hi with
    | none => exact absurd rfl (hmh (by simp))
    | some x =>
      obtain ⟨v, rfl, hv⟩ := hhi x rfl
      obtain ⟨k, rfl⟩ := natOf_inv hv eb
      cases lo with
      | none => obtain rfl := hlo' rfl; simp [boundA] at ea; subst ea; simp [Instr.sliceBounds, bound_sound h2, bound_sound h3, -Int.ofNat_eq_natCast]
      | some y =>
        obtain ⟨u, rfl, hu⟩ := hlo y rfl
        obtain ⟨k', rfl⟩ := natOf_inv hu ea
        simp [Instr.sliceBounds, bound_sound h1, bound_sound h2, bound_sound h3, -Int.ofNat_eq_natCast]

end
end Go.PE
