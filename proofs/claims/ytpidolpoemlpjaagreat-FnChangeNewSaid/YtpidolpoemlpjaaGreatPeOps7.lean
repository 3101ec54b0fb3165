/-
  Part of the proof: an evaluator of the model's code, proved sound, and its run (PeOps7).
-/
import Derived.Test.YtpidolpoemlpjaaGreatPeOps6
set_option linter.unusedVariables false
set_option linter.unusedSimpArgs false
set_option linter.unnecessarySimpa false
set_option linter.unusedSectionVars false
namespace Go.PE
section
variable {P : Program} {τ : Nat → Value} {B : Base} {ι : Emb} {h : Hp} {w : World}

theorem bytesOk_spec : ∀ (as : List AV) (l : List Nat), bytesOk as = some l → as = l.map (fun (b : Nat) => AV.int .u8 (Int.ofNat b)) ∧ ∀ b ∈ l, b < 256 := by
  intro as
  induction as with
  | nil => intro l h; simp [bytesOk] at h; subst h; simp
  | cons a as ih =>
    intro l h
    unfold bytesOk at h
    split at h
    · rename_i heq; simp at heq
    · rename_i n r heq
      simp at heq
      obtain ⟨rfl, rfl⟩ := heq
      cases hb : Nat.blt n 256 with
      | false => rw [hb] at h; simp at h
      | true =>
        rw [hb] at h
        simp only [cond_true, Option.map_eq_some_iff] at h
        obtain ⟨l', h', rfl⟩ := h
        obtain ⟨e1, e2⟩ := ih l' h'
        simp only [Nat.blt_eq] at hb
        refine ⟨by rw [e1]; rfl, fun b hb' => ?_⟩
        simp at hb'
        rcases hb' with rfl | hb'
        · exact hb
        · exact e2 b hb'
    · simp at h

theorem loop_bytes (w : World) (f : Value → ByteArray → Sem (ForInStep ByteArray)) (hf : ∀ (n : Int) (s : ByteArray), f (.int .u8 n) s = pure (.yield (s.push (UInt8.ofNat n.toNat)))) :
    ∀ (l : List Nat) (acc : ByteArray), (∀ b ∈ l, b < 256) →
    (forIn (m := Sem) (l.map fun (b : Nat) => Value.int .u8 (Int.ofNat b)) acc f).run P w = .ok (l.foldl (fun s b => s.push (UInt8.ofNat b)) acc) w := by
  intro l
  induction l with
  | nil => intro acc _; simp
  | cons b l ih =>
    intro acc hl
    simp only [List.map_cons, List.forIn_cons, Sem.run_bind, hf, Sem.run_pure, Result.andThen_ok]
    exact ih _ fun b hb => hl b (by simp [hb])

theorem strOf_fold : ∀ (l : List Nat) (acc : ByteArray), (∀ b ∈ l, b < 256) → strOf (l.foldl (fun s b => s.push (UInt8.ofNat b)) acc) = strOf acc ++ l := by
  intro l
  induction l with
  | nil => intro acc _; simp
  | cons b l ih =>
    intro acc hl
    rw [List.foldl_cons, ih _ fun b hb => hl b (by simp [hb])]
    have hb := hl b (by simp)
    have : strOf (acc.push (UInt8.ofNat b)) = strOf acc ++ [b] := by
      unfold strOf
      simp [ByteArray.push]
      omega
    rw [this]; simp

theorem isU8_spec {t : TypeId} (h : isU8 P t = true) : P.underlying t = some (.int .u8) := by
  unfold isU8 at h
  split at h
  · assumption
  · simp at h

theorem conv_sound {s d : TypeId} {x r : AV} {u : Value} (hr : Rel τ B ι h w) (hu : RelV τ ι u x) (he : convA P s d x h = some r) :
    ∃ z, (convert s d u).run P w = .ok z w ∧ RelV τ ι z r := by
  unfold convA at he
  split at he
  · rename_i su k k' n hs hd
    obtain rfl := hu.int_inv
    simp at he; subst he
    refine ⟨.int k (k.wrap n), ?_, by rw [wrapA_eq]; exact .int _ _⟩
    simp [convert, run_under hs, run_under hd, Conv.intToInt]
  · rename_i su k n hs hd
    obtain rfl := hu.int_inv
    simp at he; subst he
    refine ⟨.float .f64 (FloatKind.f64.nearest n), ?_, .flt _⟩
    simp [convert, run_under hs, run_under hd, Conv.intToFloat]
  · rename_i su l hs hd
    obtain ⟨t, rfl, rfl⟩ := hu.str_inv
    simp at he; subst he
    refine ⟨.string t, ?_, .str _⟩
    simp [convert, run_under hs, run_under hd]
  · rename_i e hs hd
    obtain rfl := hu.nils_inv
    cases hm : isU8 P e with
    | false => rw [hm] at he; simp at he
    | true =>
      rw [hm] at he
      simp at he; subst he
      refine ⟨.string .empty, ?_, ?_⟩
      · simp [convert, run_under hs, run_under hd, run_under (isU8_spec hm), Conv.bytesToString]
      · have : ([] : List Nat) = strOf .empty := rfl
        rw [this]; exact .str _
  · rename_i e id off len cap sz hs hd
    obtain ⟨l, c, o', hl, h1, h2, h3, h4, rfl⟩ := hu.sl_inv
    split at he
    · rename_i cs hcs
      cases hb : (isU8 P e && Nat.beq sz 1) with
      | false => rw [hb] at he; simp at he
      | true =>
        rw [hb] at he
        simp only [Bool.and_eq_true, Nat.beq_eq] at hb
        obtain ⟨hm, rfl⟩ := hb
        simp only [cond_true, Option.bind_eq_some_iff, Option.map_eq_some_iff] at he
        obtain ⟨as, hcut, bl, hbl, rfl⟩ := he
        obtain ⟨q1, q2⟩ := bytesOk_spec _ _ hbl
        obtain ⟨vs, e1, e2, e3, _⟩ := read_cells (hr.cells id l cs hl (Hp.cells_get hcs)) hcut
        have hvs : vs = bl.map fun (b : Nat) => Value.int .u8 (Int.ofNat b) := by
          apply List.ext_getElem?
          intro i
          by_cases hi : i < vs.length
          · have hi' : i < as.length := e3.1 ▸ hi
            have hr' := e3.2 i _ _ (List.getElem?_eq_getElem hi) (List.getElem?_eq_getElem hi')
            have hi2 : i < bl.length := by rw [q1] at hi'; simpa using hi'
            have : as[i] = AV.int .u8 (Int.ofNat bl[i]) := by
              subst q1; simp
            rw [this] at hr'
            rw [List.getElem?_eq_getElem hi, hr'.int_inv]
            simp [hi2]
          · have : ¬ i < bl.length := by
              have := e3.1
              rw [q1] at this; simp at this; omega
            rw [List.getElem?_eq_none (by omega), List.getElem?_eq_none (by simpa using this)]
        have hload : (loadCells (l.at o') len).run P w = .ok vs.toArray w := by
          by_cases h0 : len = 0
          · have : vs = [] := List.eq_nil_of_length_eq_zero (by omega)
            subst this; subst h0
            simp [loadCells, loadCellsFrom]
          · have : o' = off := h4 (by omega)
            subst this
            have := run_cells (P := P) e2
            rwa [e1] at this
        refine ⟨.string (bl.foldl (fun s b => s.push (UInt8.ofNat b)) ByteArray.empty), ?_, ?_⟩
        · simp only [convert, Sem.run_bind, run_under hs, run_under hd, run_under (isU8_spec hm), Result.andThen_ok, Conv.bytesToString, hload]
          rw [← Array.forIn_toList]
          rw [hvs]
          simp only [List.toList_toArray]
          rw [loop_bytes w _ (fun n s => rfl) bl ByteArray.empty q2]
          rfl
        · have := strOf_fold bl ByteArray.empty q2
          have h0 : strOf ByteArray.empty = [] := rfl
          rw [h0, List.nil_append] at this
          have q := RelV.str (τ := τ) (ι := ι) (bl.foldl (fun s b => s.push (UInt8.ofNat b)) ByteArray.empty)
          rw [this] at q
          exact q
    · simp at he
  · simp at he

/-! ## Lengths -/
theorem len_sound {ats : Array TypeId} {ty : TypeId} {x r : AV} {u : Value} (hu : RelV τ ι u x) (he : lenA P ats x = some r) (w : World) :
    ∃ z, (Builtin.len_ ats ty #[u]).run P w = .ok z w ∧ RelV τ ι z r := by
  unfold lenA at he
  split at he
  · rename_i t ht
    split at he
    · rename_i l hun
      obtain ⟨s, rfl, rfl⟩ := hu.str_inv
      simp at he; subst he
      rw [strOf_length]
      exact ⟨_, by simp [Builtin.len_, ht, run_under hun, goInt], .int _ _⟩
    · rename_i n e hun
      simp at he; subst he
      refine ⟨.int .i64 n, ?_, .int _ _⟩
      simp [Builtin.len_, ht, run_under hun, goInt]
    · rename_i hun
      obtain rfl := hu.nils_inv
      simp at he; subst he
      exact ⟨_, by simp [Builtin.len_, ht, run_under hun, goInt], .int _ _⟩
    · rename_i hun
      obtain ⟨l, c, o, _, _, _, _, _, rfl⟩ := hu.sl_inv
      simp at he; subst he
      exact ⟨_, by simp [Builtin.len_, ht, run_under hun, goInt], .int _ _⟩
    · simp at he
  · simp at he
theorem cap_sound {ats : Array TypeId} {ty : TypeId} {x r : AV} {u : Value} (hu : RelV τ ι u x) (he : capA P ats x = some r) (w : World) :
    ∃ z, (Builtin.cap_ ats ty #[u]).run P w = .ok z w ∧ RelV τ ι z r := by
  unfold capA at he
  split at he
  · rename_i t ht
    split at he
    · rename_i hun
      obtain rfl := hu.nils_inv
      simp at he; subst he
      exact ⟨_, by simp [Builtin.cap_, ht, run_under hun, goInt], .int _ _⟩
    · simp at he
  · simp at he
theorem max_sound {x y r : AV} {u v : Value} (hu : RelV τ ι u x) (hv : RelV τ ι v y) (he : max2A x y = some r) (ats : Array TypeId) (ty : TypeId) (w : World) :
    ∃ z, (Builtin.max_ ats ty #[u, v]).run P w = .ok z w ∧ RelV τ ι z r := by
  unfold max2A at he
  split at he
  · rename_i k a k' b
    obtain rfl := hu.int_inv; obtain rfl := hv.int_inv
    simp at he; subst he
    refine ⟨.int k (if b > a then b else a), by simp [Builtin.max_, Builtin.max2], ?_⟩
    rw [ltI_eq]
    by_cases hc : a < b <;> simp [hc] <;> exact .int _ _
  · simp at he
theorem min_sound {x y r : AV} {u v : Value} (hu : RelV τ ι u x) (hv : RelV τ ι v y) (he : min2A x y = some r) (ats : Array TypeId) (ty : TypeId) (w : World) :
    ∃ z, (Builtin.min_ ats ty #[u, v]).run P w = .ok z w ∧ RelV τ ι z r := by
  unfold min2A at he
  split at he
  · rename_i k a k' b
    obtain rfl := hu.int_inv; obtain rfl := hv.int_inv
    simp at he; subst he
    refine ⟨.int k (if b < a then b else a), by simp [Builtin.min_, Builtin.min2], ?_⟩
    rw [ltI_eq]
    by_cases hc : b < a <;> simp [hc] <;> exact .int _ _
  · simp at he

end
end Go.PE
