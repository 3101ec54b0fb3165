/-
  Part of the proof: an evaluator of the model's code, proved sound, and its run (PeRel).
-/
import Derived.Test.YtpidolpoemlpjaaGreatPeCore
set_option linter.unusedVariables false
set_option linter.unusedSimpArgs false
set_option linter.unnecessarySimpa false
set_option linter.unusedSectionVars false
namespace Go.PE

/-! ## Lists -/
theorem takeN_spec : ∀ (n : Nat) (cs l : List AV), takeN n cs = some l → l = cs.take n ∧ n ≤ cs.length := by
  intro n
  induction n with
  | zero => intro cs l h; simp [takeN] at h; simp [h]
  | succ n ih =>
    intro cs l h
    cases cs with
    | nil => simp [takeN] at h
    | cons x xs =>
      simp only [takeN, Option.map_eq_some_iff] at h
      obtain ⟨l', h', rfl⟩ := h
      obtain ⟨rfl, hl⟩ := ih xs l' h'
      simp; omega

theorem cut_spec {off n : Nat} {cs l : List AV} (h : cut off n cs = some l) :
    l.length = n ∧ (n = 0 ∨ off + n ≤ cs.length) ∧ ∀ i, i < n → l[i]? = cs[off + i]? := by
  obtain ⟨rfl, hn⟩ := takeN_spec _ _ _ h
  simp at hn
  refine ⟨by simp; omega, by omega, fun i hi => ?_⟩
  rw [List.getElem?_take]
  simp [hi]

theorem over_spec : ∀ (off : Nat) (vs cs cs' : List AV), over off vs cs = some cs' →
    cs'.length = cs.length ∧ (off + vs.length ≤ cs.length) ∧
    ∀ j, cs'[j]? = if off ≤ j ∧ j < off + vs.length then vs[j - off]? else cs[j]? := by
  intro off
  induction off with
  | zero =>
    intro vs
    induction vs with
    | nil => intro cs cs' h; simp [over] at h; subst h; simp
    | cons v vs ih =>
      intro cs cs' h
      cases cs with
      | nil => simp [over] at h
      | cons c cs =>
        simp only [over, Option.map_eq_some_iff] at h
        obtain ⟨l, hl, rfl⟩ := h
        obtain ⟨h1, h2, h3⟩ := ih cs l hl
        refine ⟨by simp [h1], by simp; omega, fun j => ?_⟩
        cases j with
        | zero => simp
        | succ j =>
          have := h3 j
          simp only [List.getElem?_cons_succ]
          rw [this]
          by_cases hj : j < vs.length
          · rw [if_pos (by omega), if_pos (by simp; omega)]; simp
          · rw [if_neg (by omega), if_neg (by simp; omega)]
  | succ off ih =>
    intro vs cs cs' h
    cases cs with
    | nil => simp [over] at h
    | cons c cs =>
      simp only [over, Option.map_eq_some_iff] at h
      obtain ⟨l, hl, rfl⟩ := h
      obtain ⟨h1, h2, h3⟩ := ih vs cs l hl
      refine ⟨by simp [h1], by simp; omega, fun j => ?_⟩
      cases j with
      | zero => rw [if_neg (by omega)]; simp
      | succ j =>
        simp only [List.getElem?_cons_succ]
        rw [h3 j]
        by_cases hj : off ≤ j ∧ j < off + vs.length
        · rw [if_pos hj, if_pos (by omega)]; congr 1; omega
        · rw [if_neg hj, if_neg (by omega)]

theorem beqS (n : Nat) : Nat.beq (n + 1) 0 = false := rfl
theorem Tm.at_eq : ∀ (tm : List AV) (n : Nat), Tm.at tm n = tm[n]?.getD .dead := by
  intro tm
  induction tm with
  | nil => intro n; simp [Tm.at_nil, Tm.at_cons]
  | cons x xs ih =>
    intro n
    cases n with
    | zero => simp [Tm.at_nil, Tm.at_cons]
    | succ n => simp [Tm.at_cons, ih, beqS]
theorem Tm.put_length : ∀ (tm : List AV) (n : Nat) (v : AV), (Tm.put tm n v).length = tm.length := by
  intro tm
  induction tm with
  | nil => intro n v; rfl
  | cons x xs ih =>
    intro n v
    cases n with
    | zero => rfl
    | succ n => simp [Tm.put_cons, ih, beqS]
theorem Tm.put_get : ∀ (tm : List AV) (n : Nat) (v : AV) (j : Nat), (Tm.put tm n v)[j]? = if j = n ∧ n < tm.length then some v else tm[j]? := by
  intro tm
  induction tm with
  | nil => intro n v j; simp [Tm.put_nil, Tm.put_cons]
  | cons x xs ih =>
    intro n v j
    cases n with
    | zero =>
      cases j with
      | zero => simp [Tm.put_nil, Tm.put_cons]
      | succ j => simp [Tm.put_nil, Tm.put_cons]
    | succ n =>
      cases j with
      | zero => simp [Tm.put_cons, beqS]
      | succ j => simp [Tm.put_cons, ih, beqS]

/-! ## The trie -/
theorem Tr.get_set : ∀ (f : Nat) (t : Tr) (n : Nat) (b : Option Blk) (m : Nat), n < 2 ^ f - 1 → (Tr.set b f t n).get m = if m = n then b else t.get m := by
  intro f
  induction f with
  | zero => intro t n b m h; simp at h
  | succ f ih =>
    intro t n b m h
    have hp : 2 ^ (f + 1) = 2 * 2 ^ f := by rw [Nat.pow_succ]; omega
    have key : ∀ k, k ≠ 0 → (k % 2 = 1 → 2 * (k / 2) + 1 = k) ∧ (k % 2 ≠ 1 → 2 * (k / 2 - 1) + 2 = k) := fun k hk => ⟨fun _ => by omega, fun _ => by omega⟩
    cases t with
    | lf =>
      rw [Tr.set_lf]
      by_cases h0 : n = 0
      · subst h0
        simp only [cond_true, Tr.get_lf, Tr.get_nd, Nat.beq_refl]
        by_cases hm : m = 0
        · subst hm; simp
        · have : Nat.beq m 0 = false := by rw [← Bool.not_eq_true, Nat.beq_eq]; exact hm
          simp [this, hm]
      · have hb0 : Nat.beq n 0 = false := by rw [← Bool.not_eq_true, Nat.beq_eq]; exact h0
        rw [hb0]; simp only [cond_false]
        by_cases h1 : n % 2 = 1
        · have hb1 : Nat.beq (n % 2) 1 = true := by rw [Nat.beq_eq]; exact h1
          rw [hb1]; simp only [cond_true, Tr.get_lf, Tr.get_nd]
          by_cases hm : m = 0
          · subst hm; simp; intro h; omega
          · have hm0 : Nat.beq m 0 = false := by rw [← Bool.not_eq_true, Nat.beq_eq]; exact hm
            rw [hm0]; simp only [cond_false]
            by_cases hm1 : m % 2 = 1
            · have : Nat.beq (m % 2) 1 = true := by rw [Nat.beq_eq]; exact hm1
              rw [this]; simp only [cond_true]
              rw [ih _ _ _ _ (by omega)]
              simp only [Tr.get_lf, Tr.get_nd]
              by_cases e : m = n
              · subst e; simp
              · rw [if_neg e, if_neg (by omega)]
            · have : Nat.beq (m % 2) 1 = false := by rw [← Bool.not_eq_true, Nat.beq_eq]; exact hm1
              rw [this]; simp only [cond_false]
              rw [if_neg (by omega)]
        · have hb1 : Nat.beq (n % 2) 1 = false := by rw [← Bool.not_eq_true, Nat.beq_eq]; exact h1
          rw [hb1]; simp only [cond_false, Tr.get_lf, Tr.get_nd]
          by_cases hm : m = 0
          · subst hm; simp; intro h; omega
          · have hm0 : Nat.beq m 0 = false := by rw [← Bool.not_eq_true, Nat.beq_eq]; exact hm
            rw [hm0]; simp only [cond_false]
            by_cases hm1 : m % 2 = 1
            · have : Nat.beq (m % 2) 1 = true := by rw [Nat.beq_eq]; exact hm1
              rw [this]; simp only [cond_true]
              rw [if_neg (by omega)]
            · have : Nat.beq (m % 2) 1 = false := by rw [← Bool.not_eq_true, Nat.beq_eq]; exact hm1
              rw [this]; simp only [cond_false]
              rw [ih _ _ _ _ (by omega)]
              simp only [Tr.get_lf, Tr.get_nd]
              by_cases e : m = n
              · subst e; simp
              · rw [if_neg e, if_neg (by omega)]
    | nd v l r =>
      rw [Tr.set_nd]
      by_cases h0 : n = 0
      · subst h0
        simp only [cond_true, Tr.get_lf, Tr.get_nd, Nat.beq_refl]
        by_cases hm : m = 0
        · subst hm; simp
        · have : Nat.beq m 0 = false := by rw [← Bool.not_eq_true, Nat.beq_eq]; exact hm
          simp [this, hm]
      · have hb0 : Nat.beq n 0 = false := by rw [← Bool.not_eq_true, Nat.beq_eq]; exact h0
        rw [hb0]; simp only [cond_false]
        by_cases h1 : n % 2 = 1
        · have hb1 : Nat.beq (n % 2) 1 = true := by rw [Nat.beq_eq]; exact h1
          rw [hb1]; simp only [cond_true, Tr.get_lf, Tr.get_nd]
          by_cases hm : m = 0
          · subst hm; simp; intro h; omega
          · have hm0 : Nat.beq m 0 = false := by rw [← Bool.not_eq_true, Nat.beq_eq]; exact hm
            rw [hm0]; simp only [cond_false]
            by_cases hm1 : m % 2 = 1
            · have : Nat.beq (m % 2) 1 = true := by rw [Nat.beq_eq]; exact hm1
              rw [this]; simp only [cond_true]
              rw [ih _ _ _ _ (by omega)]
              by_cases e : m = n
              · subst e; simp
              · rw [if_neg e, if_neg (by omega)]
            · have : Nat.beq (m % 2) 1 = false := by rw [← Bool.not_eq_true, Nat.beq_eq]; exact hm1
              rw [this]; simp only [cond_false]
              rw [if_neg (by omega)]
        · have hb1 : Nat.beq (n % 2) 1 = false := by rw [← Bool.not_eq_true, Nat.beq_eq]; exact h1
          rw [hb1]; simp only [cond_false, Tr.get_lf, Tr.get_nd]
          by_cases hm : m = 0
          · subst hm; simp; intro h; omega
          · have hm0 : Nat.beq m 0 = false := by rw [← Bool.not_eq_true, Nat.beq_eq]; exact hm
            rw [hm0]; simp only [cond_false]
            by_cases hm1 : m % 2 = 1
            · have : Nat.beq (m % 2) 1 = true := by rw [Nat.beq_eq]; exact hm1
              rw [this]; simp only [cond_true]
              rw [if_neg (by omega)]
            · have : Nat.beq (m % 2) 1 = false := by rw [← Bool.not_eq_true, Nat.beq_eq]; exact hm1
              rw [this]; simp only [cond_false]
              rw [ih _ _ _ _ (by omega)]
              by_cases e : m = n
              · subst e; simp
              · rw [if_neg e, if_neg (by omega)]
end Go.PE
