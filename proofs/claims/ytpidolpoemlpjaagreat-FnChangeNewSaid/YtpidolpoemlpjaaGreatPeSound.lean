/-
  Part of the proof: an evaluator of the model's code, proved sound, and its run (PeSound).
-/
import Derived.Test.YtpidolpoemlpjaaGreatPeRel
import Derived.Below
import Derived.LoopN
import Derived.Laws.IdiomCopy
set_option linter.unusedVariables false
set_option linter.unusedSimpArgs false
set_option linter.unnecessarySimpa false
set_option linter.unusedSectionVars false
namespace Go.PE
open Go.RowKit (Below)

structure Loc where
  b : Nat
  o : Nat
  ext : Nat
abbrev Emb := Nat → Option Loc
def Loc.at (l : Loc) (x : Nat) : Addr := ⟨l.b, l.o + x, none⟩

section
variable (τ : Nat → Value)

/-- A value of the model and an abstract one, where `ι` tells where the blocks lie. -/
inductive RelV (ι : Emb) : Value → AV → Prop
  | bool (b : Bool) : RelV ι (.bool b) (.bool b)
  | int (k : IntKind) (n : Int) : RelV ι (.int k n) (.int k n)
  | flt (b : Nat) : RelV ι (.float .f64 b) (.flt b)
  | str (s : ByteArray) : RelV ι (.string s) (.str (strOf s))
  | nilp : RelV ι (.pointer none) .nilp
  | ptr (id off : Nat) (l : Loc) : ι id = some l → RelV ι (.pointer (some (l.at off))) (.ptr id off)
  | nils : RelV ι (.slice none 0 0) .nils
  | sl (id off len cap sz c o' : Nat) (l : Loc) : ι id = some l → len ≤ cap → cap ≤ c → off + c * sz ≤ l.ext → (c ≠ 0 → o' = off) → RelV ι (.slice (some (l.at o')) len c) (.sl id off len cap sz)
  | nilm : RelV ι (.map none) .nilm
  | mp (id : Nat) (l : Loc) : ι id = some l → RelV ι (.map (some l.b)) (.mp id)
  | nilf : RelV ι .nilFunc .nilf
  | fn (f : Nat) (xs ys : Array Value) (as bs : List AV) : xs.size = as.length → (∀ (i : Nat) (v : Value) (a : AV), xs[i]? = some v → as[i]? = some a → RelV ι v a) →
      ys.size = bs.length → (∀ (i : Nat) (v : Value) (a : AV), ys[i]? = some v → bs[i]? = some a → RelV ι v a) → RelV ι (.func (.func f) xs ys) (.fn f as bs)
  | agg (xs : Array Value) (as : List AV) : xs.size = as.length → (∀ (i : Nat) (v : Value) (a : AV), xs[i]? = some v → as[i]? = some a → RelV ι v a) → RelV ι (.agg xs) (.agg as)
  | tup (xs : Array Value) (as : List AV) : xs.size = as.length → (∀ (i : Nat) (v : Value) (a : AV), xs[i]? = some v → as[i]? = some a → RelV ι v a) → RelV ι (.tuple xs) (.tup as)
  | tok (i : Nat) : RelV ι (τ i) (.tok i)
  | cls (m r : Nat) (n : Nat) : n % m = r → RelV ι (.int .i64 (Int.ofNat n)) (.cls m r)
  | dead (v : Value) : RelV ι v .dead

def Sub (ι ι' : Emb) : Prop := ∀ id l, ι id = some l → ι' id = some l
theorem Sub.refl (ι : Emb) : Sub ι ι := fun _ _ h => h
theorem Sub.trans {a b c : Emb} (h : Sub a b) (k : Sub b c) : Sub a c := fun id l x => k id l (h id l x)

variable {τ}
theorem RelV.mono {ι ι' : Emb} (hs : Sub ι ι') {v : Value} {a : AV} (h : RelV τ ι v a) : RelV τ ι' v a := by
  induction h with
  | bool b => exact .bool b
  | int k n => exact .int k n
  | flt b => exact .flt b
  | str s => exact .str s
  | nilp => exact .nilp
  | ptr id off l h => exact .ptr id off l (hs _ _ h)
  | nils => exact .nils
  | sl id off len cap sz c o' l h1 h2 h3 h4 h5 => exact .sl id off len cap sz c o' l (hs _ _ h1) h2 h3 h4 h5
  | nilm => exact .nilm
  | mp id l h => exact .mp id l (hs _ _ h)
  | nilf => exact .nilf
  | fn f xs ys as bs h1 _ h3 _ ih1 ih2 => exact .fn f xs ys as bs h1 ih1 h3 ih2
  | agg xs as h _ ih => exact .agg xs as h ih
  | tup xs as h _ ih => exact .tup xs as h ih
  | tok i => exact .tok i
  | cls m r n h => exact .cls m r n h
  | dead v => exact .dead v

/-- Rows of values. -/
def RelL (τ : Nat → Value) (ι : Emb) (vs : List Value) (as : List AV) : Prop :=
  vs.length = as.length ∧ ∀ (i : Nat) (v : Value) (a : AV), vs[i]? = some v → as[i]? = some a → RelV τ ι v a
theorem RelL.nil {ι : Emb} : RelL τ ι [] [] := ⟨rfl, by simp⟩
theorem RelL.cons {ι : Emb} {v : Value} {a : AV} {vs : List Value} {as : List AV} (h : RelV τ ι v a) (k : RelL τ ι vs as) : RelL τ ι (v :: vs) (a :: as) := by
  refine ⟨by simp [k.1], fun i x y h1 h2 => ?_⟩
  cases i with
  | zero => simp at h1 h2; subst h1; subst h2; exact h
  | succ i => simp at h1 h2; exact k.2 i x y h1 h2
theorem RelL.cons_inv {ι : Emb} {v : Value} {a : AV} {vs : List Value} {as : List AV} (h : RelL τ ι (v :: vs) (a :: as)) : RelV τ ι v a ∧ RelL τ ι vs as :=
  ⟨h.2 0 v a rfl rfl, by have := h.1; simp at this; exact this, fun i x y h1 h2 => h.2 (i + 1) x y (by simpa using h1) (by simpa using h2)⟩
theorem RelL.nil_inv {ι : Emb} {vs : List Value} (h : RelL τ ι vs []) : vs = [] := by
  have := h.1; simpa using this
theorem RelL.cons_inv' {ι : Emb} {a : AV} {vs : List Value} {as : List AV} (h : RelL τ ι vs (a :: as)) : ∃ v vs', vs = v :: vs' ∧ RelV τ ι v a ∧ RelL τ ι vs' as := by
  cases vs with
  | nil => have := h.1; simp at this
  | cons v vs => exact ⟨v, vs, rfl, h.cons_inv⟩
theorem RelL.mono {ι ι' : Emb} (hs : Sub ι ι') {vs : List Value} {as : List AV} (h : RelL τ ι vs as) : RelL τ ι' vs as :=
  ⟨h.1, fun i v a h1 h2 => (h.2 i v a h1 h2).mono hs⟩
theorem RelL.append {ι : Emb} {vs us : List Value} {as bs : List AV} (h : RelL τ ι vs as) (k : RelL τ ι us bs) : RelL τ ι (vs ++ us) (as ++ bs) := by
  refine ⟨by simp [h.1, k.1], fun i v a h1 h2 => ?_⟩
  by_cases hi : i < vs.length
  · rw [List.getElem?_append_left hi] at h1
    rw [List.getElem?_append_left (h.1 ▸ hi)] at h2
    exact h.2 i v a h1 h2
  · rw [List.getElem?_append_right (by omega)] at h1
    rw [List.getElem?_append_right (by have := h.1; omega)] at h2
    rw [← h.1] at h2
    exact k.2 _ v a h1 h2
theorem RelL.map {α : Type} {ι : Emb} {f : α → Value} {g : α → AV} (l : List α) (h : ∀ x ∈ l, RelV τ ι (f x) (g x)) : RelL τ ι (l.map f) (l.map g) := by
  induction l with
  | nil => exact .nil
  | cons x xs ih => exact .cons (h x (by simp)) (ih fun y hy => h y (by simp [hy]))
theorem RelL.agg {ι : Emb} {xs : Array Value} {as : List AV} (h : RelL τ ι xs.toList as) : RelV τ ι (.agg xs) (.agg as) :=
  .agg xs as (by simpa using h.1) fun i v a h1 h2 => h.2 i v a (by simpa using h1) h2
theorem RelL.tup {ι : Emb} {xs : Array Value} {as : List AV} (h : RelL τ ι xs.toList as) : RelV τ ι (.tuple xs) (.tup as) :=
  .tup xs as (by simpa using h.1) fun i v a h1 h2 => h.2 i v a (by simpa using h1) h2
theorem RelV.agg_inv {ι : Emb} {v : Value} {as : List AV} (h : RelV τ ι v (.agg as)) : ∃ xs : Array Value, v = .agg xs ∧ RelL τ ι xs.toList as := by
  cases h with
  | agg xs _ h k => exact ⟨xs, rfl, by simpa using h, fun i v a h1 h2 => k i v a (by simpa using h1) h2⟩
theorem RelV.tup_inv {ι : Emb} {v : Value} {as : List AV} (h : RelV τ ι v (.tup as)) : ∃ xs : Array Value, v = .tuple xs ∧ RelL τ ι xs.toList as := by
  cases h with
  | tup xs _ h k => exact ⟨xs, rfl, by simpa using h, fun i v a h1 h2 => k i v a (by simpa using h1) h2⟩
theorem RelL.take {ι : Emb} {vs : List Value} {as : List AV} (h : RelL τ ι vs as) (n : Nat) : RelL τ ι (vs.take n) (as.take n) := by
  refine ⟨by simp [h.1], fun i v a h1 h2 => ?_⟩
  rw [List.getElem?_take] at h1 h2
  split at h1
  · rename_i hi; rw [if_pos hi] at h2; exact h.2 i v a h1 h2
  · simp at h1

/-- What an abstract value of one cell stands for is the value of one cell. -/
theorem RelV.one {ι : Emb} (hτ : ∀ i, (τ i).oneCell' = true) {v : Value} {a : AV} (h : RelV τ ι v a) (ha : a.one = true) : v.oneCell' = true := by
  cases h <;> first | rfl | (simp [AV.one] at ha; done) | exact hτ _

def AV.flat : AV → Bool
  | .agg _ | .tup _ | .dead => false
  | _ => true

/-- The cells of a value. -/
theorem RelV.cells {ι : Emb} (hτ : ∀ i, (τ i).oneCell' = true) {v : Value} {a : AV} (h : RelV τ ι v a) (ha : a.cells.all AV.one = true) :
    RelL τ ι v.cells.toList a.cells ∧ ∀ x ∈ v.cells.toList, x.oneCell' = true := by
  by_cases hagg : ∃ as, a = .agg as
  · obtain ⟨as, rfl⟩ := hagg
    obtain ⟨xs, rfl, hl⟩ := h.agg_inv
    refine ⟨hl, fun x hx => ?_⟩
    obtain ⟨i, hi, rfl⟩ := List.getElem_of_mem hx
    have hi' : i < as.length := hl.1 ▸ hi
    have hr := hl.2 i _ _ (List.getElem?_eq_getElem hi) (List.getElem?_eq_getElem hi')
    exact hr.one hτ (List.all_eq_true.1 ha _ (List.getElem_mem hi'))
  · have hc : a.cells = [a] := by cases a <;> first | rfl | exact absurd ⟨_, rfl⟩ hagg
    rw [hc] at ha ⊢
    simp at ha
    have h1 := h.one hτ ha
    have hv : v.cells = #[v] := by cases v <;> first | rfl | (simp [Value.oneCell'] at h1)
    rw [hv]
    exact ⟨.cons h .nil, by simpa using h1⟩

/-! ## The heap -/
structure Base where
  w0 : World
  O : Nat → Nat → Prop
  top : Nat

/-- What was there is as it was, but for what may be written. -/
structure Kept (B : Base) (w : World) : Prop where
  os : w.os = B.w0.os
  tape : w.tape = B.w0.tape
  output : w.output = B.w0.output
  size : B.w0.heap.size ≤ w.heap.size
  blk : ∀ k, k < B.w0.heap.size → (∀ x, ¬ B.O k x) → w.heap[k]? = B.w0.heap[k]?
  cell : ∀ k x, k < B.w0.heap.size → ¬ B.O k x → w.cell? ⟨k, x, none⟩ = B.w0.cell? ⟨k, x, none⟩
  frz : ∀ k x, k < B.w0.heap.size → w.frozen? ⟨k, x, none⟩ = B.w0.frozen? ⟨k, x, none⟩

def BlkOk (τ : Nat → Value) (ι : Emb) (w : World) (l : Loc) (cs : List AV) : Prop :=
  l.b < w.heap.size ∧ cs.length ≤ l.ext ∧ (∀ x, x < l.ext → (w.cell? (l.at x)).isSome = true ∧ w.frozen? (l.at x) = false) ∧
  ∀ (x : Nat) (a : AV), cs[x]? = some a → ∃ v, w.cell? (l.at x) = some v ∧ RelV τ ι v a ∧ v.oneCell' = true

def MapOk (τ : Nat → Value) (ι : Emb) (w : World) (l : Loc) (es : List (AV × AV)) : Prop :=
  l.o = 0 ∧ l.ext = 1 ∧ ∃ ents clock, w.heap[l.b]? = some (.map ents clock) ∧ ents.size = es.length ∧
  ∀ (i : Nat) (e : MapEntry) (a : AV × AV), ents[i]? = some e → es[i]? = some a → RelV τ ι e.key a.1 ∧ RelV τ ι e.val a.2

def Apart (l l' : Loc) : Prop := l.b = l'.b → ∀ x, l.o ≤ x → x < l.o + l.ext → l'.o ≤ x → x < l'.o + l'.ext → False

structure Rel (τ : Nat → Value) (B : Base) (ι : Emb) (h : Hp) (w : World) : Prop where
  kept : Kept B w
  dom : ∀ id l, ι id = some l → id < maxIds ∧ (id < h.next ∨ B.top ≤ id)
  small : h.next ≤ B.top ∧ B.top ≤ maxIds
  cells : ∀ id l cs, ι id = some l → h.get id = some (.cells cs) → BlkOk τ ι w l cs
  map : ∀ id l es, ι id = some l → h.get id = some (.map es) → MapOk τ ι w l es
  apart : ∀ id id' l l', id ≠ id' → ι id = some l → ι id' = some l' → (h.get id).isSome = true → (h.get id').isSome = true → Apart l l'
  own : ∀ id l, ι id = some l → (h.get id).isSome = true → ∀ x, l.o ≤ x → x < l.o + l.ext → B.w0.heap.size ≤ l.b ∨ B.O l.b x

def Ext (ι : Emb) (h : Hp) (ι' : Emb) (h' : Hp) : Prop :=
  Sub ι ι' ∧ h.next ≤ h'.next ∧ ∀ id l, ι' id = some l → ι id = some l ∨ (h.next ≤ id ∧ id < h'.next)
theorem Ext.refl (ι : Emb) (h : Hp) : Ext ι h ι h := ⟨Sub.refl ι, Nat.le_refl _, fun _ _ x => .inl x⟩
theorem Ext.trans {ι₁ ι₂ ι₃ : Emb} {h₁ h₂ h₃ : Hp} (a : Ext ι₁ h₁ ι₂ h₂) (b : Ext ι₂ h₂ ι₃ h₃) : Ext ι₁ h₁ ι₃ h₃ :=
  ⟨a.1.trans b.1, Nat.le_trans a.2.1 b.2.1, fun id l x => (b.2.2 id l x).elim (fun y => (a.2.2 id l y).elim .inl fun z => .inr ⟨z.1, Nat.lt_of_lt_of_le z.2 b.2.1⟩) (fun y => .inr ⟨Nat.le_trans a.2.1 y.1, y.2⟩)⟩
theorem Ext.same {ι : Emb} {h h' : Hp} (e : h.next ≤ h'.next) : Ext ι h ι h' := ⟨Sub.refl ι, e, fun _ _ x => .inl x⟩

/-! ### The trie's laws at the heap -/
theorem Hp.get_put {h : Hp} {id : Nat} {b : Option Blk} (hid : id < maxIds) (m : Nat) : (h.put id b).get m = if m = id then b else h.get m := by
  unfold Hp.put Hp.get
  exact Tr.get_set depthBits h.t id b m (by unfold maxIds at hid; unfold depthBits; omega)
theorem Hp.new_spec {h h' : Hp} {b : Blk} (e : h.new b = some h') : h'.next = h.next + 1 ∧ h.next < maxIds ∧ h'.lw = h.lw ∧ ∀ m, h'.get m = if m = h.next then some b else h.get m := by
  unfold Hp.new at e
  cases hb : Nat.blt h.next maxIds with
  | false => rw [hb] at e; simp at e
  | true =>
    rw [hb] at e; simp at e; subst e
    have hlt : h.next < maxIds := by simpa [Nat.blt_eq] using hb
    refine ⟨rfl, hlt, rfl, fun m => ?_⟩
    exact Tr.get_set depthBits h.t h.next (some b) m (by unfold maxIds at hlt; unfold depthBits; omega)
theorem Hp.cells_get {h : Hp} {id : Nat} {cs : List AV} (e : h.cells id = some cs) : h.get id = some (.cells cs) := by
  unfold Hp.cells at e
  split at e
  · rename_i c hc; simp at e; subst e; exact hc
  · simp at e

end
end Go.PE
