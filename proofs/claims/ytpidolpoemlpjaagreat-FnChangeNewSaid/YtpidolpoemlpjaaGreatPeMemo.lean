/-
  Part of the proof: an evaluator of the model's code, proved sound, and its run (PeMemo).
-/
import Derived.Test.YtpidolpoemlpjaaGreatPeFn
set_option linter.unusedVariables false
set_option linter.unusedSimpArgs false
set_option linter.unnecessarySimpa false
set_option linter.unusedSectionVars false
namespace Go.PE
noncomputable section
/-! Calls of functions that take and give flat values: worked out at an empty heap. -/
def forceN {α : Type} (n : Nat) (k : Nat → α) : α := Nat.rec (motive := fun _ => α) (k 0) (fun p _ => k (Nat.succ p)) n
theorem forceN_eq {α : Type} (n : Nat) (k : Nat → α) : forceN n k = k n := by cases n <;> rfl
def forceI {α : Type} (n : Int) (k : Int → α) : α := Int.rec (motive := fun _ => α) (fun a => forceN a fun a => k (.ofNat a)) (fun a => forceN a fun a => k (.negSucc a)) n
theorem forceI_eq {α : Type} (n : Int) (k : Int → α) : forceI n k = k n := by
  cases n with
  | ofNat a => exact forceN_eq a fun a => k (.ofNat a)
  | negSucc a => exact forceN_eq a fun a => k (.negSucc a)
def forceK {α : Type} (x : IntKind) (k : IntKind → α) : α :=
  match x with
  | .i8 => k .i8 | .i16 => k .i16 | .i32 => k .i32 | .i64 => k .i64 | .u8 => k .u8 | .u16 => k .u16 | .u32 => k .u32 | .u64 => k .u64
theorem forceK_eq {α : Type} (x : IntKind) (k : IntKind → α) : forceK x k = k x := by cases x <;> rfl
def forceS {α : Type} (l : List Nat) : (List Nat → α) → α :=
  List.rec (motive := fun _ => (List Nat → α) → α) (fun k => k []) (fun a _ ih k => forceN a fun a => ih fun as => k (a :: as)) l
theorem forceS_eq {α : Type} (l : List Nat) : ∀ k : List Nat → α, forceS l k = k l := by
  induction l with
  | nil => intro k; rfl
  | cons a as ih =>
    intro k
    show forceN a (fun a => forceS as fun as => k (a :: as)) = _
    rw [forceN_eq, ih]
def forceV {α : Type} (v : AV) (k : AV → α) (no : α) : α :=
  match v with
  | .int j n => forceK j fun j => forceI n fun n => k (.int j n)
  | .bool b => bi b (k (.bool true)) (k (.bool false))
  | .str l => forceS l fun l => k (.str l)
  | .flt b => forceN b fun b => k (.flt b)
  | _ => no
def AV.plain : AV → Bool
  | .int .. | .bool _ | .str _ | .flt _ => true
  | _ => false
theorem forceV_eq {α : Type} (v : AV) (k : AV → α) (no : α) : forceV v k no = if v.plain = true then k v else no := by
  cases v with
  | int j n => show forceK j (fun j => forceI n fun n => k (.int j n)) = k (.int j n); rw [forceK_eq, forceI_eq]
  | bool b => cases b <;> rfl
  | str l => show forceS l (fun l => k (.str l)) = k (.str l); rw [forceS_eq]
  | flt b => show forceN b (fun b => k (.flt b)) = k (.flt b); rw [forceN_eq]
  | _ => rfl
def forceA {α : Type} (l : List AV) : (List AV → α) → α → α :=
  List.rec (motive := fun _ => (List AV → α) → α → α) (fun k _ => k []) (fun a _ ih k no => forceV a (fun a => ih (fun as => k (a :: as)) no) no) l
theorem forceA_eq {α : Type} (l : List AV) : ∀ (k : List AV → α) (no : α), forceA l k no = if l.all AV.plain = true then k l else no := by
  induction l with
  | nil => intro k no; rfl
  | cons a as ih =>
    intro k no
    show forceV a (fun a => forceA as (fun as => k (a :: as)) no) no = _
    rw [forceV_eq, List.all_cons]
    by_cases ha : a.plain = true
    · rw [if_pos ha, ih, ha]; simp
    · rw [if_neg ha]; simp [ha]
def plainR (r : AV) (h : Hp) (no : Option (AV × Hp)) : Option (AV × Hp) := forceV r (fun r => some (r, h)) no
def pureR (h : Hp) (no : Option (AV × Hp)) (x : Option (AV × Hp)) : Option (AV × Hp) :=
  match x with
  | some (r, _) => plainR r h no
  | none => no
def hp0 : Hp := ⟨.lf, 0, 0⟩
/-- Functions of `tab` at plain arguments: by `pc`, at an empty heap. -/
def memoW (tab : FuncId → Bool) (pc : Call) (call : Call) : Call := fun f args h =>
  bi (tab f) (forceA args (fun as => pureR h (call f args h) (pc f as hp0)) (call f args h)) (call f args h)
theorem memoW_cases {tab : FuncId → Bool} {pc call : Call} {f : FuncId} {args : List AV} {h h' : Hp} {r : AV} (he : memoW tab pc call f args h = some (r, h')) :
    call f args h = some (r, h') ∨ (args.all AV.plain = true ∧ r.plain = true ∧ h' = h ∧ ∃ h2, pc f args hp0 = some (r, h2)) := by
  unfold memoW at he
  rw [bi_eq] at he
  cases ht : tab f with
  | false => rw [ht] at he; exact .inl he
  | true =>
    rw [ht] at he
    simp only [cond_true] at he
    rw [forceA_eq] at he
    by_cases ha : args.all AV.plain = true
    · rw [if_pos ha] at he
      unfold pureR at he
      split at he
      · rename_i r2 h2 hp
        unfold plainR at he
        rw [forceV_eq] at he
        by_cases hr : r2.plain = true
        · rw [if_pos hr] at he
          simp only [Option.some.injEq, Prod.mk.injEq] at he
          obtain ⟨rfl, rfl⟩ := he
          exact .inr ⟨ha, hr, rfl, h2, hp⟩
        · rw [if_neg hr] at he; exact .inl he
      · exact .inl he
    · rw [if_neg ha] at he; exact .inl he

section
variable {P : Program} {τ : Nat → Value} {B : Base} {ι : Emb} {h : Hp} {w : World}
theorem RelV.plain {ι ι' : Emb} {v : Value} {a : AV} (h : RelV τ ι v a) (ha : a.plain = true) : RelV τ ι' v a := by
  cases h <;> first | (simp [AV.plain] at ha; done) | constructor
theorem RelL.plain {ι ι' : Emb} {vs : List Value} {as : List AV} (h : RelL τ ι vs as) (ha : as.all AV.plain = true) : RelL τ ι' vs as :=
  ⟨h.1, fun i v a h1 h2 => (h.2 i v a h1 h2).plain (List.all_eq_true.1 ha a (List.mem_of_getElem? h2))⟩
/-- What was there stays: the relation stays. -/
theorem Rel.kept_on {w' : World} {t : Nat} (r : Rel τ B ι h w) (k : Kept ⟨w, fun _ _ => False, t⟩ w') : Rel τ B ι h w' := by
  have hsz := r.kept.size
  have hblk : ∀ i, i < w.heap.size → w'.heap[i]? = w.heap[i]? := fun i hi => k.blk i hi (fun _ h => h)
  have hcell : ∀ i x, i < w.heap.size → w'.cell? ⟨i, x, none⟩ = w.cell? ⟨i, x, none⟩ := fun i x hi => k.cell i x hi (fun h => h)
  refine ⟨⟨k.os.trans r.kept.os, k.tape.trans r.kept.tape, k.output.trans r.kept.output, Nat.le_trans hsz k.size, ?_, ?_, ?_⟩, r.dom, r.small, ?_, ?_, r.apart, r.own⟩
  · intro i hi hO; rw [hblk i (Nat.lt_of_lt_of_le hi hsz)]; exact r.kept.blk i hi hO
  · intro i x hi hO; rw [hcell i x (Nat.lt_of_lt_of_le hi hsz)]; exact r.kept.cell i x hi hO
  · intro i x hi; rw [k.frz i x (Nat.lt_of_lt_of_le hi hsz)]; exact r.kept.frz i x hi
  · intro id l cs hid hc
    have hk := r.cells id l cs hid hc
    refine ⟨Nat.lt_of_lt_of_le hk.1 k.size, hk.2.1, fun x hx => ?_, fun x a ha => ?_⟩
    · have e1 : w'.cell? (l.at x) = w.cell? (l.at x) := hcell l.b (l.o + x) hk.1
      have e2 : w'.frozen? (l.at x) = w.frozen? (l.at x) := k.frz l.b (l.o + x) hk.1
      rw [e1, e2]; exact hk.2.2.1 x hx
    · have e1 : w'.cell? (l.at x) = w.cell? (l.at x) := hcell l.b (l.o + x) hk.1
      rw [e1]; exact hk.2.2.2 x a ha
  · intro id l es hid hc
    obtain ⟨k0, k1, ents, c, k2, k3, k4⟩ := r.map id l es hid hc
    have hlb := (Array.getElem?_eq_some_iff.1 k2).1
    exact ⟨k0, k1, ents, c, by rw [hblk l.b hlb]; exact k2, k3, k4⟩
theorem memo_sound {Z : Zed} {tab : FuncId → Bool} {pc call : Call} (hp : CallSound P τ Z pc) (hps : CallStp pc) (hc : CallSound P τ Z call) (hcs : CallStp call) :
    CallSound P τ Z (memoW tab pc call) ∧ CallStp (memoW tab pc call) := by
  have wf0 : hp0.Wf := ⟨Nat.zero_le _, fun id _ => rfl⟩
  refine ⟨fun f args h r h' he hw => ?_, fun f args h r h' he hw => ?_⟩
  · rcases memoW_cases he with he | ⟨ha, hr, rfl, h2, he⟩
    · exact hc f args h r h' he hw
    · obtain ⟨g1, g2⟩ := hp f args hp0 r h2 he wf0
      refine ⟨g1, fun B ι w cargs hB hargs hrel hto => ?_⟩
      have s2 := (hps f args hp0 r h2 he wf0).wf.1
      have hrel0 : Rel τ ⟨w, fun _ _ => False, maxIds⟩ (fun _ => none) hp0 w :=
        ⟨Kept.refl _ _ _, fun id l h => by simp at h, ⟨Nat.zero_le _, Nat.le_refl _⟩, fun id l cs h => by simp at h, fun id l es h => by simp at h, fun id id' l l' _ h => by simp at h, fun id l h => by simp at h⟩
      have hB0 : BOk Z ⟨w, fun _ _ => False, maxIds⟩ := by
        intro k x v hz
        obtain ⟨h1, h3, h4⟩ := hB k x v hz
        exact ⟨Nat.lt_of_lt_of_le h1 hrel.kept.size, fun h => h, (hrel.kept.cell k x h1 h3).trans h4⟩
      refine (g2 ⟨w, fun _ _ => False, maxIds⟩ (fun _ => none) w cargs hB0 (hargs.plain ha) hrel0 s2).mono ?_
      rintro e w' ⟨v, ι', rfl, k1, k2, k3⟩
      exact ⟨v, ι, rfl, k1.plain hr, hrel.kept_on k2.kept, Ext.refl ι _⟩
  · rcases memoW_cases he with he | ⟨ha, hr, rfl, h2, he⟩
    · exact hcs f args h r h' he hw
    · exact Stp.refl hw
end
end
end Go.PE
