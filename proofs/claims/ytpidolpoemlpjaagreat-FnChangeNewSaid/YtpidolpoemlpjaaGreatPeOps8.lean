/-
  Part of the proof: an evaluator of the model's code, proved sound, and its run (PeOps8).
-/
import Derived.Test.YtpidolpoemlpjaaGreatPeOps7
set_option linter.unusedVariables false
set_option linter.unusedSimpArgs false
set_option linter.unnecessarySimpa false
set_option linter.unusedSectionVars false
namespace Go.PE
section
variable {P : Program} {τ : Nat → Value} {B : Base} {ι : Emb} {h : Hp} {w : World}

theorem growBy_le (n : Nat) : ∀ (r c : Nat), c ≤ n + (n + 768) / 4 + 1 → Builtin.growBy n r c ≤ n + (n + 768) / 4 + 1 := by
  intro r
  induction r with
  | zero => intro c h; simpa [Builtin.growBy] using h
  | succ r ih =>
    intro c h
    simp only [Builtin.growBy]
    split
    · exact h
    · exact ih _ (by omega)
theorem nextcap_le {n c : Nat} (h : c < n) : Builtin.nextslicecap n c ≤ 2 * n + 1000 := by
  unfold Builtin.nextslicecap
  split
  · omega
  · split
    · omega
    · have := growBy_le n 4 c (by omega)
      omega

theorem src_sound {x : AV} {sz n : Nat} {as : List AV} {u : Value} (hr : Rel τ B ι h w) (hu : RelV τ ι u x) (he : srcCells x sz h = some (as, n)) :
    ∃ vs : List Value, (∀ w, (Builtin.lenOf u).run P w = .ok n w) ∧ (∀ w', Same w w' → (Builtin.firstCells sz n u).run P w' = .ok vs.toArray w') ∧ RelL τ ι vs as ∧ (∀ v ∈ vs, v.oneCell' = true) ∧ vs.length = n * sz := by
  unfold srcCells at he
  split at he
  · obtain rfl := hu.nils_inv
    simp at he
    obtain ⟨rfl, rfl⟩ := he
    exact ⟨[], fun w => by simp [Builtin.lenOf], fun w' _ => by simp [Builtin.firstCells], .nil, by simp, by simp⟩
  · rename_i id off len cap s
    obtain ⟨l, c, o', hl, h1, h2, h3, h4, rfl⟩ := hu.sl_inv
    split at he
    · rename_i cs hcs
      cases hb : Nat.beq s sz with
      | false => rw [hb] at he; simp at he
      | true =>
        rw [hb] at he
        simp only [Nat.beq_eq] at hb
        subst hb
        simp only [cond_true, Option.map_eq_some_iff] at he
        obtain ⟨as', hcut, e⟩ := he
        simp at e
        obtain ⟨rfl, rfl⟩ := e
        obtain ⟨vs, e1, e2, e3, e4⟩ := read_cells (hr.cells id l cs hl (Hp.cells_get hcs)) hcut
        refine ⟨vs, fun w => by simp [Builtin.lenOf], fun w' sm => ?_, e3, e4, e1⟩
        by_cases h0 : len = 0
        · have : vs = [] := List.eq_nil_of_length_eq_zero (by rw [e1, h0]; simp)
          subst this; subst h0
          simp [Builtin.firstCells, loadCells, loadCellsFrom]
        · have : o' = off := h4 (by omega)
          subst this
          have := run_cells (P := P) (w := w') (l := l) (off := o') (vs := vs) (fun j v hv => by rw [cell?_heap sm.heap]; exact e2 j v hv)
          rw [e1] at this
          simp [Builtin.firstCells, this]
    · simp at he
  · rename_i l
    obtain ⟨s, rfl, rfl⟩ := hu.str_inv
    cases hb : Nat.beq sz 1 with
    | false => rw [hb] at he; simp at he
    | true =>
      rw [hb] at he
      simp only [Nat.beq_eq] at hb
      subst hb
      simp only [cond_true, Option.some.injEq, Prod.mk.injEq] at he
      obtain ⟨rfl, rfl⟩ := he
      have hex : (s.extract 0 s.size) = s := by
        apply WideShapes.bytes_inj
        simp
      refine ⟨s.data.toList.map fun b => .int .u8 b.toNat, fun w => by simp [Builtin.lenOf, strOf_length], fun w' _ => ?_, ?_, ?_, ?_⟩
      · simp only [Builtin.firstCells, strOf_length, hex, Sem.run_pure]
        congr 1
        apply Array.ext'
        simp
      · refine ⟨by simp [strOf], fun i v a h1 h2 => ?_⟩
        simp only [strOf, List.getElem?_map, Option.map_eq_some_iff] at h1 h2
        obtain ⟨b, hb, rfl⟩ := h1
        obtain ⟨k, ⟨b', hb', rfl⟩, rfl⟩ := h2
        rw [hb] at hb'
        simp at hb'
        subst hb'
        exact .int _ _
      · intro v hv
        simp at hv
        obtain ⟨b, _, rfl⟩ := hv
        rfl
      · simp [strOf]
  · simp at he

/-- The append that grows: a new row. -/
theorem grow_run (hτ : ∀ i, (τ i).oneCell' = true) {ats : Array TypeId} {ty t0 t1 elem : TypeId} {u1 : TypeDesc} {base : Option Addr} {len c n sz bytes : Nat} {x : Value} {old new : List Value} {z : AV}
    (h0 : ats[0]? = some t0) (h1 : ats[1]? = some t1) (hu0 : P.underlying t0 = some (.slice elem)) (hu1 : P.underlying t1 = some u1) (hni : isIntA P t1 = false)
    (hs : sizeA P elem = some sz) (hby : bytesA P elem = some bytes) (hz : zeroA P elem = some z) (hzl : z.cells.length = sz) (hone : z.cells.all AV.one = true) (hb1 : bytes ≤ 4096) (hb2 : 0 < bytes)
    (hneed : len + n ≤ maxNeed) (hc : c < len + n) (hl : ∀ w, (Builtin.lenOf x).run P w = .ok n w)
    (hold : ∀ w', Same w w' → (Builtin.firstCells sz len (.slice base len c)).run P w' = .ok old.toArray w') (hnew : ∀ w', Same w w' → (Builtin.firstCells sz n x).run P w' = .ok new.toArray w')
    (hol : old.length = len * sz) (hnl : new.length = n * sz) :
    ∃ w1 arr nc, Same w w1 ∧ len + n ≤ nc ∧ arr.size = nc * sz ∧ (∀ i, i < (old ++ new).length → arr[i]? = (old ++ new)[i]?) ∧
      (Builtin.append_ ats ty #[.slice base len c, x]).run P w = ((newRow elem arr).run P w1).andThen fun a w' => .ok (.slice (some a) (len + n) nc) w' := by
  obtain ⟨inf, hi1, hi2⟩ : ∃ i, (∀ w, (typeInfo elem).run P w = .ok i w) ∧ i.bytes = bytes := by
    unfold bytesA at hby
    cases hi : P.info? elem with
    | none => rw [hi] at hby; simp at hby
    | some i => rw [hi] at hby; exact ⟨i, fun w => by simp [typeInfo, hi], by simpa using hby⟩
  obtain ⟨zv, hzv, rfl⟩ : ∃ v, (∀ w, (zeroValue elem).run P w = .ok v w) ∧ z = ofConst v := by
    unfold zeroA at hz
    cases hi : P.info? elem with
    | none => rw [hi] at hz; simp at hz
    | some i =>
      rw [hi] at hz
      simp only [Option.bind_some, Option.map_eq_some_iff] at hz
      obtain ⟨v, hv, rfl⟩ := hz
      exact ⟨v, fun w => by simp [zeroValue, typeInfo, hi, hv], rfl⟩
  obtain ⟨g1, _⟩ := (relConst (τ := τ) (ι := fun _ => none) zv).cells hτ hone
  have hzs : zv.cells.size = sz := by
    have := g1.1
    simp at this; omega
  have hm : maxNeed = 16777216 := rfl
  have hmax : ¬ (((len + n : Nat) : Int) > IntKind.i64.max) := by
    have : IntKind.i64.max = 9223372036854775807 := by decide
    rw [this]; omega
  have hcap : ¬ (Builtin.nextslicecap (len + n) c * bytes > 2 ^ 48) := by
    have h1 := nextcap_le hc
    have h2 : Builtin.nextslicecap (len + n) c * bytes ≤ (2 * (len + n) + 1000) * 4096 := Nat.mul_le_mul h1 hb1
    have h3 : (2 * (len + n) + 1000) * 4096 ≤ (2 * 16777216 + 1000) * 4096 := Nat.mul_le_mul_right _ (by omega)
    omega
  generalize hq : (len + n) + w.tape w.drawn (.appendCap (len + n) c elem) % (2 ^ 63 - (len + n)) = nc
  have hsm : Same w { w with drawn := w.drawn + 1 } := ⟨rfl, rfl, rfl, rfl⟩
  refine ⟨{ w with drawn := w.drawn + 1 }, old.toArray ++ new.toArray ++ Builtin.zeroCells zv.cells (nc - (len + n)), nc, hsm, by omega, ?_, ?_, ?_⟩
  · simp only [Builtin.zeroCells, Array.size_append, Array.size_map, Array.size_range, List.size_toArray, hol, hnl, hzs]
    rw [← Nat.add_mul, ← Nat.add_mul]
    congr 1; omega
  · intro i hi
    rw [Array.getElem?_append_left (by simpa using hi)]
    rw [← Array.getElem?_toList]
    simp
  · have hzeros : (match (some t1 : Option TypeId) with
        | some xType => do pure ((← underlying xType) matches .int _)
        | none => pure false : Sem Bool).run P w = .ok false w := by
      simp only [Sem.run_bind, run_under hu1, Result.andThen_ok, Sem.run_pure]
      unfold isIntA at hni
      rw [hu1] at hni
      cases u1 <;> simp at hni <;> rfl
    have hno : ¬ (len + n ≤ c) := by omega
    have hchoose : (choose (.appendCap (len + n) c elem)).run P w = .ok nc { w with drawn := w.drawn + 1 } := by
      simp [Question.forced, Question.cut, hq]
    have h01 : (#[Value.slice base len c, x] : Array Value)[0]? = some (.slice base len c) := rfl
    have h11 : (#[Value.slice base len c, x] : Array Value)[1]? = some x := rfl
    unfold Builtin.append_
    simp only [h0, h1, h01, h11, Sem.run_bind, run_under hu0, Result.andThen_ok, run_size hs, Sem.run_pure]
    rw [run_under hu1, Result.andThen_ok]
    have hbz : ¬ (((len + n : Nat) : Int) > IntKind.i64.max ∧ (False ∨ bytes = 0)) := fun h => hmax h.1
    cases u1 <;> first
      | (unfold isIntA at hni; rw [hu1] at hni; simp at hni; done)
      | simp only [Bool.false_eq_true, if_false, Bool.not_false, if_true, Sem.run_bind, hl, Result.andThen_ok, if_neg hno, hi1, if_neg hbz, hi2, if_neg hcap, hchoose, askRoom_run, hold _ hsm, hnew _ hsm, hzv, Sem.run_pure]

/-- The append that fits. -/
theorem fit_run {ats : Array TypeId} {ty t0 t1 elem : TypeId} {u1 : TypeDesc} {base : Option Addr} {len c n sz : Nat} {x : Value} {new : List Value} {w' : World}
    (h0 : ats[0]? = some t0) (h1 : ats[1]? = some t1) (hu0 : P.underlying t0 = some (.slice elem)) (hu1 : P.underlying t1 = some u1) (hni : isIntA P t1 = false)
    (hs : sizeA P elem = some sz) (hc : len + n ≤ c) (hl : ∀ w, (Builtin.lenOf x).run P w = .ok n w)
    (hnew : (Builtin.firstCells sz n x).run P w = .ok new.toArray w)
    (hst : ∀ a, base = some a → (storeCells (a.add (len * sz)) new).run P w = .ok () w') (hno : base = none → w' = w) :
      (Builtin.append_ ats ty #[.slice base len c, x]).run P w = .ok (.slice base (len + n) c) w' := by
  have h01 : (#[Value.slice base len c, x] : Array Value)[0]? = some (.slice base len c) := rfl
  have h11 : (#[Value.slice base len c, x] : Array Value)[1]? = some x := rfl
  unfold Builtin.append_
  simp only [h0, h1, h01, h11, Sem.run_bind, run_under hu0, Result.andThen_ok, run_size hs, Sem.run_pure]
  rw [run_under hu1, Result.andThen_ok]
  cases u1 <;> first
    | (unfold isIntA at hni; rw [hu1] at hni; simp at hni; done)
    | (simp only [Bool.false_eq_true, if_false, Bool.not_false, if_true, Sem.run_bind, hl, Result.andThen_ok, if_pos hc, hnew, Sem.run_pure]
       cases base with
       | none => obtain rfl := hno rfl; simp
       | some a => simp [hst a rfl])

theorem storeCells_sound {l : Loc} {off : Nat} {vs : List Value} (hfit : ∀ j, j < vs.length → (w.cell? (l.at (off + j))).isSome = true ∧ w.frozen? (l.at (off + j)) = false) (h1 : ∀ v ∈ vs, v.oneCell' = true) :
    (storeCells (l.at off) vs).run P w = .ok () (w.setCells l.b (l.o + off) vs) := by
  have hst := run_storeCells_cells (P := P) l.b (l.o + off) vs 0 w (fun j hj => by
      have := (hfit j hj).1
      unfold Loc.at at this
      rwa [show l.o + (off + j) = l.o + off + 0 + j by omega] at this) (fun j hj => by
      have := (hfit j hj).2
      unfold Loc.at at this
      rwa [show l.o + (off + j) = l.o + off + 0 + j by omega] at this) h1
  simpa [Loc.at] using hst

theorem append_sound (hτ : ∀ i, (τ i).oneCell' = true) {ats : Array TypeId} {ty : TypeId} {s x r : AV} {u v : Value} {h' : Hp} (hr : Rel τ B ι h w) (hu : RelV τ ι u s) (hv : RelV τ ι v x)
    (he : appendA P ats s x h = some (r, h')) (hto : h'.next ≤ B.top) :
    ∃ w' ι' z, (Builtin.append_ ats ty #[u, v]).run P w = .ok z w' ∧ RelV τ ι' z r ∧ Rel τ B ι' h' w' ∧ Ext ι h ι' h' := by
  unfold appendA at he
  split at he
  · rename_i t0 t1 h0 h1
    split at he
    · rename_i elem u1 hu0 hu1
      split at he
      · rename_i sz bytes z hs hby hz
        cases hb : (!isIntA P t1 && Nat.ble bytes 4096 && Nat.blt 0 bytes && Nat.blt 0 sz && Nat.beq z.cells.length sz && z.cells.all AV.one) with
        | false => rw [hb] at he; simp at he
        | true =>
          rw [hb] at he
          simp only [cond_true] at he
          simp only [Bool.and_eq_true, Nat.beq_eq, Nat.ble_eq, Nat.blt_eq, Bool.not_eq_true'] at hb
          obtain ⟨⟨⟨⟨⟨b1, b2⟩, b3⟩, b4⟩, b5⟩, b6⟩ := hb
          split at he
          · rename_i new n hsrc
            obtain ⟨vs, s1, s2, s3, s4, s5⟩ := src_sound (P := P) hr hv hsrc
            unfold appendTo at he
            split at he
            · -- onto nil
              obtain rfl := hu.nils_inv
              cases hn : Nat.beq n 0 with
              | true =>
                rw [hn] at he
                simp only [cond_true, Option.some.injEq, Prod.mk.injEq] at he
                obtain ⟨rfl, rfl⟩ := he
                simp only [Nat.beq_eq] at hn
                subst hn
                refine ⟨w, ι, .slice none 0 0, ?_, .nils, hr, Ext.refl _ _⟩
                exact fit_run (w' := w) h0 h1 hu0 hu1 b1 hs (by omega) s1 (s2 w (Same.refl w)) (fun a ha => by simp at ha) (fun _ => rfl)
              | false =>
                rw [hn] at he
                simp only [cond_false] at he
                have hn0 : n ≠ 0 := by intro e; subst e; simp at hn
                cases hm : Nat.ble n maxNeed with
                | false => rw [hm] at he; simp at he
                | true =>
                  rw [hm] at he
                  simp only [Nat.ble_eq] at hm
                  simp only [cond_true, Option.map_eq_some_iff] at he
                  obtain ⟨⟨id, h2⟩, hnb, e⟩ := he
                  simp at e
                  obtain ⟨rfl, rfl⟩ := e
                  obtain ⟨w1, arr, nc, g1, g2, g3, g4, g5⟩ := grow_run (ty := ty) (base := none) (len := 0) (c := 0) (w := w) (old := []) (new := vs) hτ h0 h1 hu0 hu1 b1 hs hby hz b5 b6 b2 b3 (by omega) (by omega) s1
                    (fun w' _ => by simp [Builtin.firstCells]) s2 (by simp) s5
                  obtain ⟨rfl, hnew⟩ := newBlk_spec hnb
                  have hr1 := hr.same g1
                  have p : Pushed w1 (.cells arr elem) { w1 with heap := w1.heap.push (.cells arr elem) } := ⟨rfl, rfl, rfl, rfl⟩
                  have hlen := s3.1
                  have hle : vs.length ≤ arr.size := by rw [g3, s5]; exact Nat.mul_le_mul_right _ (by omega)
                  obtain ⟨ι', r1, r2, r3⟩ := hr1.push hnew hto p (by omega) (fun y a ha => by
                    have hlt : y < vs.length := by rw [hlen]; exact (List.getElem?_eq_some_iff.1 ha).1
                    refine ⟨vs[y], by rw [g4 y (by simpa using hlt)]; simp [hlt], s3.2 y _ a (List.getElem?_eq_getElem hlt) ha, s4 _ (List.getElem_mem hlt)⟩)
                  refine ⟨_, ι', .slice (some ⟨w1.heap.size, 0, none⟩) n nc, ?_, ?_, r1, r2⟩
                  · rw [g5]; simp [newRow]
                  · have := RelV.sl (τ := τ) h.next 0 n n sz nc 0 ⟨w1.heap.size, 0, arr.size⟩ r3 (Nat.le_refl _) (by omega) (by simp [g3]) (fun _ => rfl)
                    simpa [Loc.at] using this
            · rename_i id off len cap s2'
              obtain ⟨l, c, o', hl, q1, q2, q3, q4, rfl⟩ := hu.sl_inv
              split at he
              · simp at he
              · rename_i cs hcs
                have hcg := Hp.cells_get hcs
                have hblk := hr.cells id l cs hl hcg
                cases hb2 : (Nat.beq s2' sz && Nat.ble (len + n) maxNeed) with
                | false => rw [hb2] at he; simp at he
                | true =>
                  rw [hb2] at he
                  simp only [Bool.and_eq_true, Nat.beq_eq, Nat.ble_eq] at hb2
                  obtain ⟨rfl, hmx⟩ := hb2
                  simp only [cond_true] at he
                  have hvl := s3.1
                  cases hfit : Nat.ble (len + n) cap with
                  | true =>
                    rw [hfit] at he
                    simp only [Nat.ble_eq] at hfit
                    simp only [cond_true] at he
                    split at he
                    · rename_i cs' hov
                      simp only [Option.some.injEq, Prod.mk.injEq] at he
                      obtain ⟨rfl, rfl⟩ := he
                      obtain ⟨o1, o2, _⟩ := over_spec _ _ _ _ hov
                      refine ⟨w.setCells l.b (l.o + (off + len * s2')) vs, ι, .slice (some (l.at o')) (len + n) c, ?_, .sl id off (len + n) cap s2' c o' l hl hfit q2 q3 q4, hr.write hl hcg hov s3 s4, Ext.same (Nat.le_refl _)⟩
                      refine fit_run h0 h1 hu0 hu1 b1 hs (by omega) s1 (s2 w (Same.refl w)) (fun a ha => ?_) (fun hn => by simp at hn)
                      simp at ha
                      subst ha
                      by_cases hc0 : c = 0
                      · have : vs = [] := List.eq_nil_of_length_eq_zero (by rw [s5]; have : n = 0 := by omega
                                                                            rw [this]; simp)
                        subst this
                        simp [storeCells, World.setCells]
                      · obtain rfl := q4 hc0
                        rw [Loc.at_add]
                        exact storeCells_sound (fun j hj => hblk.2.2.1 _ (by have := hblk.2.1; omega)) s4
                    · simp at he
                  | false =>
                    rw [hfit] at he
                    simp only [cond_false] at he
                    have hgt : ¬ (len + n ≤ cap) := by intro e; rw [show Nat.ble (len + n) cap = true from by rw [Nat.ble_eq]; exact e] at hfit; simp at hfit
                    split at he
                    · rename_i old hcut
                      simp only [Option.map_eq_some_iff] at he
                      obtain ⟨⟨id', h2⟩, hnb, e⟩ := he
                      simp at e
                      obtain ⟨rfl, rfl⟩ := e
                      obtain ⟨rfl, hnew⟩ := newBlk_spec hnb
                      obtain ⟨us, e1, e2, e3, e4⟩ := read_cells hblk hcut
                      obtain ⟨c1, c2, c3⟩ := cut_spec hcut
                      have hidn : id < maxIds := (hr.dom id l hl).1
                      have hnext : (h.put id none).next = h.next := rfl
                      by_cases hin : len + n ≤ c
                      · -- it fits by chance
                        obtain rfl := q4 (by omega)
                        have hroom : o' + len * s2' + vs.length ≤ l.ext := by
                          have : (len + n) * s2' ≤ c * s2' := Nat.mul_le_mul_right _ hin
                          rw [Nat.add_mul] at this
                          omega
                        have rk := hr.write_kill (off := o' + len * s2') (vs := vs) hl hcg hroom
                        have hcell : ∀ y, y < l.ext → ((w.setCells l.b (l.o + (o' + len * s2')) vs).cell? (l.at y)) = if o' + len * s2' ≤ y ∧ y < o' + len * s2' + vs.length then vs[y - (o' + len * s2')]? else w.cell? (l.at y) := by
                          intro y hy
                          by_cases hrng : o' + len * s2' ≤ y ∧ y < o' + len * s2' + vs.length
                          · rw [if_pos hrng]
                            have := World.cell?_setCells_in l.b vs (l.o + (o' + len * s2')) w (fun j hj => by
                              have := (hblk.2.2.1 (o' + len * s2' + j) (by omega)).1
                              unfold Loc.at at this
                              rwa [show l.o + (o' + len * s2' + j) = l.o + (o' + len * s2') + j by omega] at this) (y - (o' + len * s2')) (by omega)
                            unfold Loc.at
                            rw [show l.o + y = l.o + (o' + len * s2') + (y - (o' + len * s2')) by omega, this]
                            rw [List.getElem?_eq_getElem (by omega)]
                          · rw [if_neg hrng, World.cell?_setCells_out]
                            intro _ _
                            unfold Loc.at; dsimp only; omega
                        have hatt : ∀ y, (⟨l.b, l.o + o', l.ext - o'⟩ : Loc).at y = l.at (o' + y) := fun y => by unfold Loc.at; simp [Nat.add_assoc]
                        obtain ⟨ι', r1, r2, r3⟩ := rk.adopt (l := ⟨l.b, l.o + o', l.ext - o'⟩) hnew hto (fun id2 m hid2 hx2 => by
                            have hg := Hp.get_put (h := h) (b := none) hidn id2
                            rw [hg] at hx2
                            split at hx2
                            · simp at hx2
                            · rename_i hne
                              have a1 := hr.apart id2 id m l hne hid2 hl hx2 (by rw [hcg]; rfl)
                              exact fun eb x b1 b2 b3 b4 => a1 eb.symm x b3 b4 (by dsimp only at b1; omega) (by dsimp only at b1 b2; omega))
                          (fun y y1 y2 => hr.own id l hl (by rw [hcg]; rfl) y (by dsimp only at y1; omega) (by dsimp only at y1 y2; omega))
                          ⟨by rw [setCells_size]; exact hblk.1, by simp only [List.length_append, c1]; omega, fun y hy => by
                              dsimp only at hy
                              rw [hatt, hcell _ (by omega), World.frozen?_setCells]
                              refine ⟨?_, (hblk.2.2.1 _ (by omega)).2⟩
                              split
                              · rw [List.getElem?_eq_getElem (by omega)]; rfl
                              · exact (hblk.2.2.1 _ (by omega)).1, fun y a ha => by
                              have hylt : y < (old ++ new).length := (List.getElem?_eq_some_iff.1 ha).1
                              simp only [List.length_append, c1] at hylt
                              rw [hatt, hcell _ (by omega)]
                              by_cases hy : y < len * s2'
                              · rw [if_neg (by omega)]
                                rw [List.getElem?_append_left (by omega), c3 y hy] at ha
                                exact hblk.2.2.2 _ a ha
                              · rw [if_pos (by omega)]
                                rw [List.getElem?_append_right (by omega), c1] at ha
                                have hlt2 : y - len * s2' < vs.length := by omega
                                rw [show o' + y - (o' + len * s2') = y - len * s2' by omega]
                                exact ⟨vs[y - len * s2'], List.getElem?_eq_getElem hlt2, s3.2 _ _ a (List.getElem?_eq_getElem hlt2) ha, s4 _ (List.getElem_mem hlt2)⟩⟩
                        refine ⟨w.setCells l.b (l.o + (o' + len * s2')) vs, ι', .slice (some (l.at o')) (len + n) c, ?_, ?_, r1, ?_⟩
                        · refine fit_run h0 h1 hu0 hu1 b1 hs hin s1 (s2 w (Same.refl w)) (fun a ha => ?_) (fun hn => by simp at hn)
                          simp at ha
                          subst ha
                          rw [Loc.at_add]
                          exact storeCells_sound (fun j hj => hblk.2.2.1 _ (by omega)) s4
                        · have := RelV.sl (τ := τ) (h.put id none).next 0 (len + n) (len + n) s2' c 0 ⟨l.b, l.o + o', l.ext - o'⟩ r3 (Nat.le_refl _) hin (by dsimp only; omega) (fun _ => rfl)
                          rw [hatt] at this
                          simpa using this
                        · exact r2
                      · -- it grows
                        have hold : ∀ w', Same w w' → (Builtin.firstCells s2' len (.slice (some (l.at o')) len c)).run P w' = .ok us.toArray w' := by
                          intro w' sm
                          by_cases hl0 : len = 0
                          · have : us = [] := List.eq_nil_of_length_eq_zero (by rw [e1, hl0]; simp)
                            subst this; subst hl0
                            simp [Builtin.firstCells, loadCells, loadCellsFrom]
                          · obtain rfl := q4 (by omega)
                            have := run_cells (P := P) (w := w') (l := l) (off := o') (vs := us) (fun j v hv => by rw [cell?_heap sm.heap]; exact e2 j v hv)
                            rw [e1] at this
                            simp [Builtin.firstCells, this]
                        obtain ⟨w1, arr, nc, g1, g2, g3, g4, g5⟩ := grow_run (ty := ty) (base := some (l.at o')) (len := len) (c := c) (w := w) (old := us) (new := vs) hτ h0 h1 hu0 hu1 b1 hs hby hz b5 b6 b2 b3 hmx (by omega) s1 hold s2 e1 s5
                        have hr1 := (hr.kill hidn).same g1
                        have p : Pushed w1 (.cells arr elem) { w1 with heap := w1.heap.push (.cells arr elem) } := ⟨rfl, rfl, rfl, rfl⟩
                        have hrel := e3.append s3
                        have hul := hrel.1
                        have hle : (us ++ vs).length ≤ arr.size := by
                          rw [g3, List.length_append, e1, s5, ← Nat.add_mul]; exact Nat.mul_le_mul_right _ (by omega)
                        obtain ⟨ι', r1, r2, r3⟩ := hr1.push hnew hto p (by omega) (fun y a ha => by
                          have hlt : y < (us ++ vs).length := by rw [hul]; exact (List.getElem?_eq_some_iff.1 ha).1
                          refine ⟨(us ++ vs)[y], by rw [g4 y hlt, List.getElem?_eq_getElem hlt], hrel.2 y _ a (List.getElem?_eq_getElem hlt) ha, ?_⟩
                          have hm := List.getElem_mem hlt
                          rcases List.mem_append.1 hm with hm | hm
                          · exact e4 _ hm
                          · exact s4 _ hm)
                        refine ⟨_, ι', .slice (some ⟨w1.heap.size, 0, none⟩) (len + n) nc, ?_, ?_, r1, r2⟩
                        · rw [g5]; simp [newRow]
                        · have := RelV.sl (τ := τ) (h.put id none).next 0 (len + n) (len + n) s2' nc 0 ⟨w1.heap.size, 0, arr.size⟩ r3 (Nat.le_refl _) g2 (by simp [g3]) (fun _ => rfl)
                          simpa [Loc.at] using this
                    · simp at he
            · simp at he
          · simp at he
      · simp at he
    · simp at he
  · simp at he

end
end Go.PE
