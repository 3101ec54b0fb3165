/-
  PE: a deterministic evaluator for the part of the model's code that the statements reach: abstract values, an abstract heap of blocks with numbers.
-/
import Derived.Calls
import Derived.Orders
set_option linter.unusedVariables false
set_option linter.unusedSimpArgs false
set_option linter.unnecessarySimpa false
set_option linter.unusedSectionVars false
namespace Go.PE
noncomputable section

/-- Abstract values. `sl id off len cap sz`: `off` counts cells, `len` and `cap` count elements of `sz` cells. `tok i`: a value that is given from outside and not looked into. `cls m r`: an int, not below 0, that leaves `r` when divided by `m`. -/
inductive AV where
  | bool (b : Bool)
  | int (k : IntKind) (n : Int)
  | flt (b : Nat)
  | str (l : List Nat)
  | nilp
  | ptr (id off : Nat)
  | nils
  | sl (id off len cap sz : Nat)
  | nilm
  | mp (id : Nat)
  | nilf
  | fn (f : Nat) (first cap : List AV)
  | agg (cs : List AV)
  | tup (vs : List AV)
  | tok (i : Nat)
  | cls (m r : Nat)
  | dead
  deriving Inhabited

inductive Blk where
  | cells (cs : List AV)
  | map (es : List (AV × AV))

/-- A trie of blocks, by the bits of a number. -/
inductive Tr where
  | lf
  | nd (v : Option Blk) (l r : Tr)

def bi {α : Type} (b : Bool) (t e : α) : α := Bool.rec (motive := fun _ => α) e t b
theorem bi_eq {α : Type} (b : Bool) (t e : α) : bi b t e = bif b then t else e := by cases b <;> rfl

def Tr.get (t : Tr) : Nat → Option Blk :=
  Tr.rec (motive := fun _ => Nat → Option Blk) (fun _ => none) (fun v _ _ il ir n => bi (Nat.beq n 0) v (bi (Nat.beq (Nat.mod n 2) 1) (il (Nat.div n 2)) (ir (Nat.sub (Nat.div n 2) 1)))) t
theorem Tr.get_lf (n : Nat) : Tr.get .lf n = none := rfl
theorem Tr.get_nd (v : Option Blk) (l r : Tr) (n : Nat) : Tr.get (.nd v l r) n = bif Nat.beq n 0 then v else bif Nat.beq (n % 2) 1 then l.get (n / 2) else r.get (n / 2 - 1) := by
  show bi (Nat.beq n 0) v (bi (Nat.beq (n % 2) 1) (l.get (n / 2)) (r.get (n / 2 - 1))) = _
  rw [bi_eq, bi_eq]

def Tr.set (b : Option Blk) (f : Nat) : Tr → Nat → Tr :=
  Nat.rec (motive := fun _ => Tr → Nat → Tr) (fun t _ => t) (fun _ ih t n => Tr.rec (motive := fun _ => Tr)
    (bi (Nat.beq n 0) (.nd b .lf .lf) (bi (Nat.beq (Nat.mod n 2) 1) (.nd none (ih .lf (Nat.div n 2)) .lf) (.nd none .lf (ih .lf (Nat.sub (Nat.div n 2) 1)))))
    (fun v l r _ _ => bi (Nat.beq n 0) (.nd b l r) (bi (Nat.beq (Nat.mod n 2) 1) (.nd v (ih l (Nat.div n 2)) r) (.nd v l (ih r (Nat.sub (Nat.div n 2) 1))))) t) f
theorem Tr.set_zero (b : Option Blk) (t : Tr) (n : Nat) : Tr.set b 0 t n = t := rfl
theorem Tr.set_lf (b : Option Blk) (f n : Nat) : Tr.set b (f + 1) .lf n = bif Nat.beq n 0 then .nd b .lf .lf else bif Nat.beq (n % 2) 1 then .nd none (Tr.set b f .lf (n / 2)) .lf else .nd none .lf (Tr.set b f .lf (n / 2 - 1)) := by
  show bi (α := Tr) (Nat.beq n 0) (.nd b .lf .lf) (bi (Nat.beq (n % 2) 1) (.nd none (Tr.set b f .lf (n / 2)) .lf) (.nd none .lf (Tr.set b f .lf (n / 2 - 1)))) = _
  rw [bi_eq, bi_eq]
theorem Tr.set_nd (b : Option Blk) (f n : Nat) (v : Option Blk) (l r : Tr) : Tr.set b (f + 1) (.nd v l r) n = bif Nat.beq n 0 then .nd b l r else bif Nat.beq (n % 2) 1 then .nd v (Tr.set b f l (n / 2)) r else .nd v l (Tr.set b f r (n / 2 - 1)) := by
  show bi (α := Tr) (Nat.beq n 0) (.nd b l r) (bi (Nat.beq (n % 2) 1) (.nd v (Tr.set b f l (n / 2)) r) (.nd v l (Tr.set b f r (n / 2 - 1)))) = _
  rw [bi_eq, bi_eq]

/-- The abstract heap: its blocks, the next number, and the least number of a block that was written since `lw` was last laid. -/
structure Hp where
  t : Tr
  next : Nat
  lw : Nat

def depthBits : Nat := 50
def maxIds : Nat := 1000000000

def Hp.get (h : Hp) (id : Nat) : Option Blk := h.t.get id
/-- A new block. -/
def Hp.new (h : Hp) (b : Blk) : Option Hp :=
  bif Nat.blt h.next maxIds then some ⟨Tr.set (some b) depthBits h.t h.next, h.next + 1, h.lw⟩ else none
/-- A block written anew (or struck). -/
def Hp.put (h : Hp) (id : Nat) (b : Option Blk) : Hp :=
  ⟨Tr.set b depthBits h.t id, h.next, bif Nat.blt id h.lw then id else h.lw⟩

def Hp.cells (h : Hp) (id : Nat) : Option (List AV) :=
  match h.get id with
  | some (.cells cs) => some cs
  | _ => none

/-- Takes `n` cells from `off` on. -/
def takeN : Nat → List AV → Option (List AV)
  | 0, _ => some []
  | n + 1, x :: xs => (takeN n xs).map (x :: ·)
  | _ + 1, [] => none
def cut (off n : Nat) (cs : List AV) : Option (List AV) := takeN n (cs.drop off)
/-- Overlays `vs` at `off`; none where they do not fit. -/
def over : Nat → List AV → List AV → Option (List AV)
  | 0, [], cs => some cs
  | 0, v :: vs, _ :: cs => (over 0 vs cs).map (v :: ·)
  | 0, _ :: _, [] => none
  | n + 1, vs, c :: cs => (over n vs cs).map (c :: ·)
  | _ + 1, _, [] => none

def strOf (s : ByteArray) : List Nat := s.data.toList.map (·.toNat)

/-- Is it the value of one cell? -/
def AV.one : AV → Bool
  | .agg _ | .tup _ | .dead => false
  | _ => true

def ofFlat : Value → AV
  | .bool b => .bool b
  | .int k n => .int k n
  | .float .f64 b => .flt b
  | .string s => .str (strOf s)
  | .pointer none => .nilp
  | .slice none l c => bif Nat.beq l 0 && Nat.beq c 0 then .nils else .dead
  | .map none => .nilm
  | .nilFunc => .nilf
  | .func (.func f) xs ys => bif Nat.beq xs.size 0 && Nat.beq ys.size 0 then .fn f [] [] else .dead
  | _ => .dead
def ofConst : Value → AV
  | .agg cs => .agg (cs.toList.map ofFlat)
  | v => ofFlat v

def AV.cells : AV → List AV
  | .agg cs => cs
  | v => [v]

abbrev Tm := List AV
def Tm.at (tm : List AV) : Nat → AV :=
  List.rec (motive := fun _ => Nat → AV) (fun _ => .dead) (fun x _ ih n => bi (Nat.beq n 0) x (ih (Nat.sub n 1))) tm
theorem Tm.at_nil (n : Nat) : Tm.at [] n = .dead := rfl
theorem Tm.at_cons (x : AV) (xs : List AV) (n : Nat) : Tm.at (x :: xs) n = bif Nat.beq n 0 then x else Tm.at xs (n - 1) := by
  show bi (Nat.beq n 0) x (Tm.at xs (n - 1)) = _
  rw [bi_eq]
def Tm.put (tm : List AV) : Nat → AV → List AV :=
  List.rec (motive := fun _ => Nat → AV → List AV) (fun _ _ => []) (fun x xs ih n v => bi (Nat.beq n 0) (v :: xs) (x :: ih (Nat.sub n 1) v)) tm
theorem Tm.put_nil (n : Nat) (v : AV) : Tm.put [] n v = [] := rfl
theorem Tm.put_cons (x : AV) (xs : List AV) (n : Nat) (v : AV) : Tm.put (x :: xs) n v = bif Nat.beq n 0 then v :: xs else x :: Tm.put xs (n - 1) v := by
  show bi (Nat.beq n 0) (v :: xs) (x :: Tm.put xs (n - 1) v) = _
  rw [bi_eq]

def evX (tm : Tm) : Operand → AV
  | .tmp t => Tm.at tm t
  | .const v => ofConst v
  | .global _ => .dead
  | .func f => .fn f [] []

section
variable (P : Program)

def sizeA (t : TypeId) : Option Nat := (P.info? t).map (·.size)
def bytesA (t : TypeId) : Option Nat := (P.info? t).map (·.bytes)
def zeroA (t : TypeId) : Option AV := ((P.info? t).bind (·.zero)).map ofConst
def isAggA (t : TypeId) : Option Bool :=
  match P.underlying t with
  | some (.struct _) | some (.array _ _) => some true
  | some _ => some false
  | none => none

/-- A number's order by `Nat` alone (fast for the kernel). -/
def ltI : Int → Int → Bool
  | .ofNat a, .ofNat b => Nat.blt a b
  | .ofNat _, .negSucc _ => false
  | .negSucc _, .ofNat _ => true
  | .negSucc a, .negSucc b => Nat.blt b a
def eqI : Int → Int → Bool
  | .ofNat a, .ofNat b => Nat.beq a b
  | .negSucc a, .negSucc b => Nat.beq a b
  | _, _ => false
def eqL : List Nat → List Nat → Bool
  | [], [] => true
  | a :: as, b :: bs => bif Nat.beq a b then eqL as bs else false
  | _, _ => false
def two63 : Nat := 9223372036854775808
/-- `wrap` of i64, fast where nothing wraps. -/
def wrapA (k : IntKind) (n : Int) : Int :=
  match k, n with
  | .i64, .ofNat a => bif Nat.blt a two63 then n else k.wrap n
  | .i64, .negSucc a => bif Nat.blt a two63 then n else k.wrap n
  | k, n => k.wrap n

/-- `==` of the parts of two structs. -/
def eqFieldsA (eq : TypeId → AV → AV → Option Bool) (xs ys : List AV) : List Field → Option Bool
  | [] => some true
  | f :: fs =>
    if f.name ≠ "_" then
      match isAggA P f.type, sizeA P f.type, xs[f.offset]?, ys[f.offset]? with
      | some false, some _, some a, some b =>
        match eq f.type a b with
        | some true => eqFieldsA eq xs ys fs
        | r => r
      | _, _, _, _ => none
    else eqFieldsA eq xs ys fs

/-- `==` of values of a type. -/
def eqA : Nat → TypeId → AV → AV → Option Bool
  | 0, _, _, _ => none
  | d + 1, t, x, y =>
    match P.underlying t, x, y with
    | some .bool, .bool a, .bool b => some (a == b)
    | some (.int _), .int k a, .int k' b => if k = k' then some (eqI a b) else none
    | some (.float _), .flt a, .flt b => some (Op.floatEq .f64 a b)
    | some .string, .str a, .str b => some (eqL a b)
    | some (.pointer _), .nilp, .nilp => some true
    | some (.pointer _), .nilp, .ptr _ _ => some false
    | some (.pointer _), .ptr _ _, .nilp => some false
    | some (.slice _), .nils, .nils => some true
    | some (.slice _), .nils, .sl .. => some false
    | some (.slice _), .sl .., .nils => some false
    | some (.func _ _ _), .nilf, .nilf => some true
    | some (.func _ _ _), .nilf, .fn .. => some false
    | some (.func _ _ _), .fn .., .nilf => some false
    | some (.struct fields), .agg xs, .agg ys =>
      bif P.stoodInHeld t then none else eqFieldsA P (eqA d) xs ys fields.toList
    | _, _, _ => none

def cmpI (op : BinOp) (a b : Int) : Option AV :=
  match op with
  | .eql => some (.bool (eqI a b))
  | .neq => some (.bool (!eqI a b))
  | .lss => some (.bool (ltI a b))
  | .leq => some (.bool (!ltI b a))
  | .gtr => some (.bool (ltI b a))
  | .geq => some (.bool (!ltI a b))
  | _ => none

def arithI (op : BinOp) (k : IntKind) (a b : Int) : Option AV :=
  match op with
  | .add => some (.int k (wrapA k (a + b)))
  | .sub => some (.int k (wrapA k (a - b)))
  | .mul => some (.int k (wrapA k (a * b)))
  | .quo => bif eqI b 0 then none else some (.int k (wrapA k (a.tdiv b)))
  | .rem => bif eqI b 0 then none else some (.int k (a.tmod b))
  | .and => some (.int k (k.wrap (BitVec.ofInt k.bits a &&& BitVec.ofInt k.bits b).toNat))
  | .or => some (.int k (k.wrap (BitVec.ofInt k.bits a ||| BitVec.ofInt k.bits b).toNat))
  | .xor => some (.int k (k.wrap (BitVec.ofInt k.bits a ^^^ BitVec.ofInt k.bits b).toNat))
  | op => cmpI op a b

def binA (op : BinOp) (t : TypeId) (x y : AV) : Option AV :=
  match op, x, y with
  | .shl, .int k a, .int _ b => bif ltI b 0 then none else some (.int k (k.wrap (a * 2 ^ (min b.toNat k.bits))))
  | .shr, .int k a, .int _ b => bif ltI b 0 then none else some (.int k (a.fdiv (2 ^ (min b.toNat k.bits))))
  | op, .int k a, .int k' b => if k = k' then arithI op k a b else none
  | .rem, .cls m r, .int .i64 (.ofNat n) => bif Nat.beq n m && Nat.blt 0 m then some (.int .i64 (Int.ofNat r)) else none
  | op, .flt a, .flt b =>
    match op with
    | .add => (FloatKind.f64.format.add a b).map .flt
    | .sub => (FloatKind.f64.format.sub a b).map .flt
    | .mul => (FloatKind.f64.format.mul a b).map .flt
    | .quo => (FloatKind.f64.format.div a b).map .flt
    | .eql => some (.bool (FloatKind.f64.format.order a b == some .eq))
    | .neq => some (.bool (FloatKind.f64.format.order a b != some .eq))
    | .lss => some (.bool (FloatKind.f64.format.order a b == some .lt))
    | .leq => some (.bool (FloatKind.f64.format.order a b == some .lt || FloatKind.f64.format.order a b == some .eq))
    | .gtr => some (.bool (FloatKind.f64.format.order a b == some .gt))
    | .geq => some (.bool (FloatKind.f64.format.order a b == some .gt || FloatKind.f64.format.order a b == some .eq))
    | _ => none
  | op, .str a, .str b =>
    match op with
    | .add => bif Nat.blt (a.length + b.length) 1000000000 then some (.str (a ++ b)) else none
    | .eql => some (.bool (eqL a b))
    | .neq => some (.bool (!eqL a b))
    | _ => none
  | .eql, x, y => bif P.eqGuardType P.depth t then none else (eqA P 4 t x y).map .bool
  | .neq, x, y => bif P.eqGuardType P.depth t then none else (eqA P 4 t x y).map fun b => .bool (!b)
  | _, _, _ => none

def unA (op : UnOp) (x : AV) : Option AV :=
  match op, x with
  | .neg, .int k n => some (.int k (wrapA k (0 - n)))
  | .neg, .flt b => some (.flt (Op.negFloat .f64 b))
  | .not, .bool b => some (.bool !b)
  | _, _ => none

/-- `box`, `alloc`. -/
def newBlk (cs : List AV) (h : Hp) : Option (Nat × Hp) := (h.new (.cells cs)).map fun h' => (h.next, h')

def loadA (t : TypeId) (a : AV) (h : Hp) : Option AV :=
  match a with
  | .ptr id off =>
    match h.cells id, isAggA P t, sizeA P t with
    | some cs, some true, some n => (cut off n cs).map .agg
    | some cs, some false, some _ => cs[off]?
    | _, _, _ => none
  | _ => none

def storeA (t : TypeId) (a v : AV) (h : Hp) : Option Hp :=
  match a with
  | .ptr id off =>
    match h.cells id, sizeA P t with
    | some cs, some n =>
      bif Nat.beq v.cells.length n && v.cells.all AV.one then (over off v.cells cs).map fun cs' => h.put id (some (.cells cs')) else none
    | _, _ => none
  | _ => none

/-- The parts of a struct or a row laid over its zero value: `place` tells offset and size. -/
def fillA (place : Nat → Option (Nat × Nat)) : List (Nat × AV) → List AV → Option (List AV)
  | [], cs => some cs
  | (i, v) :: rest, cs =>
    match place i with
    | none => none
    | some (off, size) =>
      bif Nat.beq v.cells.length size && v.cells.all AV.one then
        match over off v.cells cs with
        | some cs' => fillA place rest cs'
        | none => none
      else none

def repA (z : List AV) : Nat → List AV
  | 0 => []
  | n + 1 => z ++ repA z n

def placesA : List Field → Option (List (Nat × Nat))
  | [] => some []
  | f :: fs =>
    match sizeA P f.type, placesA fs with
    | some s, some r => some ((f.offset, s) :: r)
    | _, _ => none

def buildA (t : TypeId) (parts : List (Nat × AV)) : Option AV :=
  match zeroA P t, P.underlying t with
  | some z, some (.struct fields) =>
    match placesA P fields.toList with
    | some ps => bif z.cells.all AV.one then (fillA (ps[·]?) parts z.cells).map .agg else none
    | none => none
  | some z, some (.array _ elem) =>
    match sizeA P elem with
    | some size => bif z.cells.all AV.one then (fillA (fun i => some (i * size, size)) parts z.cells).map .agg else none
    | none => none
  | _, _ => none

def buildSliceA (t : TypeId) (len : Nat) (parts : List (Nat × AV)) (h : Hp) : Option (AV × Hp) :=
  match P.underlying t with
  | some (.slice elem) =>
    match sizeA P elem, zeroA P elem with
    | some size, some z =>
      bif Nat.ble (len * size) 16777216 && Nat.beq z.cells.length size && z.cells.all AV.one && Nat.blt 0 size then
        match fillA (fun i => some (i * size, size)) parts (repA z.cells len) with
        | some cs => (newBlk cs h).map fun (id, h') => (.sl id 0 len len size, h')
        | none => none
      else none
    | _, _ => none
  | _ => none

def natOf : AV → Option Nat
  | .int _ (.ofNat n) => some n
  | _ => none

def makeSliceA (t : TypeId) (len cap : AV) (h : Hp) : Option (AV × Hp) :=
  match P.underlying t, len, cap with
  | some (.slice elem), .int _ (.ofNat l), .int _ (.ofNat c) =>
    match sizeA P elem, bytesA P elem, zeroA P elem with
    | some size, some bytes, some z =>
      bif Nat.ble l c && Nat.ble c 1000000000 && Nat.ble bytes 4096 && Nat.beq z.cells.length size && z.cells.all AV.one && Nat.blt 0 size then
        (newBlk (repA z.cells c) h).map fun (id, h') => (.sl id 0 l c size, h')
      else none
    | _, _, _ => none
  | _, _, _ => none

def fieldAddrA (s : TypeId) (x : AV) (f : Nat) : Option AV :=
  match P.underlying s, x with
  | some (.struct fields), .ptr id off =>
    match fields[f]? with
    | some fl =>
      match sizeA P fl.type with
      | some n => bif Nat.beq n 0 then none else some (.ptr id (off + fl.offset))
      | none => none
    | none => none
  | _, _ => none

def partA (t : TypeId) (cs : List AV) (off : Nat) : Option AV :=
  match isAggA P t, sizeA P t with
  | some true, some n => (cut off n cs).map .agg
  | some false, some _ => cs[off]?
  | _, _ => none

def fieldA (t : TypeId) (x : AV) (f : Nat) : Option AV :=
  match P.underlying t, x with
  | some (.struct fields), .agg cs =>
    match fields[f]? with
    | some fl => partA P fl.type cs fl.offset
    | none => none
  | _, _ => none

def indexAddrA (t : TypeId) (x ix : AV) : Option AV :=
  match P.underlying t, x, ix with
  | some (.slice elem), .sl id off len _ sz, .int _ (.ofNat i) =>
    match sizeA P elem with
    | some s => bif Nat.blt i len && Nat.beq s sz then some (.ptr id (off + i * sz)) else none
    | none => none
  | some (.array len elem), .ptr id off, .int _ (.ofNat i) =>
    match sizeA P elem with
    | some s => bif Nat.blt i len then some (.ptr id (off + i * s)) else none
    | none => none
  | _, _, _ => none

def indexA (t : TypeId) (x ix : AV) : Option AV :=
  match P.underlying t, x, ix with
  | some (.array len elem), .agg cs, .int _ (.ofNat i) =>
    match sizeA P elem with
    | some s => bif Nat.blt i len then partA P elem cs (i * s) else none
    | none => none
  | some .string, .str l, .int _ (.ofNat i) => (l[i]?).map fun (b : Nat) => .int .u8 (Int.ofNat b)
  | _, _, _ => none

def boundA (x : Option AV) (dflt : Nat) : Option Nat :=
  match x with
  | none => some dflt
  | some v => natOf v

def sliceA (t : TypeId) (x : AV) (lo hi mx : Option AV) : Option AV :=
  match P.underlying t, x with
  | some .string, .str l =>
    match boundA lo 0, boundA hi l.length, mx with
    | some a, some b, none => bif Nat.ble a b && Nat.ble b l.length then some (.str ((l.drop a).take (b - a))) else none
    | _, _, _ => none
  | some (.slice elem), .sl id off len cap sz =>
    match boundA lo 0, boundA hi len, boundA mx cap, sizeA P elem with
    | some a, some b, some c, some s =>
      bif Nat.ble a b && Nat.ble b c && Nat.ble c cap && Nat.beq s sz && (mx.isNone || hi.isSome) then some (.sl id (off + a * sz) (b - a) (c - a) sz) else none
    | _, _, _, _ => none
  | some (.slice elem), .nils =>
    match boundA lo 0, boundA hi 0, boundA mx 0, sizeA P elem with
    | some 0, some 0, some 0, some _ => bif mx.isNone || hi.isSome then some .nils else none
    | _, _, _, _ => none
  | _, _ => none

def bytesOk : List AV → Option (List Nat)
  | [] => some []
  | .int .u8 (.ofNat n) :: r => bif Nat.blt n 256 then (bytesOk r).map (n :: ·) else none
  | _ => none

def isU8 (t : TypeId) : Bool :=
  match P.underlying t with
  | some (.int .u8) => true
  | _ => false

def convA (src dst : TypeId) (x : AV) (h : Hp) : Option AV :=
  match P.underlying src, P.underlying dst, x with
  | some _, some (.int k), .int _ n => some (.int k (wrapA k n))
  | some _, some (.float .f64), .int _ n => some (.flt (FloatKind.f64.nearest n))
  | some _, some .string, .str l => some (.str l)
  | some (.slice e), some .string, .nils => bif isU8 P e then some (.str []) else none
  | some (.slice e), some .string, .sl id off len _ sz =>
    match h.cells id with
    | some cs => bif isU8 P e && Nat.beq sz 1 then (cut off len cs).bind fun l => (bytesOk l).map .str else none
    | none => none
  | _, _, _ => none

def srcCells (x : AV) (sz : Nat) (h : Hp) : Option (List AV × Nat) :=
  match x with
  | .nils => some ([], 0)
  | .sl id off len _ s =>
    match h.cells id with
    | some cs => bif Nat.beq s sz then (cut off (len * sz) cs).map (·, len) else none
    | none => none
  | .str l => bif Nat.beq sz 1 then some (l.map fun b => .int .u8 (Int.ofNat b), l.length) else none
  | _ => none

def maxNeed : Nat := 16777216

def isIntA (t : TypeId) : Bool :=
  match P.underlying t with
  | some (.int _) => true
  | _ => false

/-- The append of cells that are read: `new` are the cells of `n` elements. -/
def appendTo (sz : Nat) (s : AV) (new : List AV) (n : Nat) (h : Hp) : Option (AV × Hp) :=
  match s with
  | .nils =>
    bif Nat.beq n 0 then some (.nils, h) else
    bif Nat.ble n maxNeed then (newBlk new h).map fun (id, h') => (.sl id 0 n n sz, h') else none
  | .sl id off len cap s2 =>
    match h.cells id with
    | none => none
    | some cs =>
      bif Nat.beq s2 sz && Nat.ble (len + n) maxNeed then
        bif Nat.ble (len + n) cap then
          match over (off + len * sz) new cs with
          | some cs' => some (.sl id off (len + n) cap sz, h.put id (some (.cells cs')))
          | none => none
        else
          match cut off (len * sz) cs with
          | some old => (newBlk (old ++ new) (h.put id none)).map fun (id', h') => (.sl id' 0 (len + n) (len + n) sz, h')
          | none => none
      else none
  | _ => none

def appendA (argTypes : Array TypeId) (s x : AV) (h : Hp) : Option (AV × Hp) :=
  match argTypes[0]?, argTypes[1]? with
  | some t0, some t1 =>
    match P.underlying t0, P.underlying t1 with
    | some (.slice elem), some _ =>
      match sizeA P elem, bytesA P elem, zeroA P elem with
      | some sz, some bytes, some z =>
        bif !isIntA P t1 && Nat.ble bytes 4096 && Nat.blt 0 bytes && Nat.blt 0 sz && Nat.beq z.cells.length sz && z.cells.all AV.one then
          match srcCells x sz h with
          | some (new, n) => appendTo sz s new n h
          | none => none
        else none
      | _, _, _ => none
    | _, _ => none
  | _, _ => none

def copyA (argTypes : Array TypeId) (d x : AV) (h : Hp) : Option (AV × Hp) :=
  match argTypes[0]? with
  | some t0 =>
    match P.underlying t0 with
    | some (.slice elem) =>
      match sizeA P elem, d with
      | some sz, .sl id off len _ s2 =>
        bif !(Nat.beq s2 sz) then none else
        match x with
        | .sl id2 off2 len2 _ s3 =>
          bif !(Nat.beq s3 sz) then none else
          match h.cells id2 with
          | some cs2 =>
            let n := Nat.min len2 len
            match cut off2 (n * sz) cs2, h.cells id with
            | some new, some cs =>
              match over off new cs with
              | some cs' => some (.int .i64 n, h.put id (some (.cells cs')))
              | none => none
            | _, _ => none
          | none => none
        | .nils => some (.int .i64 0, h)
        | _ => none
      | some _, .nils => match x with | .sl .. | .nils => some (.int .i64 0, h) | _ => none
      | _, _ => none
    | _ => none
  | none => none

def clearA (argTypes : Array TypeId) (x : AV) (h : Hp) : Option (AV × Hp) :=
  match argTypes[0]?, x with
  | some t0, .nils => match P.underlying t0 with | some _ => some (.tup [], h) | none => none
  | some t0, .sl id off len _ s2 =>
    match P.underlying t0 with
    | some (.slice elem) =>
      bif Nat.beq len 0 then some (.tup [], h) else
      match sizeA P elem, zeroA P elem, h.cells id with
      | some sz, some z, some cs =>
        bif Nat.beq sz s2 && Nat.beq z.cells.length sz && z.cells.all AV.one && Nat.blt 0 sz then
          match over off (repA z.cells len) cs with
          | some cs' => some (.tup [], h.put id (some (.cells cs')))
          | none => none
        else none
      | _, _, _ => none
    | _ => none
  | _, _ => none

def lenA (argTypes : Array TypeId) (x : AV) : Option AV :=
  match argTypes[0]? with
  | some t =>
    match P.underlying t, x with
    | some .string, .str l => some (.int .i64 l.length)
    | some (.array n _), _ => some (.int .i64 n)
    | some (.slice _), .nils => some (.int .i64 0)
    | some (.slice _), .sl _ _ len _ _ => some (.int .i64 len)
    | _, _ => none
  | none => none

def capA (argTypes : Array TypeId) (x : AV) : Option AV :=
  match argTypes[0]? with
  | some t =>
    match P.underlying t, x with
    | some (.slice _), .nils => some (.int .i64 0)
    | _, _ => none
  | none => none

def max2A : AV → AV → Option AV
  | .int k x, .int _ y => some (.int k (bif ltI x y then y else x))
  | _, _ => none
def min2A : AV → AV → Option AV
  | .int k x, .int _ y => some (.int k (bif ltI y x then y else x))
  | _, _ => none

def findA (k : Int) : List (AV × AV) → Nat → Option (Option (Nat × AV))
  | [], _ => some none
  | (.int .i64 a, v) :: r, i => bif eqI k a then some (some (i, v)) else findA k r (i + 1)
  | _ :: _, _ => none

def isI64 (t : TypeId) : Bool := P.underlying t matches some (.int .i64)

def lookupA (t : TypeId) (x k : AV) (ok : Bool) (h : Hp) : Option AV :=
  match P.underlying t, k with
  | some (.map kt et), .int .i64 n =>
    bif !(isI64 P kt) then none else
    let es : Option (List (AV × AV)) := match x with
      | .nilm => some []
      | .mp id => match h.get id with | some (.map es) => some es | _ => none
      | _ => none
    match es with
    | none => none
    | some es =>
      match findA n es 0 with
      | some (some (_, v)) => some (bif ok then .tup [v, .bool true] else v)
      | some none => match zeroA P et with
        | some z => some (bif ok then .tup [z, .bool false] else z)
        | none => none
      | none => none
  | _, _ => none

def mapUpdateA (t : TypeId) (x k v : AV) (h : Hp) : Option Hp :=
  match P.underlying t, k, x with
  | some (.map kt _), .int .i64 n, .mp id =>
    bif !(isI64 P kt) then none else
    match h.get id with
    | some (.map es) =>
      match findA n es 0 with
      | some (some (i, _)) => some (h.put id (some (.map (es.modify i fun _ => (.int .i64 n, v)))))
      | some none => some (h.put id (some (.map (es ++ [(.int .i64 n, v)]))))
      | none => none
    | _ => none
  | _, _, _ => none

/-- math.Float64bits, which has no body. -/
def isBits (f : FuncId) : Bool :=
  match P.funcs[f]? with
  | some fn => fn.body.isNone && fn.name == "math.Float64bits"
  | none => false

/-- What an operation comes to: a value (or none for an operation without one), the heap behind it. -/
def evOp (call : FuncId → List AV → Hp → Option (AV × Hp)) (tm : Tm) (o : Oper) (h : Hp) : Option (AV × Hp) :=
  let v (x : Option AV) : Option (AV × Hp) := x.map (·, h)
  match o.op with
  | .move x | .assign x => some (evX tm x, h)
  | .pick c a b => match evX tm c with
    | .bool c => some (bif c then evX tm a else evX tm b, h)
    | _ => none
  | .alloc t => match zeroA P t with
    | some z => bif z.cells.all AV.one then (newBlk z.cells h).map fun (id, h') => (.ptr id 0, h') else none
    | none => none
  | .box _ x =>
    let x := evX tm x
    bif x.cells.all AV.one then (newBlk x.cells h).map fun (id, h') => (.ptr id 0, h') else none
  | .build t ps => v (buildA P t (ps.toList.map fun (i, x) => (i, evX tm x)))
  | .buildSlice t n ps => buildSliceA P t n (ps.toList.map fun (i, x) => (i, evX tm x)) h
  | .load t a => v (loadA P t (evX tm a) h)
  | .store t a x => (storeA P t (evX tm a) (evX tm x) h).map (AV.tup [], ·)
  | .nilCheck x => match evX tm x with
    | .ptr id off => some (.ptr id off, h)
    | .fn f a c => some (.fn f a c, h)
    | _ => none
  | .binOp op t x y _ => v (binA P op t (evX tm x) (evX tm y))
  | .unOp op _ x => v (unA op (evX tm x))
  | .convert s d x => v (convA P s d (evX tm x) h)
  | .makeFunc (.func f) first cap => some (.fn f (first.toList.map (evX tm)) (cap.toList.map (evX tm)), h)
  | .makeMap _ none => (h.new (.map [])).map fun h' => (.mp h.next, h')
  | .makeSlice t l c => makeSliceA P t (evX tm l) (evX tm c) h
  | .slice t x lo hi mx => v (sliceA P t (evX tm x) (lo.map (evX tm)) (hi.map (evX tm)) (mx.map (evX tm)))
  | .fieldAddr s x f => v (fieldAddrA P s (evX tm x) f)
  | .field t x f => v (fieldA P t (evX tm x) f)
  | .indexAddr t x ix => v (indexAddrA P t (evX tm x) (evX tm ix))
  | .index t x ix => v (indexA P t (evX tm x) (evX tm ix))
  | .lookup t x k ok => v (lookupA P t (evX tm x) (evX tm k) ok h)
  | .mapUpdate t m k x => (mapUpdateA P t (evX tm m) (evX tm k) (evX tm x) h).map (AV.tup [], ·)
  | .extract t i => match evX tm t with
    | .tup vs => v (vs[i]?)
    | _ => none
  | .call c =>
    let args := c.args.toList.map (evX tm)
    match c.callee with
    | .value f => match evX tm f with
      | .fn f first cap => bif isBits P f then (match first ++ args ++ cap with | [.flt b] => some (.int .u64 b, h) | _ => none) else call f (first ++ args ++ cap) h
      | _ => none
    | .builtin b =>
      match b, args with
      | .append, [s, x] => appendA P c.argTypes s x h
      | .copy, [d, x] => copyA P c.argTypes d x h
      | .clear, [x] => clearA P c.argTypes x h
      | .len, [x] => v (lenA P c.argTypes x)
      | .cap, [x] => v (capA P c.argTypes x)
      | .max, [x, y] => v (max2A x y)
      | .min, [x, y] => v (min2A x y)
      | _, _ => none
    | _ => none
  | _ => none

structure St where
  tm : Tm
  h : Hp

inductive Ex where
  | norm
  | exit (id : Nat)
  | ret

def putD (tm : Tm) (d : Option Nat) (v : AV) : Tm :=
  match d with
  | some d => Tm.put tm d v
  | none => tm

/-- Is an operation done, by its guard? -/
def wantedA (ops : List Oper) (tm : Tm) (o : Oper) : Option Bool :=
  match o.guard with
  | none => some true
  | some (j, want) =>
    match (ops[j]?).bind (·.dst) with
    | some d => match Tm.at tm d with
      | .bool b => some (b == want)
      | .tup [] => some false
      | _ => none
    | none => none

/-- The operations of a region in the text's order. -/
def evOps (call : FuncId → List AV → Hp → Option (AV × Hp)) (ops : List Oper) (rest : List Oper) : St → Option St :=
  List.rec (motive := fun _ => St → Option St) (fun s => some s) (fun o _ ih s =>
    match wantedA ops s.tm o with
    | some true =>
      match evOp P call s.tm o s.h with
      | some (v, h) => ih ⟨putD s.tm o.dst v, h⟩
      | none => none
    | some false => ih ⟨putD s.tm o.dst (.tup []), s.h⟩
    | none => none) rest
theorem evOps_nil (call : FuncId → List AV → Hp → Option (AV × Hp)) (ops : List Oper) (s : St) : evOps P call ops [] s = some s := rfl
theorem evOps_cons (call : FuncId → List AV → Hp → Option (AV × Hp)) (ops : List Oper) (o : Oper) (rest : List Oper) (s : St) : evOps P call ops (o :: rest) s =
    match wantedA ops s.tm o with
    | some true =>
      match evOp P call s.tm o s.h with
      | some (v, h) => evOps P call ops rest ⟨putD s.tm o.dst v, h⟩
      | none => none
    | some false => evOps P call ops rest ⟨putD s.tm o.dst (.tup []), s.h⟩
    | none => none := rfl

end
end
end Go.PE
namespace Go.PE
noncomputable section
section
variable (P : Program)
abbrev Call := FuncId → List AV → Hp → Option (AV × Hp)

/-- Equality by sight, of flat values and rows of flat values. -/
def sameF : AV → AV → Bool
  | .bool a, .bool b => a == b
  | .int j a, .int k b => j == k && eqI a b
  | .flt a, .flt b => Nat.beq a b
  | .str a, .str b => eqL a b
  | .nilp, .nilp | .nils, .nils | .nilm, .nilm | .nilf, .nilf => true
  | .ptr a b, .ptr c d => Nat.beq a c && Nat.beq b d
  | .sl a b c d e, .sl a' b' c' d' e' => Nat.beq a a' && Nat.beq b b' && Nat.beq c c' && Nat.beq d d' && Nat.beq e e'
  | .mp a, .mp b => Nat.beq a b
  | _, _ => false
def sameL : List AV → List AV → Bool
  | [], [] => true
  | a :: as, b :: bs => bif sameF a b then sameL as bs else false
  | _, _ => false
def sameA : AV → AV → Bool
  | .agg as, .agg bs => sameL as bs
  | a, b => sameF a b

/-- Does an operation look into the heap (a load apart)? -/
def looks (o : Oper) : Bool :=
  match o.op with
  | .convert .. | .lookup .. | .mapUpdate .. | .store .. => true
  | .call { callee := .builtin b, .. } => match b with | .append | .copy | .clear => true | _ => false
  | .call _ => true
  | _ => false

/-- What is noted of a region that draws its order: the state; the places that wrote, with the heap ahead of each; the places that looked; the loads. -/
structure Dr where
  s : St
  ws : List (Nat × Hp)
  rs : List Nat
  lds : List (Nat × TypeId × AV × AV)
  als : List (Nat × Nat)

def noId : Nat := 2000000000

/-- Is a block as it was? -/
def sameB : Option Blk → Option Blk → Bool
  | some (.cells a), some (.cells b) => sameL a b
  | some (.map []), some (.map []) => true
  | _, _ => false

/-- Does a load tell the same in another heap? -/
def stays (t : TypeId) (a v : AV) (h : Hp) : Bool :=
  match loadA P t a h with
  | some v' => sameA v v'
  | none => false

/-- An operation `i` of a region that draws its order, in the text's order; `bi`: the places that stand ahead of it in any order. -/
def drStep (call : Call) (ops : List Oper) (o : Oper) (i bi : Nat) (d : Dr) : Option Dr :=
  match wantedA ops d.s.tm o with
  | some true =>
    let h0 := d.s.h
    match evOp P call d.s.tm o ⟨h0.t, h0.next, noId⟩ with
    | none => none
    | some (v, h1) =>
      let h' : Hp := ⟨h1.t, h1.next, bif Nat.blt h1.lw h0.lw then h1.lw else h0.lw⟩
      let s' : St := ⟨putD d.s.tm o.dst v, h'⟩
      match o.op with
      | .load t a =>
        bif d.ws.all (fun (j, hb) => Nat.testBit bi j || stays P t (evX d.s.tm a) v hb) then
          some ⟨s', d.ws, d.rs, (i, t, evX d.s.tm a, v) :: d.lds, d.als⟩
        else none
      | _ =>
        bif Nat.blt h1.lw h0.next then
          bif d.ws.all (fun (j, _) => Nat.testBit bi j) && d.rs.all (Nat.testBit bi ·) &&
              d.lds.all (fun (j, t, a, v) => Nat.testBit bi j || stays P t a v h') &&
              d.als.all (fun (j, id) => Nat.testBit bi j || sameB (h0.get id) (h'.get id)) then
            some ⟨s', (i, h0) :: d.ws, d.rs, d.lds, d.als⟩
          else none
        else bif looks o then
          bif d.ws.all (fun (j, _) => Nat.testBit bi j) then some ⟨s', d.ws, i :: d.rs, d.lds, d.als⟩ else none
        else some ⟨s', d.ws, d.rs, d.lds, bif Nat.blt h0.next h1.next then (i, h0.next) :: d.als else d.als⟩
  | some false => some { d with s := ⟨putD d.s.tm o.dst (.tup []), d.s.h⟩ }
  | none => none

def drOps (call : Call) (ops : List Oper) : List Oper → List Nat → Nat → Dr → Option Dr
  | [], _, _, d => some d
  | o :: rest, bi :: bs, i, d =>
    match drStep P call ops o i bi d with
    | some d' => drOps call ops rest bs (i + 1) d'
    | none => none
  | _, _, _, _ => none

/-- Each temporary has one writer; who looks at it comes behind him in every order. -/
def drOk (ops : List Oper) (bef : List Nat) (look : Oper → List Nat) : Bool :=
  (ops.zip bef).zipIdx.all fun ((o, b), j) => (ops.zip bef).zipIdx.all fun ((p, c), i) =>
    match p.dst with
    | none => true
    | some d => (Nat.beq i j || !(o.dst == some d)) && (!(look o).contains d || (Nat.blt i j && Nat.testBit b i) || (Nat.blt j i && Nat.testBit c j))

/-- Every edge points back. -/
def drBack (ops : List Oper) : Bool := ops.zipIdx.all fun (o, j) => o.after.toList.all fun e => !Region.binds .any e || Nat.blt e.on j

def evRegion (call : Call) (ops : Array Oper) (draw : Bool) (s : St) : Option St :=
  bif draw then
    bif !(drOk ops.toList (Region.before ops).toList (Oper.looksAt ops) && drBack ops.toList) then none else
    match drOps P call ops.toList ops.toList (Region.before ops).toList 0 ⟨s, [], [], [], []⟩ with
    | some d => some d.s
    | none => none
  else evOps P call ops.toList ops.toList s

def evLoop (body : St → Option (Ex × St)) (n : Nat) : St → Option (Ex × St) :=
  Nat.rec (motive := fun _ => St → Option (Ex × St)) (fun _ => none) (fun _ ih s =>
    match body s with
    | some (.norm, s') => ih s'
    | r => r) n
theorem evLoop_zero (body : St → Option (Ex × St)) (s : St) : evLoop body 0 s = none := rfl
theorem evLoop_succ (body : St → Option (Ex × St)) (n : Nat) (s : St) : evLoop body (n + 1) s = match body s with
    | some (.norm, s') => evLoop body n s'
    | r => r := rfl

def loopFuel : Nat := 1000000

def evCode (call : Call) (c : Code) : St → Option (Ex × St) :=
  Code.rec (motive := fun _ => St → Option (Ex × St))
    (fun s => some (.norm, s))
    (fun _ ops draw s => match evRegion P call ops draw s with
      | some s' => some (.norm, s')
      | none => none)
    (fun _ _ ia ib s => match ia s with
      | some (.norm, s') => ib s'
      | r => r)
    (fun c _ _ ia ib s => match evX s.tm c with
      | .bool true => ia s
      | .bool false => ib s
      | _ => none)
    (fun id _ ia s => match ia s with
      | some (.exit id', s') => some (bif Nat.beq id' id then .norm else .exit id', s')
      | r => r)
    (fun _ ia s => evLoop ia loopFuel s)
    (fun _ _ _ _ _ _ _ => none)
    (fun id s => some (.exit id, s))
    (fun _ _ _ => none)
    (fun _ s => some (.norm, s))
    (fun _ _ => none)
    (fun s => some (.ret, s))
    (fun _ _ => none) c
section
variable (call : Call) (s : St)
theorem evCode_skip : evCode P call .skip s = some (.norm, s) := rfl
theorem evCode_region (id : Nat) (ops : Array Oper) (draw : Bool) : evCode P call (.region id ops draw) s = match evRegion P call ops draw s with
      | some s' => some (.norm, s')
      | none => none := rfl
theorem evCode_seq (a b : Code) : evCode P call (.seq a b) s = match evCode P call a s with
      | some (.norm, s') => evCode P call b s'
      | r => r := rfl
theorem evCode_cond (c : Operand) (a b : Code) : evCode P call (.cond c a b) s = match evX s.tm c with
      | .bool true => evCode P call a s
      | .bool false => evCode P call b s
      | _ => none := rfl
theorem evCode_block (id : Nat) (a : Code) : evCode P call (.block id a) s = match evCode P call a s with
      | some (.exit id', s') => some (bif Nat.beq id' id then .norm else .exit id', s')
      | r => r := rfl
theorem evCode_loop (a : Code) : evCode P call (.loop a) s = evLoop (evCode P call a) loopFuel s := rfl
theorem evCode_rangeFunc (x : Operand) (t : Array Tmp) (a b : Code) : evCode P call (.rangeFunc x t a b) s = none := rfl
theorem evCode_exit (id : Nat) : evCode P call (.exit id) s = some (.exit id, s) := rfl
theorem evCode_scope (a : Code) : evCode P call (.scope a) s = none := rfl
theorem evCode_label (l : Nat) : evCode P call (.label l) s = some (.norm, s) := rfl
theorem evCode_goto (l : Nat) : evCode P call (.goto l) s = none := rfl
theorem evCode_ret : evCode P call .ret s = some (.ret, s) := rfl
theorem evCode_refuse (m : String) : evCode P call (.refuse m) s = none := rfl
end

def resA (s : St) : ResultVar → Option AV
  | .tmp t => some (Tm.at s.tm t)
  | .cell a t => loadA P t (Tm.at s.tm a) s.h
def ressA (s : St) : List ResultVar → Option (List AV)
  | [] => some []
  | r :: rs =>
    match resA P s r, ressA s rs with
    | some v, some vs => some (v :: vs)
    | _, _ => none

def repT : Nat → List AV
  | 0 => []
  | n + 1 => .tup [] :: repT n

/-- A function's body, done with values. -/
def evFn (call : Call) (f : FuncId) (args : List AV) (h : Hp) : Option (AV × Hp) :=
  match P.funcs[f]? with
  | none => none
  | some fn =>
    match fn.body with
    | none => none
    | some c =>
      bif fn.name == "runtime.NumGoroutine" then none else
      match evCode P call c ⟨args ++ repT (fn.ntmps - args.length), h⟩ with
      | some (.norm, s) | some (.ret, s) =>
        match ressA P s fn.results.toList with
        | some [v] => some (v, s.h)
        | some vs => some (.tup vs, s.h)
        | none => none
      | _ => none

def evCall : Nat → Call
  | 0 => fun _ _ _ => none
  | n + 1 => evFn P (evCall n)

end
end
end Go.PE
