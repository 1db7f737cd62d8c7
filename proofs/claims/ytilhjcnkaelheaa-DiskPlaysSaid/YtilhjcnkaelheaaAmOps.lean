/- The abstract machine: its operations, resolved (no type table is looked at), and how a program's operations are resolved. -/
import Derived.Test.YtilhjcnkaelheaaAmBase
import Derived.Laws.FloatArith
import Derived.Test.YtilhjcnkaelheaaAmIeee
namespace Go.Proofs.Ytilhjcnkaelheaa.Am
open Go Go.RowKit

inductive AOpd where
  | tmp (t : Nat)
  | con (v : AVal)
  deriving Inhabited

/-- What is compared with nil. -/
inductive NilK where
  | p | s | m | f
  deriving Inhabited

/-- How values of a type are compared. -/
inductive EqT where
  | int (k : IntKind)
  | str
  | bool
  | nil (k : NilK)   -- one of the two is nil
  | fend   -- a struct: its fields, one behind the other
  | fld (off n : Nat) (agg : Bool) (e rest : EqT)
  | array (n es : Nat) (agg : Bool) (e : EqT)
  deriving Inhabited

inductive AOp where
  | mv (x : AOpd)
  | pick (c a b : AOpd)
  | new (cells : List AVal)
  | box (x : AOpd)
  | build (zero : List AVal) (parts : List (Nat × Nat × AOpd))
  | buildS (len : Nat) (zero : List AVal) (parts : List (Nat × Nat × AOpd))
  | load (agg : Bool) (n : Nat) (a : AOpd)
  | store (n : Nat) (a x : AOpd)
  | nilck (x : AOpd)
  | bin (op : BinOp) (x y : AOpd)
  | eq (neg : Bool) (t : EqT) (x y : AOpd)
  | un (op : UnOp) (x : AOpd)
  | toInt (k : IntKind) (x : AOpd)
  | sToB (x : AOpd)
  | bToS (x : AOpd)
  | idS (x : AOpd)
  | mkFn (f : FuncId) (first captured : List AOpd)
  | mkS (es bytes : Nat) (zero : List AVal) (len cap : AOpd)
  | slcStr (x : AOpd) (lo hi : Option AOpd)
  | slc (es : Nat) (x : AOpd) (lo hi mx : Option AOpd)
  | slcArr (n es : Nat) (x : AOpd) (lo hi mx : Option AOpd)
  | fieldA (off : Nat) (x : AOpd)
  | field (off n : Nat) (agg : Bool) (x : AOpd)
  | idxAArr (n es : Nat) (x i : AOpd)
  | idxASl (es : Nat) (x i : AOpd)
  | idxArr (n es : Nat) (agg : Bool) (x i : AOpd)
  | idxStr (x i : AOpd)
  | extract (x : AOpd) (i : Nat)
  | len (s : Bool) (x : AOpd)
  | lenC (n : Nat)
  | append (es bytes : Nat) (s x : AOpd)
  | appendZ (es bytes : Nat) (z : List AVal) (s x : AOpd)
  | copy (es : Nat) (d s : AOpd)
  | clearS (es : Nat) (zero : List AVal) (x : AOpd)
  | minmax (isMax : Bool) (l : List AOpd)
  | mkIface (t : TypeId) (x : AOpd)
  | call (f : AOpd) (args : List AOpd)
  /-- What the machine does not know: it stops there. -/
  | die
  /-- A slice's capacity, where it is known. -/
  | cap (x : AOpd)
  /-- A whole number as a float of 64 bits, and such a float towards nought. -/
  | iToF (x : AOpd)
  | fToI (k : IntKind) (x : AOpd)
  /-- A float's bits, the float of bits, a float made whole downwards: of numbers alone. -/
  | fbits (x : AOpd)
  | ofBits (x : AOpd)
  | ffloor (x : AOpd)
  deriving Inhabited

structure AOper where
  dst : Option Nat
  op : AOp
  guard : Option (Nat × Bool)
  /-- In a region that draws its order: between which stages of the memory it may read. -/
  rd : Option (Nat × Nat) := none
  deriving Inhabited

inductive ACode where
  | skip
  | region (ops : List AOper)
  | draw (ops : List AOper)
  | seq (a b : ACode)
  | cond (c : AOpd) (thn els : ACode)
  | block (id : Nat) (body : ACode)
  | loop (body : ACode)
  | exit (id : Nat)
  | ret
  /-- A range over a function. -/
  | range (f : AOpd) (ps : List Nat) (assign body : ACode)
  deriving Inhabited

inductive ARes where
  | tmp (t : Nat)
  | cell (a : Nat) (agg : Bool) (n : Nat)
  deriving Inhabited

structure AFn where
  body : ACode
  results : List ARes
  deriving Inhabited

/-! ### What the operations do -/
def aundef : AVal := .tuple []

def aev (env : Nat → AVal) : AOpd → AVal
  | .tmp t => env t
  | .con v => v

def aint (op : BinOp) (k : IntKind) (a b : Int) : Option AVal :=
  match op with
  | .add => some (.int k (k.wrap (a + b)))
  | .sub => some (.int k (k.wrap (a - b)))
  | .mul => some (.int k (k.wrap (a * b)))
  | .quo => if b = 0 then none else some (.int k (k.wrap (a.tdiv b)))
  | .rem => if b = 0 then none else some (.int k (a.tmod b))
  | .and => some (.int k (k.wrap (BitVec.ofInt k.bits a &&& BitVec.ofInt k.bits b).toNat))
  | .or => some (.int k (k.wrap (BitVec.ofInt k.bits a ||| BitVec.ofInt k.bits b).toNat))
  | .xor => some (.int k (k.wrap (BitVec.ofInt k.bits a ^^^ BitVec.ofInt k.bits b).toNat))
  | .andNot => some (.int k (k.wrap (BitVec.ofInt k.bits a &&& ~~~ BitVec.ofInt k.bits b).toNat))
  | .eql => some (.bool (a == b))
  | .neq => some (.bool (a != b))
  | .lss => some (.bool (decide (a < b)))
  | .leq => some (.bool (decide (a ≤ b)))
  | .gtr => some (.bool (decide (a > b)))
  | .geq => some (.bool (decide (a ≥ b)))
  | _ => none

def astr (op : BinOp) (a b : List UInt8) : Option AVal :=
  match op with
  | .add => if a.length + b.length ≤ 9223372036854775807 then some (.str (a ++ b)) else none
  | .eql => some (.bool (a == b))
  | .neq => some (.bool !(a == b))
  | .lss => some (.bool (Op.bytesLess a b))
  | .leq => some (.bool (Op.bytesLess a b || a == b))
  | .gtr => some (.bool !(Op.bytesLess a b || a == b))
  | .geq => some (.bool !(Op.bytesLess a b))
  | _ => none

def ashift (op : BinOp) (k : IntKind) (a b : Int) : Option AVal :=
  if b < 0 then none else
  match op with
  | .shl => some (.int k (k.wrap (a * 2 ^ (min b.toNat k.bits))))
  | .shr => some (.int k (a.fdiv (2 ^ (min b.toNat k.bits))))
  | _ => none

/-- A number that is none. -/
def qnan : Nat := 9221120237041090561
/-- Floats of 64 bits: what is no number is always the same one. -/
def aflt (op : BinOp) (a b : Nat) : Option AVal :=
  match op with
  | .add => some (.flt .f64 ((Ieee.double.add a b).getD qnan))
  | .sub => some (.flt .f64 ((Ieee.double.sub a b).getD qnan))
  | .mul => some (.flt .f64 ((Ieee.double.mul a b).getD qnan))
  | .quo => some (.flt .f64 ((Ieee.double.div a b).getD qnan))
  | .eql => some (.bool (Ieee.double.order a b == some .eq))
  | .neq => some (.bool (Ieee.double.order a b != some .eq))
  | .lss => some (.bool (Ieee.double.order a b == some .lt))
  | .leq => some (.bool (Ieee.double.order a b == some .lt || Ieee.double.order a b == some .eq))
  | .gtr => some (.bool (Ieee.double.order a b == some .gt))
  | .geq => some (.bool (Ieee.double.order a b == some .gt || Ieee.double.order a b == some .eq))
  | _ => none

def abin (op : BinOp) : AVal → AVal → Option AVal
  | .flt .f64 a, .flt .f64 b => aflt op a b
  | .int k a, .int k' b =>
    match op with
    | .shl => ashift .shl k a b
    | .shr => ashift .shr k a b
    | _ => if k = k' then aint op k a b else none
  | .str a, .str b => astr op a b
  | _, _ => none

def aun (op : UnOp) : AVal → Option AVal
  | .flt .f64 b =>
    match op with
    | .neg => some (.flt .f64 (Op.negFloat .f64 b))
    | _ => none
  | .int k n =>
    match op with
    | .neg => aint .sub k 0 n
    | .xor => aint .xor k (if k.signed then -1 else k.max) n
    | _ => none
  | .bool b =>
    match op with
    | .not => some (.bool !b)
    | _ => none
  | _ => none

/-- A part of an aggregate's cells. -/
def apart (agg : Bool) (off n : Nat) (l : List AVal) : Option AVal :=
  if agg then (if off + n ≤ l.length then some (.agg ((l.drop off).take n)) else none) else l[off]?

def aeqArr (f : AVal → AVal → Option Bool) (es : Nat) (agg : Bool) (xs ys : List AVal) : Nat → Nat → Option Bool
  | 0, _ => some true
  | n + 1, i =>
    match apart agg (i * es) es xs, apart agg (i * es) es ys with
    | some x, some y => (f x y).bind fun b => if b then aeqArr f es agg xs ys n (i + 1) else some false
    | _, _ => none

def aeqNil : NilK → AVal → AVal → Option Bool
  | .p, .nilp, .nilp => some true
  | .p, .nilp, .ptr _ _ => some false
  | .p, .ptr _ _, .nilp => some false
  | .s, .nils, .nils => some true
  | .s, .nils, .slice .. => some false
  | .s, .slice .., .nils => some false
  | .m, .nilm, .nilm => some true
  | .m, .nilm, .map _ => some false
  | .m, .map _, .nilm => some false
  | .f, .nilFunc, .nilFunc => some true
  | .f, .nilFunc, .func .. => some false
  | .f, .func .., .nilFunc => some false
  | _, _, _ => none

def aeq : EqT → AVal → AVal → Option Bool
  | .int k, x, y => match x, y with
    | .int k1 a, .int k2 b => if k1 = k ∧ k2 = k then some (a == b) else none
    | _, _ => none
  | .str, x, y => match x, y with
    | .str a, .str b => some (a == b)
    | _, _ => none
  | .bool, x, y => match x, y with
    | .bool a, .bool b => some (a == b)
    | _, _ => none
  | .nil k, x, y => aeqNil k x y
  | .fend, x, y => match x, y with
    | .agg _, .agg _ => some true
    | _, _ => none
  | .fld off n agg e rest, x, y => match x, y with
    | .agg xs, .agg ys => match apart agg off n xs, apart agg off n ys with
      | some u, some v => (aeq e u v).bind fun b => if b then aeq rest (.agg xs) (.agg ys) else some false
      | _, _ => none
    | _, _ => none
  | .array n es agg e, x, y => match x, y with
    | .agg xs, .agg ys => aeqArr (aeq e) es agg xs ys n 0
    | _, _ => none

/-- Cells put over others, from a place on. -/
def lput (l : List AVal) : Nat → List AVal → List AVal
  | _, [] => l
  | off, c :: cs => lput (l.set off c) (off + 1) cs

def afill : List AVal → List (Nat × Nat × AVal) → Option (List AVal)
  | cells, [] => some cells
  | cells, (off, n, v) :: rest => if v.cells.length = n ∧ off + n ≤ cells.length ∧ v.tup = false then afill (lput cells off v.cells) rest else none

/-- The zero values of n elements. -/
def arep (zero : List AVal) : Nat → List AVal
  | 0 => []
  | n + 1 => zero ++ arep zero n

def aload (H : AHeap) (agg : Bool) (n : Nat) : AVal → Option AVal
  | .ptr id off => match H.obj id with
    | some (.cells l _) => apart agg off n l
    | none => none
  | _ => none

def astore (H : AHeap) (n : Nat) (a x : AVal) : Option AHeap :=
  match a with
  | .ptr id off => match H.obj id with
    | some (.cells l true) => if off + n ≤ l.length ∧ x.cells.length = n ∧ x.tup = false then some (H.set id (.cells (lput l off x.cells) true)) else none
    | _ => none
  | _ => none

/-- The cells of the first n elements. -/
def acells (H : AHeap) (es n : Nat) : AVal → Option (List AVal)
  | .nils => some []
  | .slice id off len _ _ => if n * es = 0 then some [] else match H.obj id with
    | some (.cells l _) => if n ≤ len ∧ off + n * es ≤ l.length then some ((l.drop off).take (n * es)) else none
    | none => none
  | .str s => if n ≤ s.length ∧ es = 1 then some ((s.take n).map fun b => .int .u8 (b.toNat : Int)) else none
  | _ => none

def alen : AVal → Option Nat
  | .nils => some 0
  | .slice _ _ len _ _ => some len
  | .str s => some s.length
  | _ => none

def alenT : Bool → AVal → Option Nat
  | true, .str s => some s.length
  | false, .nils => some 0
  | false, .slice _ _ len _ _ => some len
  | _, _ => none

def abound (x : Option AVal) (d y : Nat) : Option Nat :=
  match x with
  | none => some d
  | some (.int _ i) => if 0 ≤ i ∧ i ≤ y then some i.toNat else none
  | some _ => none

/-- low, high, max. -/
def abounds (len cap : Nat) (lo hi mx : Option AVal) : Option (Nat × Nat × Nat) :=
  (abound mx cap cap).bind fun m => (abound hi len (if mx.isSome then m else cap)).bind fun h => (abound lo 0 h).bind fun l =>
    if mx.isSome ∧ hi.isNone then none else some (l, h, m)

def aslc (es : Nat) (x : AVal) (lo hi mx : Option AVal) : Option AVal :=
  match x with
  | .nils => (abounds 0 0 lo hi mx).map fun _ => .nils
  | .slice id off len cap g => (abounds len cap lo hi mx).bind fun (l, h, m) =>
    match g with
    | none => some (.slice id (if m = l then off else off + l * es) (h - l) (m - l) none)
    | some e => if e = es ∧ 0 < es then
        (if mx.isSome then some (.slice id (if m = l then off else off + l * es) (h - l) (m - l) none)
         else some (.slice id (off + l * es) (h - l) (m - l) (some e))) else none
  | _ => none

def aslcArr (n es : Nat) (x : AVal) (lo hi mx : Option AVal) : Option AVal :=
  match x with
  | .ptr id off => (abounds n n lo hi mx).map fun (l, h, m) => .slice id (if m = l then off else off + l * es) (h - l) (m - l) none
  | _ => none

def aminmax (isMax : Bool) : AVal → AVal → Option AVal
  | .int k x, .int k' y => if k = k' then some (.int k (if isMax then (if y > x then y else x) else (if y < x then y else x))) else none
  | _, _ => none

def afold (isMax : Bool) : AVal → List AVal → Option AVal
  | v, [] => some v
  | v, x :: l => (aminmax isMax v x).bind fun u => afold isMax u l

def aappend (H : AHeap) (es bytes : Nat) (s x : AVal) : Option (AVal × AHeap) :=
  (alen x).bind fun n => (acells H es n x).bind fun new =>
  match s with
  | .nils => if n = 0 then some (.nils, H) else
    if n * bytes ≤ 140737488355328 ∧ n ≤ 9223372036854775807 then some (.slice H.next 0 n n (some es), H.new (.cells new true)) else none
  | .slice id off len cap g =>
    if len + n ≤ cap then
      if n = 0 then some (.slice id off len cap g, H) else
      match H.obj id with
      | some (.cells l true) => if off + (len + n) * es ≤ l.length ∧ 0 < es then some (.slice id off (len + n) cap g, H.set id (.cells (lput l (off + len * es) new) true)) else none
      | _ => none
    else
      (acells H es len s).bind fun old =>
      if (len + n) * bytes ≤ 140737488355328 ∧ len + n ≤ 9223372036854775807 ∧ 0 < es then
        match g with
        | none => some (.slice H.next 0 (len + n) (len + n) (some es), H.new (.cells (old ++ new) true))
        | some e => if e = es then
            match H.obj id with
            | some (.cells _ true) => some (.slice H.next 0 (len + n) (len + n) (some es), (H.del id).new (.cells (old ++ new) true))
            | _ => none
          else none
      else none
  | _ => none

/-- n zeros put behind a slice. -/
def aappendZ (H : AHeap) (es bytes : Nat) (z : List AVal) (s : AVal) : AVal → Option (AVal × AHeap)
  | .int _ k => if 0 ≤ k ∧ k ≤ 9223372036854775807 ∧ k.toNat * bytes ≤ 281474976710656 then
      (let n := k.toNat
       let new := arep z n
       match s with
       | .nils => if n = 0 then some (.nils, H) else
         if n * bytes ≤ 140737488355328 ∧ n ≤ 9223372036854775807 then some (.slice H.next 0 n n (some es), H.new (.cells new true)) else none
       | .slice id off len cap g =>
         if len + n ≤ cap then
           if n = 0 then some (.slice id off len cap g, H) else
           match H.obj id with
           | some (.cells l true) => if off + (len + n) * es ≤ l.length ∧ 0 < es then some (.slice id off (len + n) cap g, H.set id (.cells (lput l (off + len * es) new) true)) else none
           | _ => none
         else
           (acells H es len s).bind fun old =>
           if (len + n) * bytes ≤ 140737488355328 ∧ len + n ≤ 9223372036854775807 ∧ 0 < es then
             match g with
             | none => some (.slice H.next 0 (len + n) (len + n) (some es), H.new (.cells (old ++ new) true))
             | some e => if e = es then
                 match H.obj id with
                 | some (.cells _ true) => some (.slice H.next 0 (len + n) (len + n) (some es), (H.del id).new (.cells (old ++ new) true))
                 | _ => none
               else none
           else none
       | _ => none)
    else none
  | _ => none

def acopy (H : AHeap) (es : Nat) (d s : AVal) : Option (AVal × AHeap) :=
  (alen s).bind fun n => (alen d).bind fun dl =>
  let k := Nat.min n dl
  (acells H es k s).bind fun new =>
  match d with
  | .nils => some (.int .i64 k, H)
  | .slice id off _ _ _ =>
    if k = 0 then some (.int .i64 0, H) else
    match H.obj id with
    | some (.cells l true) => if off + k * es ≤ l.length then some (.int .i64 k, H.set id (.cells (lput l off new) true)) else none
    | _ => none
  | _ => none

def aclear (H : AHeap) (es : Nat) (zero : List AVal) : AVal → Option AHeap
  | .nils => some H
  | .slice id off len _ _ => if len = 0 then some H else
    match H.obj id with
    | some (.cells l true) => if off + len * es ≤ l.length then some (H.set id (.cells (lput l off (arep zero len)) true)) else none
    | _ => none
  | _ => none

def amkS (H : AHeap) (es bytes : Nat) (zero : List AVal) : AVal → AVal → Option (AVal × AHeap)
  | .int _ l, .int _ c => if 0 ≤ l ∧ l ≤ c ∧ c ≤ 9223372036854775807 ∧ c * bytes ≤ 281474976710656 ∧ zero.length = es then
      some (.slice H.next 0 l.toNat c.toNat none, H.new (.cells (arep zero c.toNat) true)) else none
  | _, _ => none

def aidx (n : Nat) : AVal → Option Nat
  | .int _ i => if 0 ≤ i ∧ i < n then some i.toNat else none
  | _ => none

def acap : AVal → Option Nat
  | .nils => some 0
  | .slice _ _ _ cap none => some cap
  | _ => none

/-- One operation that calls nothing. -/
def aop (o : AOp) (ρ : AOpd → AVal) (H : AHeap) : Option (AVal × AHeap) :=
  let p (v : Option AVal) : Option (AVal × AHeap) := v.map fun v => (v, H)
  let u (h : Option AHeap) : Option (AVal × AHeap) := h.map fun h => (aundef, h)
  match o with
  | .mv x => some (ρ x, H)
  | .pick c a b => match ρ c with
    | .bool t => some (if t then ρ a else ρ b, H)
    | _ => none
  | .new cells => some (.ptr H.next 0, H.new (.cells cells true))
  | .box x => if (ρ x).tup then none else some (.ptr H.next 0, H.new (.cells (ρ x).cells true))
  | .build zero parts => p ((afill zero (parts.map fun (o, n, x) => (o, n, ρ x))).map .agg)
  | .buildS len zero parts => (afill zero (parts.map fun (o, n, x) => (o, n, ρ x))).map fun l => (.slice H.next 0 len len none, H.new (.cells l true))
  | .load agg n a => p (aload H agg n (ρ a))
  | .store n a x => u (astore H n (ρ a) (ρ x))
  | .nilck x => match ρ x with
    | .ptr id off => some (.ptr id off, H)
    | .func f a b => some (.func f a b, H)
    | .yield l => some (.yield l, H)
    | _ => none
  | .bin op x y => p (abin op (ρ x) (ρ y))
  | .eq neg t x y => p ((aeq t (ρ x) (ρ y)).map fun b => .bool (if neg then !b else b))
  | .un op x => p (aun op (ρ x))
  | .toInt k x => match ρ x with
    | .int _ n => some (.int k (k.wrap n), H)
    | _ => none
  | .sToB x => match ρ x with
    | .str s => some (.slice H.next 0 s.length s.length (some 1), H.new (.cells (s.map fun b => .int .u8 (b.toNat : Int)) true))
    | _ => none
  | .bToS x => match ρ x with
    | .str _ => none
    | x => (alen x).bind fun n => (acells H 1 n x).bind fun l => p ((abytes l).map .str)
  | .idS x => match ρ x with
    | .str s => some (.str s, H)
    | _ => none
  | .mkFn f first captured => some (.func f (first.map ρ) (captured.map ρ), H)
  | .mkS es bytes zero len cap => amkS H es bytes zero (ρ len) (ρ cap)
  | .slcStr x lo hi => match ρ x with
    | .str s => p ((abounds s.length s.length (lo.map ρ) (hi.map ρ) none).map fun (l, h, _) => .str ((s.take h).drop l))
    | _ => none
  | .slc es x lo hi mx => p (aslc es (ρ x) (lo.map ρ) (hi.map ρ) (mx.map ρ))
  | .slcArr n es x lo hi mx => p (aslcArr n es (ρ x) (lo.map ρ) (hi.map ρ) (mx.map ρ))
  | .fieldA off x => match ρ x with
    | .ptr id o => some (.ptr id (o + off), H)
    | _ => none
  | .field off n agg x => match ρ x with
    | .agg l => p (apart agg off n l)
    | _ => none
  | .idxAArr n es x i => match ρ x with
    | .ptr id o => p ((aidx n (ρ i)).map fun i => .ptr id (o + i * es))
    | _ => none
  | .idxASl es x i => match ρ x with
    | .slice id o len _ _ => p ((aidx len (ρ i)).map fun i => .ptr id (o + i * es))
    | _ => none
  | .idxArr n es agg x i => match ρ x with
    | .agg l => p ((aidx n (ρ i)).bind fun i => apart agg (i * es) es l)
    | _ => none
  | .idxStr x i => match ρ x with
    | .str s => p ((aidx s.length (ρ i)).bind fun i => (s[i]?).map fun b => .int .u8 (b.toNat : Int))
    | _ => none
  | .extract x i => match ρ x with
    | .tuple l => p l[i]?
    | _ => none
  | .len s x => p ((alenT s (ρ x)).map fun (n : Nat) => .int .i64 (n : Int))
  | .lenC n => some (.int .i64 (n : Int), H)
  | .append es bytes s x => aappend H es bytes (ρ s) (ρ x)
  | .appendZ es bytes z s x => aappendZ H es bytes z (ρ s) (ρ x)
  | .copy es d s => acopy H es (ρ d) (ρ s)
  | .clearS es zero x => (aclear H es zero (ρ x)).map fun h => (.tuple [], h)
  | .minmax isMax l => match l.map ρ with
    | [] => none
    | v :: l => p (afold isMax v l)
  | .mkIface t x => some (.iface t (ρ x), H)
  | .call _ _ => none
  | .die => none
  | .cap x => p ((acap (ρ x)).map fun (n : Nat) => .int .i64 (n : Int))
  | .iToF x => match ρ x with
    | .int _ n => some (.flt .f64 (FloatKind.f64.nearest n), H)
    | _ => none
  | .fToI k x => match ρ x with
    | .flt .f64 b => p ((floatToIntVal .f64 b k).map (.int k))
    | _ => none
  | .fbits x => match ρ x with
    | .flt .f64 b => if Fl.num b then some (.int .u64 (b : Int), H) else none
    | _ => none
  | .ofBits x => match ρ x with
    | .int .u64 n => some (.flt .f64 n.toNat, H)
    | _ => none
  | .ffloor x => match ρ x with
    | .flt .f64 b => if Fl.num b then some (.flt .f64 (Ieee.double.write ((Ieee.double.read b).integral .down)), H) else none
    | _ => none
where
  abytes : List AVal → Option (List UInt8)
    | [] => some []
    | .int .u8 n :: l => (abytes l).map fun r => UInt8.ofNat n.toNat :: r
    | _ :: _ => none

example : aeq (.fld 0 1 false .str .fend) (.agg [.str [1]]) (.agg [.str [1]]) = some true := rfl
end Go.Proofs.Ytilhjcnkaelheaa.Am
