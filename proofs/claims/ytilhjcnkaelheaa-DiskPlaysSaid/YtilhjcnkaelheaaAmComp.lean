/- A program's operations, resolved against its type table, into the abstract machine's code. -/
import Derived.Test.YtilhjcnkaelheaaAmMem
import Derived.CheckFast
namespace Go.Proofs.Ytilhjcnkaelheaa.Am
open Go Go.RowKit

def cval1 : Value → Option AVal
  | .bool b => some (.bool b)
  | .int k n => some (.int k n)
  | .float k b => some (.flt k b)
  | .string s => some (.str s.data.toList)
  | .pointer none => some .nilp
  | .slice none 0 0 => some .nils
  | .map none => some .nilm
  | .nilFunc => some .nilFunc
  | .nilIface => some .nilIface
  | _ => none

def cvals : List Value → Option (List AVal)
  | [] => some []
  | v :: l => (cval1 v).bind fun x => (cvals l).map fun r => x :: r

def cval : Value → Option AVal
  | .agg c => (cvals c.toList).map .agg
  | .tuple c => (cvals c.toList).map .tuple
  | v => cval1 v

def copd (nt : Nat) : Operand → Option AOpd
  | .tmp t => if t < nt then some (.tmp t) else none
  | .const v => (cval v).map .con
  | .func f => some (.con (.func f [] []))
  | .global _ => none

def copds (nt : Nat) : List Operand → Option (List AOpd)
  | [] => some []
  | x :: l => (copd nt x).bind fun y => (copds nt l).map fun r => y :: r

def copdo (nt : Nat) : Option Operand → Option (Option AOpd)
  | none => some none
  | some x => (copd nt x).map some

def tsize (P : Program) (t : TypeId) : Option Nat := (P.info? t).map (·.size)
def tbytes (P : Program) (t : TypeId) : Option Nat := (P.info? t).map (·.bytes)
def tagg (P : Program) (t : TypeId) : Option Bool := (P.underlying t).map fun d => match d with
  | .struct _ => true
  | .array _ _ => true
  | _ => false
/-- The zero value's cells. -/
def tzero (P : Program) (t : TypeId) : Option (List AVal) := ((P.info? t).bind (·.zero)).bind fun z => cvals z.cells.toList

def cparts (nt : Nat) (place : Nat → Option (Nat × Nat)) : List (Nat × Operand) → Option (List (Nat × Nat × AOpd))
  | [] => some []
  | (i, x) :: l => (place i).bind fun (o, n) => (copd nt x).bind fun y => (cparts nt place l).map fun r => (o, n, y) :: r

def cplaces (P : Program) : List Field → Option (List (Nat × Nat))
  | [] => some []
  | f :: l => (tsize P f.type).bind fun n => (cplaces P l).map fun r => (f.offset, n) :: r

def cflds (P : Program) (c : TypeId → Option EqT) : List Field → Option EqT
  | [] => some .fend
  | f :: l => if f.name = "_" then none else (tsize P f.type).bind fun n => (tagg P f.type).bind fun a => (c f.type).bind fun q => (cflds P c l).map fun r => .fld f.offset n a q r

def ceqt (P : Program) : Nat → TypeId → Option EqT
  | 0, _ => none
  | d + 1, t => (P.underlying t).bind fun u => match u with
    | .int k => some (.int k)
    | .string => some .str
    | .bool => some .bool
    | .pointer _ => some (.nil .p)
    | .slice _ => some (.nil .s)
    | .map _ _ => some (.nil .m)
    | .func _ _ _ => some (.nil .f)
    | .struct fs => if P.stoodInHeld t || P.eqGuardType P.depth t then none else cflds P (ceqt P d) fs.toList
    | .array n e => if P.eqGuardType P.depth t then none else (tsize P e).bind fun es => (tagg P e).bind fun a => (ceqt P d e).map fun q => .array n es a q
    | _ => none

def cbin (P : Program) (nt : Nat) (op : BinOp) (t : TypeId) (x y : Operand) : Option AOp :=
  (copd nt x).bind fun x' => (copd nt y).bind fun y' => (P.underlying t).bind fun u =>
  match u with
  | .int _ => some (.bin op x' y')
  | .string => some (.bin op x' y')
  | .float _ => some (.bin op x' y')
  | _ => match op with
    | .eql => (ceqt P 12 t).map fun q => .eq false q x' y'
    | .neq => (ceqt P 12 t).map fun q => .eq true q x' y'
    | _ => none

def cconv (P : Program) (nt : Nat) (src dst : TypeId) (x : Operand) : Option AOp :=
  (copd nt x).bind fun x' => (P.underlying src).bind fun s => (P.underlying dst).bind fun d =>
  match s, d with
  | .int _, .int k => some (.toInt k x')
  | .int _, .float .f64 => some (.iToF x')
  | .float .f64, .int k => some (.fToI k x')
  | .string, .string => some (.idS x')
  | .string, .slice e => (P.underlying e).bind fun u => match u with
    | .int .u8 => some (.sToB x')
    | _ => none
  | .slice e, .string => (P.underlying e).bind fun u => match u with
    | .int .u8 => some (.bToS x')
    | _ => none
  | _, _ => none

def cslice (P : Program) (nt : Nat) (t : TypeId) (x : Operand) (lo hi mx : Option Operand) : Option AOp :=
  (copd nt x).bind fun x' => (copdo nt lo).bind fun lo' => (copdo nt hi).bind fun hi' => (copdo nt mx).bind fun mx' => (P.underlying t).bind fun u =>
  match u with
  | .array n e => (tsize P e).map fun es => .slcArr n es x' lo' hi' mx'
  | .string => if mx.isSome then none else some (.slcStr x' lo' hi')
  | .slice e => (tsize P e).map fun es => .slc es x' lo' hi' mx'
  | .pointer arr => (P.underlying arr).bind fun a => match a with
    | .array n e => (tsize P e).map fun es => .slcArr n es x' lo' hi' mx'
    | _ => none
  | _ => none

def cbuiltin (P : Program) (b : Builtin) (argTypes : List TypeId) (args : List AOpd) : Option AOp :=
  match b, argTypes, args with
  | .len, [t], [x] => (P.underlying t).bind fun u => match u with
    | .string => some (.len true x)
    | .slice _ => some (.len false x)
    | .array n _ => some (.lenC n)
    | .pointer arr => (P.underlying arr).bind fun a => match a with
      | .array n _ => some (.lenC n)
      | _ => none
    | _ => none
  | .append, [t, t'], [s, x] => (P.underlying t).bind fun u => (P.underlying t').bind fun u' => match u, u' with
    | .slice e, .string => (tsize P e).bind fun es => (tbytes P e).bind fun bs => (tzero P e).bind fun z => if z.length = es then some (.append es bs s x) else none
    | .slice e, .slice _ => (tsize P e).bind fun es => (tbytes P e).bind fun bs => (tzero P e).bind fun z => if z.length = es then some (.append es bs s x) else none
    | .slice e, .int _ => (tsize P e).bind fun es => (tbytes P e).bind fun bs => (tzero P e).bind fun z => if z.length = es then some (.appendZ es bs z s x) else none
    | _, _ => none
  | .copy, [t, _], [d, s] => (P.underlying t).bind fun u => match u with
    | .slice e => (tsize P e).map fun es => .copy es d s
    | _ => none
  | .clear, [t], [x] => (P.underlying t).bind fun u => match u with
    | .slice e => (tsize P e).bind fun es => (tzero P e).bind fun z => if z.length = es then some (.clearS es z x) else none
    | _ => none
  | .min, _, l => some (.minmax false l)
  | .max, _, l => some (.minmax true l)
  | .cap, [t], [x] => (P.underlying t).bind fun u => match u with
    | .slice _ => some (.cap x)
    | _ => none
  | _, _, _ => none

def cop (P : Program) (nt : Nat) (o : Op) : Option AOp :=
  match o with
  | .move x => (copd nt x).map .mv
  | .assign x => (copd nt x).map .mv
  | .pick c a b => (copd nt c).bind fun c' => (copd nt a).bind fun a' => (copd nt b).map fun b' => .pick c' a' b'
  | .alloc t => (tzero P t).map .new
  | .box _ x => (copd nt x).map .box
  | .build t parts => (tzero P t).bind fun z => (P.underlying t).bind fun u => match u with
    | .struct fs => (cplaces P fs.toList).bind fun ps => (cparts nt (fun i => ps[i]?) parts.toList).map fun q => .build z q
    | .array _ e => (tsize P e).bind fun es => (cparts nt (fun i => some (i * es, es)) parts.toList).map fun q => .build z q
    | _ => none
  | .buildSlice t len parts => (P.underlying t).bind fun u => match u with
    | .slice e => (tsize P e).bind fun es => (tzero P e).bind fun z => if z.length = es ∧ 0 < es ∧ len * es ≤ 16777216 then
        (cparts nt (fun i => some (i * es, es)) parts.toList).map fun q => .buildS len (arep z len) q else none
    | _ => none
  | .load t a => (tagg P t).bind fun g => (tsize P t).bind fun n => (copd nt a).map fun a' => .load g n a'
  | .store t a x => (tsize P t).bind fun n => (copd nt a).bind fun a' => (copd nt x).map fun x' => .store n a' x'
  | .nilCheck x => (copd nt x).map .nilck
  | .binOp op t x y _ => cbin P nt op t x y
  | .unOp op _ x => (copd nt x).map fun x' => .un op x'
  | .convert s d x => cconv P nt s d x
  | .makeFunc fn first captured => match fn with
    | .func f => (copds nt first.toList).bind fun a => (copds nt captured.toList).map fun b => .mkFn f a b
    | _ => none
  | .makeSlice t l c => (P.underlying t).bind fun u => match u with
    | .slice e => (tsize P e).bind fun es => (tbytes P e).bind fun bs => (tzero P e).bind fun z => if z.length = es then
        (copd nt l).bind fun l' => (copd nt c).map fun c' => .mkS es bs z l' c' else none
    | _ => none
  | .slice t x lo hi mx => cslice P nt t x lo hi mx
  | .fieldAddr t x f => (P.underlying t).bind fun u => match u with
    | .struct fs => (fs[f]?).bind fun fd => (tsize P fd.type).bind fun n => if n = 0 then none else (copd nt x).map fun x' => .fieldA fd.offset x'
    | _ => none
  | .field t x f => (P.underlying t).bind fun u => match u with
    | .struct fs => (fs[f]?).bind fun fd => (tsize P fd.type).bind fun n => (tagg P fd.type).bind fun g => (copd nt x).map fun x' => .field fd.offset n g x'
    | _ => none
  | .indexAddr t x i => (P.underlying t).bind fun u => (copd nt x).bind fun x' => (copd nt i).bind fun i' => match u with
    | .array n e => (tsize P e).map fun es => .idxAArr n es x' i'
    | .slice e => (tsize P e).map fun es => .idxASl es x' i'
    | _ => none
  | .index t x i => (P.underlying t).bind fun u => (copd nt x).bind fun x' => (copd nt i).bind fun i' => match u with
    | .array n e => (tsize P e).bind fun es => (tagg P e).map fun g => .idxArr n es g x' i'
    | .string => some (.idxStr x' i')
    | _ => none
  | .extract x i => (copd nt x).map fun x' => .extract x' i
  | .makeInterface t x => (P.underlying t).bind fun u => match u with
    | .interface _ => none
    | _ => (copd nt x).map fun x' => .mkIface t x'
  | .call { callee := .builtin b, args, argTypes } => (copds nt args.toList).bind fun as => cbuiltin P b argTypes.toList as
  | _ => none

def AOp.isCall : AOp → Bool
  | .call _ _ => true
  | _ => false

/-- A call of a function value, or another operation. -/
def ccall (nt : Nat) : Op → Option (Option AOp)
  | .call { callee := .value f, args, .. } => some ((copd nt f).bind fun f' => (copds nt args.toList).map fun as => .call f' as)
  | _ => none

/-- A call of a function of Go's library that the machine answers itself. -/
def cextern (P : Program) (nt : Nat) : Op → Option AOp
  | .call { callee := .value (.func f), args, .. } => (P.funcs[f]?).bind fun fn => if fn.body.isNone = true ∧ fn.origin = "" then
      (match args.toList with
       | [x] => (copd nt x).bind fun x' => if fn.name = "math.Float64bits" then some (.fbits x') else if fn.name = "math.Float64frombits" then some (.ofBits x') else if fn.name = "math.archFloor" then some (.ffloor x') else none
       | _ => none) else none
  | _ => none

def copc1 (P : Program) (nt : Nat) (o : Op) : Option AOp :=
  match ccall nt o with
  | some r => r
  | none => (cop P nt o).bind fun a => if a.isCall then none else some a

def copc0 (P : Program) (nt : Nat) (o : Op) : Option AOp :=
  match cextern P nt o with
  | some a => some a
  | none => copc1 P nt o

/-- What is not known is where the machine stops. -/
def copc (P : Program) (nt : Nat) (o : Op) : Option AOp := some ((copc0 P nt o).getD .die)
/-- Code that stops. -/
def dead : ACode := .region [{ dst := none, op := .die, guard := none }]

/-- May the operation change the memory? -/
def AOp.eff : AOp → Bool
  | .new _ | .box _ | .buildS .. | .store .. | .sToB _ | .mkS .. | .append .. | .appendZ .. | .copy .. | .clearS .. | .call .. => true
  | _ => false
/-- Does it make a new object of what it is given, and nothing else? -/
def AOp.fresh : AOp → Bool
  | .new _ | .box _ | .buildS .. => true
  | _ => false
/-- Does it look at the memory? -/
def AOp.reads : AOp → Bool
  | .load .. | .bToS _ => true
  | _ => false

def cguard (ops : Array Oper) (nt : Nat) : Option (Nat × Bool) → Option (Option (Nat × Bool))
  | none => some none
  | some (j, w) => match (ops[j]?).bind (·.dst) with
    | some d => if d < nt then some (some (d, w)) else none
    | none => none

def cdst (nt : Nat) : Option Nat → Bool
  | none => true
  | some d => d < nt

def coper (P : Program) (ops : Array Oper) (nt : Nat) (o : Oper) : Option AOper :=
  if cdst nt o.dst then (copc P nt o.op).bind fun a => (cguard ops nt o.guard).map fun g => { dst := o.dst, op := a, guard := g, rd := none } else none

def copers (P : Program) (ops : Array Oper) (nt : Nat) : List Oper → Option (List AOper)
  | [] => some []
  | o :: l => (coper P ops nt o).bind fun a => (copers P ops nt l).map fun r => a :: r

def AOpd.t? : AOpd → Option Nat
  | .tmp t => some t
  | .con _ => none

def AOp.opds : AOp → List AOpd
  | .mv x | .box x | .load _ _ x | .nilck x | .un _ x | .toInt _ x | .iToF x | .fToI _ x | .fbits x | .ofBits x | .ffloor x | .sToB x | .bToS x | .idS x | .fieldA _ x | .field _ _ _ x | .extract x _ | .len _ x | .cap x | .clearS _ _ x | .mkIface _ x => [x]
  | .new _ | .lenC _ | .die => []
  | .pick c a b => [c, a, b]
  | .build _ ps | .buildS _ _ ps => ps.map fun p => p.2.2
  | .store _ a x | .bin _ a x | .eq _ _ a x | .mkS _ _ _ a x | .idxAArr _ _ a x | .idxASl _ a x | .idxArr _ _ _ a x | .idxStr a x | .append _ _ a x | .appendZ _ _ _ a x | .copy _ a x => [a, x]
  | .mkFn _ l k => l ++ k
  | .slcStr x lo hi => [x] ++ lo.toList ++ hi.toList
  | .slc _ x lo hi mx | .slcArr _ _ x lo hi mx => [x] ++ lo.toList ++ hi.toList ++ mx.toList
  | .minmax _ l => l
  | .call f l => f :: l

def AOper.looks (x : AOper) : List Nat := x.op.opds.filterMap AOpd.t? ++ (x.guard.map (·.1)).toList

/-! In a region that draws its order: the operations that may change the memory stand in one order, and no temporary is named by two operations of which one writes it, unless they do. 'b': for each operation the ones that come before it whatever the order, as bits. -/
def effb (al : List AOper) (j : Nat) : Bool := ((al[j]?).map (·.op.eff)).getD false
/-- An effect that is more than a new object. -/
def hardb (al : List AOper) (j : Nat) : Bool := ((al[j]?).map fun x => x.op.eff && !x.op.fresh).getD false

def chained (al : List AOper) (b : Nat → Nat) : Bool :=
  (List.range al.length).all fun j => !hardb al j || (List.range j).all fun i => !effb al i || (b j).testBit i

def tempsOk (al : List AOper) (b : Nat → Nat) : Bool :=
  al.zipIdx.all fun (x, i) => match x.dst with
    | none => true
    | some d => al.zipIdx.all fun (y, j) => i == j || !(y.looks.contains d || y.dst == some d) || (b (max i j)).testBit (min i j)

def edgesOk (ops : List Oper) : Bool := ops.zipIdx.all fun (o, i) => o.after.all fun e => !Region.binds .any e || e.on < i

def stagesOf (al : List AOper) (b : Nat → Nat) (j : Nat) : Nat × Nat :=
  (((List.range al.length).takeWhile fun i => !effb al i || (b j).testBit i).countP fun i => effb al i,
   ((List.range al.length).takeWhile fun i => !(effb al i && (b i).testBit j)).countP fun i => effb al i)

def rdOf (al : List AOper) (b : Nat → Nat) (x : AOper) (j : Nat) : Option (Nat × Nat) :=
  if x.op.reads then (if (stagesOf al b j).1 = (stagesOf al b j).2 then none else some (stagesOf al b j)) else none

def withRds (al : List AOper) (b : Nat → Nat) : List AOper := al.zipIdx.map fun (x, j) => { x with rd := rdOf al b x j }

def drawOf (ops : Array Oper) (al : List AOper) (b : List Nat) : Option ACode :=
  if edgesOk ops.toList && chained (withRds al (fun i => b.getD i 0)) (fun i => b.getD i 0) && tempsOk (withRds al (fun i => b.getD i 0)) (fun i => b.getD i 0) then some (.draw (withRds al (fun i => b.getD i 0))) else none

/-- 'rok': a range over a function may stand here (not within another one's round). -/
def ccode (P : Program) (nt : Nat) (rok : Bool) : Code → Option ACode
  | .skip => some .skip
  | .region _ ops false => some (((copers P ops nt ops.toList).map ACode.region).getD dead)
  | .region _ ops true => some (((copers P ops nt ops.toList).bind fun al => drawOf ops al (CheckFast.beforeF ops).toList).getD dead)
  | .seq a b => (ccode P nt rok a).bind fun x => (ccode P nt rok b).map fun y => .seq x y
  | .cond c a b => match copd nt c with
    | none => some dead
    | some c' => (ccode P nt rok a).bind fun x => (ccode P nt rok b).map fun y => .cond c' x y
  | .block id a => (ccode P nt rok a).map fun x => .block id x
  | .loop a => (ccode P nt rok a).map .loop
  | .exit id => some (.exit id)
  | .ret => some .ret
  | .rangeFunc g ps assign body => if rok = true ∧ ps.toList.all (fun t => decide (t < nt)) = true then
      (match copd nt g with
       | none => some dead
       | some f => (ccode P nt false assign).bind fun x => (ccode P nt false body).map fun y => .range f ps.toList x y) else some dead
  | _ => some dead

def cres (P : Program) (nt : Nat) : List ResultVar → Option (List ARes)
  | [] => some []
  | .tmp t :: l => if t < nt then (cres P nt l).map fun r => .tmp t :: r else none
  | .cell a t :: l => if a < nt then (tagg P t).bind fun g => (tsize P t).bind fun n => (cres P nt l).map fun r => .cell a g n :: r else none

def cfn (P : Program) (f : FuncId) : Option AFn :=
  (P.funcs[f]?).bind fun fn => if fn.name = "runtime.NumGoroutine" then none else fn.body.bind fun c => (ccode P fn.ntmps true c).bind fun a => (cres P fn.ntmps fn.results.toList).map fun r => { body := a, results := r }

end Go.Proofs.Ytilhjcnkaelheaa.Am
