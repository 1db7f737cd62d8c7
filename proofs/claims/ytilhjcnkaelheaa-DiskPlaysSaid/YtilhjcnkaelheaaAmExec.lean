/- The abstract machine's runs: with a bound on rounds and depth, and without one. -/
import Derived.Test.YtilhjcnkaelheaaAmComp
import Derived.Test.YtilhjcnkaelheaaAmGc
set_option linter.unusedSimpArgs false
set_option linter.unusedVariables false
namespace Go.Proofs.Ytilhjcnkaelheaa.Am
open Go Go.RowKit

mutual
def AVal.beq : AVal → AVal → Bool
  | .bool a, .bool b => a == b
  | .int k a, .int j b => decide (k = j) && decide (a = b)
  | .flt k a, .flt j b => decide (k = j) && a == b
  | .str a, .str b => a == b
  | .nilp, .nilp => true
  | .ptr a b, .ptr c d => a == c && b == d
  | .nils, .nils => true
  | .slice a b c d e, .slice a' b' c' d' e' => a == a' && b == b' && c == c' && d == d' && e == e'
  | .nilm, .nilm => true
  | .map a, .map b => a == b
  | .func f a b, .func g c d => f == g && beqs a c && beqs b d
  | .yield a, .yield b => a == b
  | .nilFunc, .nilFunc => true
  | .iface t v, .iface u x => t == u && AVal.beq v x
  | .nilIface, .nilIface => true
  | .agg a, .agg b => beqs a b
  | .tuple a, .tuple b => beqs a b
  | .junk, .junk => true
  | .any, .any => true
  | _, _ => false
def beqs : List AVal → List AVal → Bool
  | [], [] => true
  | a :: l, b :: k => AVal.beq a b && beqs l k
  | _, _ => false
end

mutual
theorem AVal.eq_of_beq : ∀ (a b : AVal), AVal.beq a b = true → a = b
  | .bool _, b, h => by cases b <;> simp_all [AVal.beq]
  | .int .., b, h => by cases b <;> simp_all [AVal.beq]
  | .flt .., b, h => by cases b <;> simp_all [AVal.beq]
  | .str _, b, h => by cases b <;> simp_all [AVal.beq]
  | .nilp, b, h => by cases b <;> simp_all [AVal.beq]
  | .ptr .., b, h => by cases b <;> simp_all [AVal.beq]
  | .nils, b, h => by cases b <;> simp_all [AVal.beq]
  | .slice .., b, h => by cases b <;> simp_all [AVal.beq]
  | .nilm, b, h => by cases b <;> simp_all [AVal.beq]
  | .map _, b, h => by cases b <;> simp_all [AVal.beq]
  | .func f l k, b, h => by
    cases b <;> simp [AVal.beq] at h
    rename_i g l' k'
    rw [h.1.1, eq_of_beqs l l' h.1.2, eq_of_beqs k k' h.2]
  | .yield _, b, h => by cases b <;> simp_all [AVal.beq]
  | .nilFunc, b, h => by cases b <;> simp_all [AVal.beq]
  | .iface t v, b, h => by
    cases b <;> simp [AVal.beq] at h
    rw [h.1, AVal.eq_of_beq v _ h.2]
  | .nilIface, b, h => by cases b <;> simp_all [AVal.beq]
  | .agg l, b, h => by
    cases b <;> simp [AVal.beq] at h
    rw [eq_of_beqs l _ h]
  | .tuple l, b, h => by
    cases b <;> simp [AVal.beq] at h
    rw [eq_of_beqs l _ h]
  | .junk, b, h => by cases b <;> simp_all [AVal.beq]
  | .any, b, h => by cases b <;> simp_all [AVal.beq]
theorem eq_of_beqs : ∀ (a b : List AVal), beqs a b = true → a = b
  | [], b, h => by cases b <;> simp_all [beqs]
  | x :: l, b, h => by
    cases b <;> simp [beqs] at h
    rw [AVal.eq_of_beq x _ h.1, eq_of_beqs l _ h.2]
end

mutual
theorem AVal.beq_self : ∀ (a : AVal), AVal.beq a a = true
  | .bool _ | .int .. | .flt .. | .str _ | .nilp | .ptr .. | .nils | .slice .. | .nilm | .map _ | .yield _ | .nilFunc | .nilIface | .junk | .any => by simp [AVal.beq]
  | .func f l k => by simp [AVal.beq, beqs_self l, beqs_self k]
  | .iface t v => by simp [AVal.beq, AVal.beq_self v]
  | .agg l => by simp [AVal.beq, beqs_self l]
  | .tuple l => by simp [AVal.beq, beqs_self l]
theorem beqs_self : ∀ (a : List AVal), beqs a a = true
  | [] => rfl
  | x :: l => by simp [beqs, AVal.beq_self x, beqs_self l]
end

abbrev Env := Nat → AVal
abbrev ACall := FuncId → List AVal → AHeap → Option (AVal × AHeap)

def agd (env : Env) : Option (Nat × Bool) → Bool
  | none => true
  | some (d, w) => match env d with
    | .bool b => b == w
    | _ => false

def Env.set (env : Env) (d : Nat) (v : AVal) : Env := fun t => if t = d then v else env t
def setd (env : Env) (d : Option Nat) (v : AVal) : Env :=
  match d with
  | none => env
  | some d => env.set d v

def ado (call : ACall) (o : AOp) (ρ : AOpd → AVal) (H : AHeap) : Option (AVal × AHeap) :=
  match o with
  | .call f args => match ρ f with
    | .func g first captured => call g (first ++ args.map ρ ++ captured) H
    | _ => none
  | o => aop o ρ H

def aops (call : ACall) : List AOper → Env → AHeap → Option (Env × AHeap)
  | [], env, H => some (env, H)
  | o :: l, env, H =>
    if agd env o.guard then (ado call o.op (aev env) H).bind fun r => aops call l (setd env o.dst r.1) r.2
    else aops call l (setd env o.dst aundef) H

/-- What was read, at which stages it must read the same. -/
structure ARead where
  op : AOp
  env : Env
  v : AVal
  lo : Nat
  hi : Nat

def ARead.ok (st : List AHeap) (r : ARead) : Bool :=
  (List.range (r.hi - r.lo + 1)).all fun i => match st[r.lo + i]? with
    | none => true
    | some H => match aop r.op (aev r.env) H with
      | some (v, _) => v.beq r.v
      | none => false

/-- A region that draws its order: in the order of the text; what it reads must not hang on the order. 'st': the stages of the memory, the last one last. -/
def adraw (call : ACall) : List AOper → Env → AHeap → List AHeap → List ARead → Option (Env × AHeap)
  | [], env, H, st, rs => if rs.all (ARead.ok st) then some (env, H) else none
  | o :: l, env, H, st, rs =>
    if agd env o.guard then
      (ado call o.op (aev env) H).bind fun r =>
        adraw call l (setd env o.dst r.1) r.2 (if o.op.eff then st ++ [r.2] else st)
          (match o.rd with
          | none => rs
          | some (lo, hi) => ⟨o.op, env, r.1, lo, hi⟩ :: rs)
    else adraw call l (setd env o.dst aundef) H (if o.op.eff then st ++ [H] else st) rs

inductive AExit where
  | normal
  | exit (id : Nat)
  | ret
  deriving DecidableEq, Repr, Inhabited

abbrev ARun := Env → AHeap → Option (AExit × Env × AHeap)

def aiter (f : ARun) : Nat → ARun
  | 0, _, _ => none
  | n + 1, env, H => (f env H).bind fun r => match r.1 with
    | .normal => aiter f n r.2.1 r.2.2
    | _ => some r

def ainit (args : List AVal) : Env := fun t => args.getD t aundef

/-! ### A range over a function: the function's own code is run; where it calls what it was given, the body is. -/
/-- How a round has left the body, if it has. -/
abbrev APend := Option AExit
abbrev AYield := APend → List AVal → AHeap → Option (Bool × APend × AHeap)
abbrev ARunY := APend → Env → AHeap → Option (AExit × APend × Env × AHeap)

/-- A number left out: no object bears it. -/
def AHeap.skip (H : AHeap) : AHeap := { H with next := H.next + 1 }

def ady (call : ACall) (tok : Nat) (yl : AYield) (o : AOp) (ρ : AOpd → AVal) (st : APend) (H : AHeap) : Option (AVal × APend × AHeap) :=
  match o with
  | .call f args => match ρ f with
    | .yield id => if id = tok then (yl st (args.map ρ) H).map fun r => (.bool r.1, r.2.1, r.2.2) else none
    | .func g first captured => (call g (first ++ args.map ρ ++ captured) H).map fun r => (r.1, st, r.2)
    | _ => none
  | o => (aop o ρ H).map fun r => (r.1, st, r.2)

def aopsY (call : ACall) (tok : Nat) (yl : AYield) : List AOper → APend → Env → AHeap → Option (APend × Env × AHeap)
  | [], st, env, H => some (st, env, H)
  | o :: l, st, env, H =>
    if agd env o.guard then (ady call tok yl o.op (aev env) st H).bind fun r => aopsY call tok yl l r.2.1 (setd env o.dst r.1) r.2.2
    else aopsY call tok yl l st (setd env o.dst aundef) H

def aiterY (f : ARunY) : Nat → ARunY
  | 0, _, _, _ => none
  | n + 1, st, env, H => (f st env H).bind fun r => match r.1 with
    | .normal => aiterY f n r.2.1 r.2.2.1 r.2.2.2
    | _ => some r

def aexecY (call : ACall) (tok : Nat) (yl : AYield) (n : Nat) : ACode → ARunY
  | .skip, st, env, H => some (.normal, st, env, H)
  | .region ops, st, env, H => (aopsY call tok yl ops st env H).map fun r => (.normal, r.1, r.2.1, r.2.2)
  | .draw ops, st, env, H => (adraw call ops env H [H] []).map fun r => (.normal, st, r.1, r.2)
  | .seq a b, st, env, H => (aexecY call tok yl n a st env H).bind fun r => match r.1 with
    | .normal => aexecY call tok yl n b r.2.1 r.2.2.1 r.2.2.2
    | _ => some r
  | .cond c a b, st, env, H => match aev env c with
    | .bool t => if t then aexecY call tok yl n a st env H else aexecY call tok yl n b st env H
    | _ => none
  | .block id a, st, env, H => (aexecY call tok yl n a st env H).map fun r => match r.1 with
    | .exit i => if i = id then (.normal, r.2) else r
    | _ => r
  | .loop a, st, env, H => aiterY (aexecY call tok yl n a) n st env H
  | .exit id, st, env, H => some (.exit id, st, env, H)
  | .ret, st, env, H => some (.ret, st, env, H)
  | .range .., _, _, _ => none

def setps : Env → List Nat → List AVal → Env
  | env, p :: ps, v :: vs => setps (Env.set env p v) ps vs
  | env, _, _ => env

/-- One round: the assignment, then the body, on the variables as they stood. -/
def ayield (fa fb : ARun) (ps : List Nat) (env : Env) : AYield := fun st args H =>
  if st.isNone = true ∧ args.length = ps.length then
    (fa (setps env ps args) H).bind fun r => match r.1 with
      | .normal => (fb r.2.1 r.2.2).map fun q => match q.1 with
        | .normal => (true, none, q.2.2)
        | e => (false, some e, q.2.2)
      | _ => none
  else none

def arange (call : ACall) (it : FuncId → Option AFn) (n : Nat) (fa fb : ARun) (ps : List Nat) (env : Env) (H : AHeap) : AVal → Option (AExit × Env × AHeap)
  | .func g first captured => (it g).bind fun fn => if fn.results.isEmpty = true then
      (aexecY call H.next (ayield fa fb ps env) n fn.body none (ainit (first ++ [.yield H.next] ++ captured)) H.skip).bind fun r => match r.1 with
        | .exit _ => none
        | _ => some (r.2.1.getD .normal, env, r.2.2.2)
      else none
  | _ => none

def aexec (call : ACall) (it : FuncId → Option AFn) (n : Nat) : ACode → ARun
  | .skip, env, H => some (.normal, env, H)
  | .region ops, env, H => (aops call ops env H).map fun r => (.normal, r.1, r.2)
  | .draw ops, env, H => (adraw call ops env H [H] []).map fun r => (.normal, r.1, r.2)
  | .seq a b, env, H => (aexec call it n a env H).bind fun r => match r.1 with
    | .normal => aexec call it n b r.2.1 r.2.2
    | _ => some r
  | .cond c a b, env, H => match aev env c with
    | .bool t => if t then aexec call it n a env H else aexec call it n b env H
    | _ => none
  | .block id a, env, H => (aexec call it n a env H).map fun r => match r.1 with
    | .exit i => if i = id then (.normal, r.2) else r
    | _ => r
  | .loop a, env, H => aiter (aexec call it n a) n env H
  | .exit id, env, H => some (.exit id, env, H)
  | .ret, env, H => some (.ret, env, H)
  | .range f ps as bd, env, H => arange call it n (aexec call it n as) (aexec call it n bd) ps env H (aev env f)

def aress (H : AHeap) (env : Env) : List ARes → Option (List AVal)
  | [] => some []
  | .tmp t :: l => (aress H env l).map fun r => env t :: r
  | .cell a g n :: l => (aload H g n (env a)).bind fun v => (aress H env l).map fun r => v :: r

def aret : List AVal → AVal
  | [v] => v
  | l => .tuple l


def aend (fn : AFn) (r : AExit × Env × AHeap) : Option (AVal × AHeap) :=
  match r.1 with
  | .exit _ => none
  | _ => (aress r.2.2 r.2.1 fn.results).map fun l => (aret l, r.2.2)

structure AProg where
  fn : FuncId → Option AFn
  ext : FuncId → Option (List AVal → AHeap → Option (AVal × AHeap))
  /-- How a call is followed: 0: as it is; 1: on plain values, in an empty memory; others: in the memory as it is, nothing of it to be written. In 1 and others, what it makes besides its answer is left behind. -/
  mode : FuncId → Nat := fun _ => 0

def gcX (n : Nat) (H : AHeap) : Option (AVal × AHeap) → Option (AVal × AHeap)
  | none => none
  | some (v, H') => some (gc n H v H')

def arun (call : ACall) (it : FuncId → Option AFn) (k : Nat) (fn : Option AFn) (args : List AVal) (H : AHeap) : Option (AVal × AHeap) :=
  fn.bind fun fn => (aexec call it k fn.body (ainit args) H).bind fun r => aend fn r

def acall (A : AProg) : Nat → ACall
  | 0, _, _, _ => none
  | k + 1, f, args, H => match A.ext f with
    | some g => g args H
    | none => match A.mode f with
      | 0 => arun (acall A k) A.fn k (A.fn f) args H
      | 1 => if plains args then gcX 0 H (arun (acall A k) A.fn k (A.fn f) args noH) else none
      | _ => gcX H.next H (arun (acall A k) A.fn k (A.fn f) args (frz H))

/-- No number is taken back, and what is read alone stood there before. -/
def Up (H H' : AHeap) : Prop := H.next ≤ H'.next ∧ ∀ id l, H'.obj id = some (.cells l false) → H.obj id = some (.cells l false)
theorem Up.refl (H : AHeap) : Up H H := ⟨Nat.le_refl _, fun _ _ h => h⟩
theorem Up.trans {a b c : AHeap} (h : Up a b) (k : Up b c) : Up a c := ⟨Nat.le_trans h.1 k.1, fun id l hl => h.2 id l (k.2 id l hl)⟩
theorem Up.new (H : AHeap) (l : List AVal) : Up H (H.new (.cells l true)) := ⟨Nat.le_succ _, fun id k h => by
  simp only [AHeap.new] at h
  split at h
  · cases h
  · exact h⟩
theorem Up.set (H : AHeap) (i : Nat) (l : List AVal) : Up H (H.set i (.cells l true)) := ⟨Nat.le_refl _, fun id k h => by
  simp only [AHeap.set] at h
  split at h
  · cases h
  · exact h⟩
theorem Up.del (H : AHeap) (i : Nat) : Up H (H.del i) := ⟨Nat.le_refl _, fun id k h => by
  simp only [AHeap.del] at h
  split at h
  · cases h
  · exact h⟩


end Go.Proofs.Ytilhjcnkaelheaa.Am
