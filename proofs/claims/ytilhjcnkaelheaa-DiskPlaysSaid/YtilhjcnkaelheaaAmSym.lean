/- Following a run by rewriting: each operation by an equation of its own, what comes after held as data. -/
import Derived.Test.YtilhjcnkaelheaaAmFree
set_option linter.unusedSimpArgs false
set_option linter.unusedVariables false
namespace Go.Proofs.Ytilhjcnkaelheaa.Am
open Go

/-- An equation that is not to be taken for a step of mere unfolding. -/
theorem hid {α : Type} {a b : α} (h : a = b) : a = b := h

/-- One way or the other; each is followed knowing the test. -/
def cnd {α : Type} (b : Bool) (x y : α) : α := match b with
  | true => x
  | false => y
@[simp] theorem cnd_true {α : Type} (x y : α) : cnd true x y = x := hid rfl
@[simp] theorem cnd_false {α : Type} (x y : α) : cnd false x y = y := hid rfl
@[simp] theorem cnd_same {α : Type} (b : Bool) (x : α) : cnd b x x = x := by cases b <;> rfl
theorem cnd_ite {α : Type} (b : Bool) (x y : α) : cnd b x y = if b = true then x else y := by cases b <;> rfl
theorem cnd_some {α : Type} (b : Bool) (x y : α) : cnd b (some x) (some y) = some (cnd b x y) := by cases b <;> rfl
theorem cnd_bool (b x y : Bool) : cnd b (AVal.bool x) (AVal.bool y) = .bool (cnd b x y) := by cases b <;> rfl
theorem cnd_int (b : Bool) (k : IntKind) (x y : Int) : cnd b (AVal.int k x) (AVal.int k y) = .int k (cnd b x y) := by cases b <;> rfl
theorem cnd_pair {α β : Type} (b : Bool) (x y : α) (u v : β) : cnd b (x, u) (y, v) = (cnd b x y, cnd b u v) := by cases b <;> rfl
@[congr] theorem cnd_test {α : Type} {b c : Bool} {x y : α} (h : b = c) : cnd b x y = cnd c x y := by rw [h]
theorem cnd_split {α : Type} {b : Bool} {x y r : α} (h1 : b = true → x = r) (h0 : b = false → y = r) : cnd b x y = r := by
  cases b
  · exact h0 rfl
  · exact h1 rfl

/-- One operation's answer is laid into its slot; then the rest. -/
def stepO (call : ACall) (l : List AOper) (d : Option Nat) (env : Env) : Option (AVal × AHeap) → Option (Env × AHeap)
  | none => none
  | some (v, H) => aops call l (setd env d v) H

/-- An operation behind a guard. -/
def grd (call : ACall) (o : AOp) (l : List AOper) (d : Option Nat) (env : Env) (H : AHeap) (w : Bool) : AVal → Option (Env × AHeap)
  | .bool b => cnd (b == w) (stepO call l d env (ado call o (aev env) H)) (aops call l (setd env d aundef) H)
  | _ => aops call l (setd env d aundef) H

def outX : Option (Env × AHeap) → Option (AExit × Env × AHeap)
  | none => none
  | some (env, H) => some (.normal, env, H)

noncomputable def seqX (A : AProg) (b : ACode) : Option (AExit × Env × AHeap) → Option (AExit × Env × AHeap)
  | none => none
  | some (.normal, env, H) => AX A b env H
  | some (.exit i, env, H) => some (.exit i, env, H)
  | some (.ret, env, H) => some (.ret, env, H)

noncomputable def condX (A : AProg) (a b : ACode) (env : Env) (H : AHeap) : AVal → Option (AExit × Env × AHeap)
  | .bool t => cnd t (AX A a env H) (AX A b env H)
  | _ => none

def blockX (id : Nat) : Option (AExit × Env × AHeap) → Option (AExit × Env × AHeap)
  | none => none
  | some (.normal, env, H) => some (.normal, env, H)
  | some (.exit i, env, H) => if i = id then some (.normal, env, H) else some (.exit i, env, H)
  | some (.ret, env, H) => some (.ret, env, H)

def endX (rs : List ARes) : Option (AExit × Env × AHeap) → Option (AVal × AHeap)
  | none => none
  | some (.exit _, _, _) => none
  | some (.normal, env, H) => (aress H env rs).map fun l => (aret l, H)
  | some (.ret, env, H) => (aress H env rs).map fun l => (aret l, H)

def vX (H : AHeap) : Option AVal → Option (AVal × AHeap)
  | none => none
  | some v => some (v, H)

def hX : Option AHeap → Option (AVal × AHeap)
  | none => none
  | some H => some (aundef, H)

def callX (call : ACall) (l : List AVal) (H : AHeap) : AVal → Option (AVal × AHeap)
  | .func g f c => call g (f ++ l ++ c) H
  | _ => none

def consX (v : AVal) : Option (List AVal) → Option (List AVal)
  | none => none
  | some l => some (v :: l)

def cellX (v : Option AVal) (x : Option (List AVal)) : Option (List AVal) :=
  match v with
  | none => none
  | some v => consX v x

def retX (H : AHeap) : Option (List AVal) → Option (AVal × AHeap)
  | none => none
  | some l => some (aret l, H)

variable {A : AProg} {call : ACall}

theorem b_tf : (true == false) = false := hid rfl
theorem b_ft : (false == true) = false := hid rfl
theorem stepO_some (l : List AOper) (d : Option Nat) (env : Env) (v : AVal) (H : AHeap) : stepO call l d env (some (v, H)) = aops call l (setd env d v) H := hid rfl
theorem stepO_none (l : List AOper) (d : Option Nat) (env : Env) : stepO call l d env none = none := hid rfl
theorem stepO_cnd (l : List AOper) (d : Option Nat) (env : Env) (c : Bool) (x y : Option (AVal × AHeap)) : stepO call l d env (cnd c x y) = cnd c (stepO call l d env x) (stepO call l d env y) := by cases c <;> rfl
theorem outX_some (env : Env) (H : AHeap) : outX (some (env, H)) = some (.normal, env, H) := hid rfl
theorem outX_none : outX none = none := hid rfl
theorem outX_cnd (c : Bool) (x y : Option (Env × AHeap)) : outX (cnd c x y) = cnd c (outX x) (outX y) := by cases c <;> rfl
theorem seqX_normal (b : ACode) (env : Env) (H : AHeap) : seqX A b (some (.normal, env, H)) = AX A b env H := hid rfl
theorem seqX_exit (b : ACode) (i : Nat) (env : Env) (H : AHeap) : seqX A b (some (.exit i, env, H)) = some (.exit i, env, H) := hid rfl
theorem seqX_ret (b : ACode) (env : Env) (H : AHeap) : seqX A b (some (.ret, env, H)) = some (.ret, env, H) := hid rfl
theorem seqX_none (b : ACode) : seqX A b none = none := hid rfl
theorem seqX_cnd (b : ACode) (c : Bool) (x y : Option (AExit × Env × AHeap)) : seqX A b (cnd c x y) = cnd c (seqX A b x) (seqX A b y) := by cases c <;> rfl
theorem condX_bool (a b : ACode) (env : Env) (H : AHeap) (t : Bool) : condX A a b env H (.bool t) = cnd t (AX A a env H) (AX A b env H) := hid rfl
theorem blockX_normal (id : Nat) (env : Env) (H : AHeap) : blockX id (some (.normal, env, H)) = some (.normal, env, H) := hid rfl
theorem blockX_exit (id i : Nat) (env : Env) (H : AHeap) : blockX id (some (.exit i, env, H)) = if i = id then some (.normal, env, H) else some (.exit i, env, H) := hid rfl
theorem blockX_ret (id : Nat) (env : Env) (H : AHeap) : blockX id (some (.ret, env, H)) = some (.ret, env, H) := hid rfl
theorem blockX_none (id : Nat) : blockX id none = none := hid rfl
theorem blockX_cnd (id : Nat) (c : Bool) (x y : Option (AExit × Env × AHeap)) : blockX id (cnd c x y) = cnd c (blockX id x) (blockX id y) := by cases c <;> rfl
theorem endX_normal (rs : List ARes) (env : Env) (H : AHeap) : endX rs (some (.normal, env, H)) = retX H (aress H env rs) := by
  cases h : aress H env rs <;> simp [endX, retX, h]
theorem endX_ret (rs : List ARes) (env : Env) (H : AHeap) : endX rs (some (.ret, env, H)) = retX H (aress H env rs) := by
  cases h : aress H env rs <;> simp [endX, retX, h]
theorem endX_none (rs : List ARes) : endX rs none = none := hid rfl
theorem endX_cnd (rs : List ARes) (c : Bool) (x y : Option (AExit × Env × AHeap)) : endX rs (cnd c x y) = cnd c (endX rs x) (endX rs y) := by cases c <;> rfl
theorem vX_some (H : AHeap) (v : AVal) : vX H (some v) = some (v, H) := hid rfl
theorem vX_none (H : AHeap) : vX H none = none := hid rfl
theorem vX_cnd (H : AHeap) (c : Bool) (x y : Option AVal) : vX H (cnd c x y) = cnd c (vX H x) (vX H y) := by cases c <;> rfl
theorem hX_some (H : AHeap) : hX (some H) = some (aundef, H) := hid rfl
theorem hX_none : hX none = none := hid rfl

theorem s_body (x : AFn) (args : List AVal) (H : AHeap) : AB A x args H = endX x.results (AX A x.body (ainit args) H) := by
  unfold AB
  cases AX A x.body (ainit args) H with
  | none => rfl
  | some r => obtain ⟨e, env, H'⟩ := r; cases e <;> rfl

theorem s_fn {f : FuncId} {x : AFn} (he : A.ext f = none) (hm : A.mode f = 0) (h : A.fn f = some x) (args : List AVal) (H : AHeap) : AC A f args H = endX x.results (AX A x.body (ainit args) H) := by
  rw [AC_fn he hm h, s_body]

theorem s_region (ops : List AOper) (env : Env) (H : AHeap) : AX A (.region ops) env H = outX (aops (AC A) ops env H) := by
  rw [AX_region]
  cases aops (AC A) ops env H with
  | none => rfl
  | some r => rfl

theorem s_draw (ops : List AOper) (env : Env) (H : AHeap) : AX A (.draw ops) env H = outX (adraw (AC A) ops env H [H] []) := by
  rw [AX_draw]
  cases adraw (AC A) ops env H [H] [] with
  | none => rfl
  | some r => rfl

theorem s_seq (a b : ACode) (env : Env) (H : AHeap) : AX A (.seq a b) env H = seqX A b (AX A a env H) := by
  rw [AX_seq]
  cases AX A a env H with
  | none => rfl
  | some r => obtain ⟨e, env, H'⟩ := r; cases e <;> rfl

theorem s_cond (c : AOpd) (a b : ACode) (env : Env) (H : AHeap) : AX A (.cond c a b) env H = condX A a b env H (aev env c) := by
  unfold condX
  split
  · rename_i t ht
    rw [AX_cond c a b env H t ht]
    cases t <;> rfl
  · rename_i hn
    refine opt_ext fun r => ?_
    rw [AX_iff]
    simp only [aexec]
    constructor
    · rintro ⟨k, hk⟩
      cases hk
    · intro h; cases h

theorem s_block (id : Nat) (a : ACode) (env : Env) (H : AHeap) : AX A (.block id a) env H = blockX id (AX A a env H) := by
  rw [AX_block]
  cases AX A a env H with
  | none => rfl
  | some r =>
    obtain ⟨e, env, H'⟩ := r
    cases e <;> simp [blockX]
    split <;> rfl

theorem s_loop (a : ACode) (env : Env) (H : AHeap) : AX A (.loop a) env H = seqX A (.loop a) (AX A a env H) := by
  rw [AX_loop]
  cases AX A a env H with
  | none => rfl
  | some r => obtain ⟨e, env, H'⟩ := r; cases e <;> rfl

theorem s_nil (env : Env) (H : AHeap) : aops call [] env H = some (env, H) := hid rfl
theorem s_op (d : Option Nat) (o : AOp) (rd : Option (Nat × Nat)) (l : List AOper) (env : Env) (H : AHeap) : aops call (⟨d, o, none, rd⟩ :: l) env H = stepO call l d env (ado call o (aev env) H) := by
  simp only [aops, agd, if_true]
  cases ado call o (aev env) H with
  | none => rfl
  | some r => rfl
theorem s_grd (d : Option Nat) (o : AOp) (t : Nat) (w : Bool) (rd : Option (Nat × Nat)) (l : List AOper) (env : Env) (H : AHeap) : aops call (⟨d, o, some (t, w), rd⟩ :: l) env H = grd call o l d env H w (env t) := by
  have hs : (ado call o (aev env) H).bind (fun r => aops call l (setd env d r.1) r.2) = stepO call l d env (ado call o (aev env) H) := by
    cases ado call o (aev env) H with
    | none => rfl
    | some r => rfl
  cases h : env t with
  | bool b =>
    cases b <;> cases w <;> simp [aops, agd, grd, h, hs, cnd]
  | _ => simp [aops, agd, grd, h]
theorem grd_bool (o : AOp) (l : List AOper) (d : Option Nat) (env : Env) (H : AHeap) (w b : Bool) : grd call o l d env H w (.bool b) = cnd (b == w) (stepO call l d env (ado call o (aev env) H)) (aops call l (setd env d aundef) H) := hid rfl
theorem grd_t (o : AOp) (l : List AOper) (d : Option Nat) (env : Env) (H : AHeap) (b : Bool) : grd call o l d env H true (.bool b) = cnd b (stepO call l d env (ado call o (aev env) H)) (aops call l (setd env d aundef) H) := by cases b <;> rfl
theorem grd_f (o : AOp) (l : List AOper) (d : Option Nat) (env : Env) (H : AHeap) (b : Bool) : grd call o l d env H false (.bool b) = cnd b (aops call l (setd env d aundef) H) (stepO call l d env (ado call o (aev env) H)) := by cases b <;> rfl

theorem grd_u (o : AOp) (l : List AOper) (d : Option Nat) (env : Env) (H : AHeap) (w : Bool) : grd call o l d env H w aundef = aops call l (setd env d aundef) H := hid rfl
theorem setd_some (env : Env) (d : Nat) (v : AVal) : setd env (some d) v = env.set d v := hid rfl
theorem setd_none (env : Env) (v : AVal) : setd env none v = env := hid rfl
theorem set_get (env : Env) (d t : Nat) (v : AVal) : Env.set env d v t = if t = d then v else env t := hid rfl
theorem ev_tmp (env : Env) (t : Nat) : aev env (.tmp t) = env t := hid rfl
theorem ev_con (env : Env) (v : AVal) : aev env (.con v) = v := hid rfl
theorem init_get (l : List AVal) (t : Nat) : ainit l t = l.getD t aundef := hid rfl

variable {ρ : AOpd → AVal} {H : AHeap}
theorem o_mv (x : AOpd) : ado call (.mv x) ρ H = some (ρ x, H) := hid rfl
theorem o_call (f : AOpd) (args : List AOpd) : ado call (.call f args) ρ H = callX call (args.map ρ) H (ρ f) := by
  simp only [ado, callX]
  cases ρ f <;> rfl
def pickX (a b : AVal) (H : AHeap) : AVal → Option (AVal × AHeap)
  | .bool t => some (cnd t a b, H)
  | _ => none
theorem o_pick (c a b : AOpd) : ado call (.pick c a b) ρ H = pickX (ρ a) (ρ b) H (ρ c) := by
  simp only [ado, aop, pickX]
  cases ρ c <;> try rfl
  rename_i t
  cases t <;> rfl
theorem pick_bool (a b : AVal) (H : AHeap) (t : Bool) : pickX a b H (.bool t) = some (cnd t a b, H) := hid rfl
theorem o_new (cells : List AVal) : ado call (.new cells) ρ H = some (.ptr H.next 0, H.new (.cells cells true)) := hid rfl
theorem o_build (zero : List AVal) (parts : List (Nat × Nat × AOpd)) : ado call (.build zero parts) ρ H = vX H ((afill zero (parts.map fun (o, n, x) => (o, n, ρ x))).map .agg) := by
  simp only [ado, aop]
  cases afill zero (parts.map fun (o, n, x) => (o, n, ρ x)) <;> rfl
theorem o_load (agg : Bool) (n : Nat) (a : AOpd) : ado call (.load agg n a) ρ H = vX H (aload H agg n (ρ a)) := by
  simp only [ado, aop]
  cases aload H agg n (ρ a) <;> rfl
theorem o_store (n : Nat) (a x : AOpd) : ado call (.store n a x) ρ H = hX (astore H n (ρ a) (ρ x)) := by
  simp only [ado, aop]
  cases astore H n (ρ a) (ρ x) <;> rfl
theorem o_bin (op : BinOp) (x y : AOpd) : ado call (.bin op x y) ρ H = vX H (abin op (ρ x) (ρ y)) := by
  simp only [ado, aop]
  cases abin op (ρ x) (ρ y) <;> rfl
theorem o_un (op : UnOp) (x : AOpd) : ado call (.un op x) ρ H = vX H (aun op (ρ x)) := by
  simp only [ado, aop]
  cases aun op (ρ x) <;> rfl
def negX (neg : Bool) : Option Bool → Option AVal
  | none => none
  | some b => some (.bool (if neg then !b else b))
theorem o_eq (neg : Bool) (t : EqT) (x y : AOpd) : ado call (.eq neg t x y) ρ H = vX H (negX neg (aeq t (ρ x) (ρ y))) := by
  simp only [ado, aop]
  cases aeq t (ρ x) (ρ y) <;> rfl
theorem neg_f (b : Bool) : negX false (some b) = some (.bool b) := hid rfl
theorem neg_t (b : Bool) : negX true (some b) = some (.bool !b) := hid rfl
def eqX : Option Bool → Option Bool → Option Bool
  | some b, y => if b then y else some false
  | none, _ => none
theorem eqX_some (b c : Bool) : eqX (some b) (some c) = some (b && c) := by cases b <;> rfl
def fldX (e : EqT) (y : Option Bool) : Option AVal → Option AVal → Option Bool
  | some u, some v => eqX (aeq e u v) y
  | _, _ => none
theorem fldX_some (e : EqT) (y : Option Bool) (u v : AVal) : fldX e y (some u) (some v) = eqX (aeq e u v) y := hid rfl
theorem e_fld (off n : Nat) (agg : Bool) (e rest : EqT) (xs ys : List AVal) : aeq (.fld off n agg e rest) (.agg xs) (.agg ys) = fldX e (aeq rest (.agg xs) (.agg ys)) (apart agg off n xs) (apart agg off n ys) := by
  simp only [aeq, fldX]
  cases apart agg off n xs with
  | none => rfl
  | some u =>
    cases apart agg off n ys with
    | none => rfl
    | some v =>
      simp only [eqX]
      cases aeq e u v with
      | none => rfl
      | some b => rfl
theorem e_fend (xs ys : List AVal) : aeq .fend (.agg xs) (.agg ys) = some true := by simp [aeq]
theorem e_bool (a b : Bool) : aeq .bool (.bool a) (.bool b) = some (a == b) := by simp [aeq]
theorem e_str (a b : List UInt8) : aeq .str (.str a) (.str b) = some (a == b) := by simp [aeq]
def extX (i : Nat) (H : AHeap) : AVal → Option (AVal × AHeap)
  | .tuple l => vX H l[i]?
  | _ => none
theorem o_extract (x : AOpd) (i : Nat) : ado call (.extract x i) ρ H = extX i H (ρ x) := by
  simp only [ado, aop, extX]
  cases ρ x <;> try rfl
  simp only
  rename_i l
  cases l[i]? <;> rfl
theorem ext_tuple (i : Nat) (H : AHeap) (l : List AVal) : extX i H (.tuple l) = vX H l[i]? := hid rfl
def intX (k : IntKind) (H : AHeap) : AVal → Option (AVal × AHeap)
  | .int _ n => some (.int k (k.wrap n), H)
  | _ => none
theorem o_toInt (k : IntKind) (x : AOpd) : ado call (.toInt k x) ρ H = intX k H (ρ x) := by
  simp only [ado, aop, intX]
  cases ρ x <;> rfl
theorem int_int (k j : IntKind) (H : AHeap) (n : Int) : intX k H (.int j n) = some (.int k (k.wrap n), H) := hid rfl
def fieldX (off n : Nat) (agg : Bool) (H : AHeap) : AVal → Option (AVal × AHeap)
  | .agg l => vX H (apart agg off n l)
  | _ => none
theorem o_field (off n : Nat) (agg : Bool) (x : AOpd) : ado call (.field off n agg x) ρ H = fieldX off n agg H (ρ x) := by
  simp only [ado, aop, fieldX]
  cases ρ x <;> try rfl
  rename_i l
  simp only
  cases apart agg off n l <;> rfl
theorem field_agg (off n : Nat) (agg : Bool) (H : AHeap) (l : List AVal) : fieldX off n agg H (.agg l) = vX H (apart agg off n l) := hid rfl
def fieldAX (off : Nat) (H : AHeap) : AVal → Option (AVal × AHeap)
  | .ptr id o => some (.ptr id (o + off), H)
  | _ => none
theorem o_fieldA (off : Nat) (x : AOpd) : ado call (.fieldA off x) ρ H = fieldAX off H (ρ x) := by
  simp only [ado, aop, fieldAX]
  cases ρ x <;> rfl
theorem fieldA_ptr (off : Nat) (H : AHeap) (id o : Nat) : fieldAX off H (.ptr id o) = some (.ptr id (o + off), H) := hid rfl
theorem o_len (s : Bool) (x : AOpd) : ado call (.len s x) ρ H = vX H ((alenT s (ρ x)).map fun (n : Nat) => .int .i64 (n : Int)) := by
  simp only [ado, aop]
  cases alenT s (ρ x) <;> rfl
theorem len_slice (id off n cap : Nat) (g : Option Nat) : alenT false (.slice id off n cap g) = some n := hid rfl
theorem len_nils : alenT false .nils = some 0 := hid rfl
theorem len_str (s : List UInt8) : alenT true (.str s) = some s.length := hid rfl
theorem o_cap (x : AOpd) : ado call (.cap x) ρ H = vX H ((acap (ρ x)).map fun (n : Nat) => .int .i64 (n : Int)) := by
  cases h : acap (ρ x) <;> simp [ado, aop, h, vX]
theorem cap_slice (id off n cap : Nat) : acap (.slice id off n cap none) = some cap := hid rfl
theorem cap_nils : acap .nils = some 0 := hid rfl
theorem o_lenC (n : Nat) : ado call (.lenC n) ρ H = some (.int .i64 (n : Int), H) := hid rfl
def idxASlX (es : Nat) (i : AVal) (H : AHeap) : AVal → Option (AVal × AHeap)
  | .slice id o len _ _ => vX H ((aidx len i).map fun i => .ptr id (o + i * es))
  | _ => none
theorem o_idxASl (es : Nat) (x i : AOpd) : ado call (.idxASl es x i) ρ H = idxASlX es (ρ i) H (ρ x) := by
  simp only [ado, aop, idxASlX]
  cases ρ x <;> try rfl
  rename_i id off len cap g
  simp only
  cases aidx len (ρ i) <;> rfl
theorem idxASl_slice (es : Nat) (i : AVal) (H : AHeap) (id o len cap : Nat) (g : Option Nat) : idxASlX es i H (.slice id o len cap g) = vX H ((aidx len i).map fun i => .ptr id (o + i * es)) := hid rfl
theorem o_append (es bytes : Nat) (s x : AOpd) : ado call (.append es bytes s x) ρ H = aappend H es bytes (ρ s) (ρ x) := hid rfl
theorem o_appendZ (es bytes : Nat) (z : List AVal) (s x : AOpd) : ado call (.appendZ es bytes z s x) ρ H = aappendZ H es bytes z (ρ s) (ρ x) := hid rfl
theorem o_minmax (isMax : Bool) (a b : AOpd) : ado call (.minmax isMax [a, b]) ρ H = vX H (aminmax isMax (ρ a) (ρ b)) := by
  simp only [ado, aop, List.map_cons, List.map_nil, afold]
  cases aminmax isMax (ρ a) (ρ b) <;> rfl
theorem o_slc (es : Nat) (x : AOpd) (lo hi mx : Option AOpd) : ado call (.slc es x lo hi mx) ρ H = vX H (aslc es (ρ x) (lo.map ρ) (hi.map ρ) (mx.map ρ)) := by
  simp only [ado, aop]
  cases aslc es (ρ x) (lo.map ρ) (hi.map ρ) (mx.map ρ) <;> rfl

def buildX (len : Nat) (H : AHeap) : Option (List AVal) → Option (AVal × AHeap)
  | none => none
  | some l => some (.slice H.next 0 len len none, H.new (.cells l true))
theorem o_buildS (len : Nat) (zero : List AVal) (parts : List (Nat × Nat × AOpd)) : ado call (.buildS len zero parts) ρ H = buildX len H (afill zero (parts.map fun (o, n, x) => (o, n, ρ x))) := by
  simp only [ado, aop, buildX]
  cases afill zero (parts.map fun (o, n, x) => (o, n, ρ x)) <;> rfl
theorem buildX_some (len : Nat) (H : AHeap) (l : List AVal) : buildX len H (some l) = some (.slice H.next 0 len len none, H.new (.cells l true)) := hid rfl
def sToBX (H : AHeap) : AVal → Option (AVal × AHeap)
  | .str s => some (.slice H.next 0 s.length s.length (some 1), H.new (.cells (s.map fun b => .int .u8 (b.toNat : Int)) true))
  | _ => none
theorem o_sToB (x : AOpd) : ado call (.sToB x) ρ H = sToBX H (ρ x) := by
  simp only [ado, aop, sToBX]
  cases ρ x <;> rfl
theorem sToB_str (H : AHeap) (s : List UInt8) : sToBX H (.str s) = some (.slice H.next 0 s.length s.length (some 1), H.new (.cells (s.map fun b => .int .u8 (b.toNat : Int)) true)) := hid rfl
def idSX (H : AHeap) : AVal → Option (AVal × AHeap)
  | .str s => some (.str s, H)
  | _ => none
theorem o_idS' (x : AOpd) : ado call (.idS x) ρ H = idSX H (ρ x) := by
  simp only [ado, aop, idSX]
  cases ρ x <;> rfl
theorem idS_str (H : AHeap) (s : List UInt8) : idSX H (.str s) = some (.str s, H) := hid rfl
def bToSX (H : AHeap) : AVal → Option (AVal × AHeap)
  | .nils => some (.str [], H)
  | .slice id off n cap g => (acells H 1 n (.slice id off n cap g)).bind fun l => (aop.abytes l).map fun b => (.str b, H)
  | _ => none
theorem o_bToS (x : AOpd) : ado call (.bToS x) ρ H = bToSX H (ρ x) := by
  simp only [ado, aop, bToSX]
  cases ρ x <;> try rfl
  · rename_i id off n cap g
    simp only [alen, Option.bind_some]
    cases acells H 1 n (.slice id off n cap g) with
    | none => rfl
    | some l =>
      simp only [Option.bind_some]
      cases aop.abytes l <;> rfl
theorem bytes_back : ∀ s : List UInt8, aop.abytes (s.map fun b => AVal.int .u8 (b.toNat : Int)) = some s
  | [] => rfl
  | b :: s => by
    have ih := bytes_back s
    simp only [List.map_cons, aop.abytes, ih, Option.map_some, Int.toNat_natCast, UInt8.ofNat_toNat]
theorem o_idS (x : AOpd) (s : List UInt8) (h : ρ x = .str s) : ado call (.idS x) ρ H = some (.str s, H) := by simp only [ado, aop, h]
def nilckX (H : AHeap) : AVal → Option (AVal × AHeap)
  | .ptr id off => some (.ptr id off, H)
  | .func f a b => some (.func f a b, H)
  | .yield l => some (.yield l, H)
  | _ => none
theorem o_nilck (x : AOpd) : ado call (.nilck x) ρ H = nilckX H (ρ x) := by
  simp only [ado, aop, nilckX]
  cases ρ x <;> rfl
theorem nilck_ptr (H : AHeap) (id off : Nat) : nilckX H (.ptr id off) = some (.ptr id off, H) := hid rfl
theorem nilck_fn (H : AHeap) (f : FuncId) (a b : List AVal) : nilckX H (.func f a b) = some (.func f a b, H) := hid rfl
theorem e_nilp0 (id off : Nat) : aeq (.nil .p) (.ptr id off) .nilp = some false := by simp [aeq, aeqNil]
theorem e_nilp1 : aeq (.nil .p) .nilp .nilp = some true := by simp [aeq, aeqNil]
theorem e_nilp2 (id off : Nat) : aeq (.nil .p) .nilp (.ptr id off) = some false := by simp [aeq, aeqNil]
theorem e_nils0 (id off n cap : Nat) (g : Option Nat) : aeq (.nil .s) (.slice id off n cap g) .nils = some false := by simp [aeq, aeqNil]
theorem e_nils1 : aeq (.nil .s) .nils .nils = some true := by simp [aeq, aeqNil]
theorem o_nilckp (x : AOpd) (id off : Nat) (h : ρ x = .ptr id off) : ado call (.nilck x) ρ H = some (.ptr id off, H) := by simp only [ado, aop, h]
theorem o_nilckf (x : AOpd) (f : FuncId) (a b : List AVal) (h : ρ x = .func f a b) : ado call (.nilck x) ρ H = some (.func f a b, H) := by simp only [ado, aop, h]
theorem o_mkFn (f : FuncId) (a b : List AOpd) : ado call (.mkFn f a b) ρ H = some (.func f (a.map ρ) (b.map ρ), H) := hid rfl
theorem o_mkS (es bytes : Nat) (zero : List AVal) (l c : AOpd) : ado call (.mkS es bytes zero l c) ρ H = amkS H es bytes zero (ρ l) (ρ c) := hid rfl
theorem o_copy (es : Nat) (d s : AOpd) : ado call (.copy es d s) ρ H = acopy H es (ρ d) (ρ s) := hid rfl
def clrX : Option AHeap → Option (AVal × AHeap)
  | none => none
  | some h => some (.tuple [], h)
theorem o_clearS (es : Nat) (zero : List AVal) (x : AOpd) : ado call (.clearS es zero x) ρ H = clrX (aclear H es zero (ρ x)) := by
  simp only [ado, aop]
  cases aclear H es zero (ρ x) <;> rfl
theorem clear_nils (H : AHeap) (es : Nat) (z : List AVal) : aclear H es z .nils = some H := hid rfl
theorem clear_sl {H : AHeap} {es id off n cap : Nat} {g : Option Nat} {z l : List AVal} (ho : H.obj id = some (.cells l true)) (hn : 0 < n) (hl : off + n * es ≤ l.length) : aclear H es z (.slice id off n cap g) = some (H.set id (.cells (lput l off (arep z n)) true)) := by
  have : n ≠ 0 := by omega
  simp [aclear, this, ho, hl]
theorem clrX_some (h : AHeap) : clrX (some h) = some (.tuple [], h) := hid rfl
def idxAArrX (n es : Nat) (i : AVal) (H : AHeap) : AVal → Option (AVal × AHeap)
  | .ptr id o => vX H ((aidx n i).map fun i => .ptr id (o + i * es))
  | _ => none
theorem o_idxAArr (n es : Nat) (x i : AOpd) : ado call (.idxAArr n es x i) ρ H = idxAArrX n es (ρ i) H (ρ x) := by
  simp only [ado, aop, idxAArrX]
  cases ρ x <;> try rfl
  simp only
  cases aidx n (ρ i) <;> rfl
theorem idxAArr_ptr (n es : Nat) (i : AVal) (H : AHeap) (id o : Nat) : idxAArrX n es i H (.ptr id o) = vX H ((aidx n i).map fun i => .ptr id (o + i * es)) := hid rfl
def idxArrX (n es : Nat) (agg : Bool) (i : AVal) (H : AHeap) : AVal → Option (AVal × AHeap)
  | .agg l => vX H ((aidx n i).bind fun i => apart agg (i * es) es l)
  | _ => none
theorem o_idxArr (n es : Nat) (agg : Bool) (x i : AOpd) : ado call (.idxArr n es agg x i) ρ H = idxArrX n es agg (ρ i) H (ρ x) := by
  simp only [ado, aop, idxArrX]
  cases ρ x <;> try rfl
  rename_i l
  simp only
  cases (aidx n (ρ i)).bind fun i => apart agg (i * es) es l <;> rfl
theorem idxArr_agg (n es : Nat) (agg : Bool) (i : AVal) (H : AHeap) (l : List AVal) : idxArrX n es agg i H (.agg l) = vX H ((aidx n i).bind fun i => apart agg (i * es) es l) := hid rfl
def idxStrX (i : AVal) (H : AHeap) : AVal → Option (AVal × AHeap)
  | .str s => vX H ((aidx s.length i).bind fun i => (s[i]?).map fun b => .int .u8 (b.toNat : Int))
  | _ => none
theorem o_idxStr (x i : AOpd) : ado call (.idxStr x i) ρ H = idxStrX (ρ i) H (ρ x) := by
  simp only [ado, aop, idxStrX]
  cases ρ x <;> try rfl
  rename_i s
  simp only
  cases (aidx s.length (ρ i)).bind fun i => (s[i]?).map fun b => AVal.int .u8 (b.toNat : Int) <;> rfl
theorem idxStr_str (i : AVal) (H : AHeap) (s : List UInt8) : idxStrX i H (.str s) = vX H ((aidx s.length i).bind fun i => (s[i]?).map fun b => .int .u8 (b.toNat : Int)) := hid rfl
def slcStrX (lo hi : Option AVal) (H : AHeap) : AVal → Option (AVal × AHeap)
  | .str s => vX H ((abounds s.length s.length lo hi none).map fun (l, h, _) => .str ((s.take h).drop l))
  | _ => none
theorem o_slcStr (x : AOpd) (lo hi : Option AOpd) : ado call (.slcStr x lo hi) ρ H = slcStrX (lo.map ρ) (hi.map ρ) H (ρ x) := by
  simp only [ado, aop, slcStrX]
  cases ρ x <;> try rfl
  rename_i s
  simp only
  cases abounds s.length s.length (lo.map ρ) (hi.map ρ) none <;> rfl
theorem slcStr_str (lo hi : Option AVal) (H : AHeap) (s : List UInt8) : slcStrX lo hi H (.str s) = vX H ((abounds s.length s.length lo hi none).map fun (l, h, _) => .str ((s.take h).drop l)) := hid rfl
theorem o_slcArr (n es : Nat) (x : AOpd) (lo hi mx : Option AOpd) : ado call (.slcArr n es x lo hi mx) ρ H = vX H (aslcArr n es (ρ x) (lo.map ρ) (hi.map ρ) (mx.map ρ)) := by
  simp only [ado, aop]
  cases aslcArr n es (ρ x) (lo.map ρ) (hi.map ρ) (mx.map ρ) <;> rfl
theorem o_mkIface (t : TypeId) (x : AOpd) : ado call (.mkIface t x) ρ H = some (.iface t (ρ x), H) := hid rfl

/-! memory -/
theorem new_obj (H : AHeap) (o : AObj) (i : Nat) : (H.new o).obj i = if i = H.next then some o else H.obj i := hid rfl
theorem new_next (H : AHeap) (o : AObj) : (H.new o).next = H.next + 1 := hid rfl
theorem set_obj (H : AHeap) (id : Nat) (o : AObj) (i : Nat) : (H.set id o).obj i = if i = id then some o else H.obj i := hid rfl
theorem set_next (H : AHeap) (id : Nat) (o : AObj) : (H.set id o).next = H.next := hid rfl
def loadX (agg : Bool) (n off : Nat) : Option AObj → Option AVal
  | some (.cells l _) => apart agg off n l
  | none => none
theorem load_ptr (H : AHeap) (agg : Bool) (n id off : Nat) : aload H agg n (.ptr id off) = loadX agg n off (H.obj id) := by
  simp only [aload, loadX]
  cases H.obj id with
  | none => rfl
  | some o => cases o; rfl
theorem loadX_cells (agg : Bool) (n off : Nat) (l : List AVal) (own : Bool) : loadX agg n off (some (.cells l own)) = apart agg off n l := hid rfl
theorem apart_one (off n : Nat) (l : List AVal) : apart false off n l = l[off]? := hid rfl
theorem apart_agg (off n : Nat) (l : List AVal) (h : off + n ≤ l.length) : apart true off n l = some (.agg ((l.drop off).take n)) := by simp [apart, h]
theorem apart_all (l : List AVal) (n : Nat) (h : l.length = n) : apart true 0 n l = some (.agg l) := by subst h; simp [apart]
def storeX (H : AHeap) (n id off : Nat) (c : List AVal) (t : Bool) : Option AObj → Option AHeap
  | some (.cells l true) => if off + n ≤ l.length ∧ c.length = n ∧ t = false then some (H.set id (.cells (lput l off c) true)) else none
  | _ => none
theorem store_ptr (H : AHeap) (n id off : Nat) (x : AVal) : astore H n (.ptr id off) x = storeX H n id off x.cells x.tup (H.obj id) := by
  simp only [astore, storeX]
  cases H.obj id with
  | none => rfl
  | some o => obtain ⟨l, own⟩ := o; cases own <;> rfl
theorem storeX_cells (H : AHeap) (n id off : Nat) (c l : List AVal) (h1 : off + n ≤ l.length) (h2 : c.length = n) : storeX H n id off c false (some (.cells l true)) = some (H.set id (.cells (lput l off c) true)) := by
  simp [storeX, h1, h2]
theorem store_one (H : AHeap) (id off : Nat) (v : AVal) (l : List AVal) (h : off < l.length) : storeX H 1 id off [v] false (some (.cells l true)) = some (H.set id (.cells (l.set off v) true)) := by
  rw [storeX_cells H 1 id off [v] l (by omega) rfl]; cases l <;> rfl
theorem put_nil (l : List AVal) (off : Nat) : lput l off [] = l := by cases l <;> rfl
theorem put_cons (l : List AVal) (off : Nat) (c : AVal) (cs : List AVal) : lput l off (c :: cs) = lput (l.set off c) (off + 1) cs := hid rfl
theorem lput_at : ∀ (l cs : List AVal) (k : Nat) (pre : List AVal), l.length = cs.length → pre.length = k → lput (pre ++ l) k cs = pre ++ cs
  | l, [], k, pre, h, hp => by simp at h; subst h; rfl
  | [], c :: cs, k, pre, h, hp => by simp at h
  | a :: l, c :: cs, k, pre, h, hp => by
    simp only [lput]
    have : (pre ++ a :: l).set k c = (pre ++ [c]) ++ l := by simp [← hp]
    rw [this, lput_at l cs (k + 1) (pre ++ [c]) (by simpa using h) (by simp [hp])]
    simp
theorem lput_whole (l c : List AVal) (h : l.length = c.length) : lput l 0 c = c := by
  have := lput_at l c 0 [] h rfl
  simpa using this
theorem cells_agg (l : List AVal) : AVal.cells (.agg l) = l := hid rfl
theorem cells_int (k : IntKind) (n : Int) : AVal.cells (.int k n) = [.int k n] := hid rfl
theorem cells_bool (b : Bool) : AVal.cells (.bool b) = [.bool b] := hid rfl
theorem cells_str (b : List UInt8) : AVal.cells (.str b) = [.str b] := hid rfl
theorem cells_slice (id off len cap : Nat) (g : Option Nat) : AVal.cells (.slice id off len cap g) = [.slice id off len cap g] := hid rfl
theorem cells_nils : AVal.cells .nils = [.nils] := hid rfl
theorem cells_ptr (id off : Nat) : AVal.cells (.ptr id off) = [.ptr id off] := hid rfl
theorem tup_agg (l : List AVal) : AVal.tup (.agg l) = false := hid rfl
theorem tup_int (k : IntKind) (n : Int) : AVal.tup (.int k n) = false := hid rfl
theorem tup_bool (b : Bool) : AVal.tup (.bool b) = false := hid rfl
theorem tup_str (b : List UInt8) : AVal.tup (.str b) = false := hid rfl
theorem tup_slice (id off len cap : Nat) (g : Option Nat) : AVal.tup (.slice id off len cap g) = false := hid rfl
theorem tup_nils : AVal.tup .nils = false := hid rfl
theorem tup_ptr (id off : Nat) : AVal.tup (.ptr id off) = false := hid rfl
def boxX (H : AHeap) (c : List AVal) : Bool → Option (AVal × AHeap)
  | true => none
  | false => some (.ptr H.next 0, H.new (.cells c true))
theorem o_box (x : AOpd) : ado call (.box x) ρ H = boxX H (ρ x).cells (ρ x).tup := by
  simp only [ado, aop, boxX]
  cases (ρ x).tup <;> rfl
theorem box_ok (H : AHeap) (c : List AVal) : boxX H c false = some (.ptr H.next 0, H.new (.cells c true)) := hid rfl
theorem fill_nil (c : List AVal) : afill c [] = some c := hid rfl
theorem fill_cons (c : List AVal) (off n : Nat) (v : AVal) (r : List (Nat × Nat × AVal)) (h : v.cells.length = n) (h2 : off + n ≤ c.length) (h3 : v.tup = false) : afill c ((off, n, v) :: r) = afill (lput c off v.cells) r := by simp [afill, h, h2, h3]
/-- A region that draws its order, followed as it stands: what it reads at more than one stage is left for the end. -/
def stepD (call : ACall) (l : List AOper) (d : Option Nat) (env : Env) (eff : Bool) (st : List AHeap) (rs : AVal → List ARead) : Option (AVal × AHeap) → Option (Env × AHeap)
  | none => none
  | some (v, H) => adraw call l (setd env d v) H (if eff then st ++ [H] else st) (rs v)
theorem stepD_some (l : List AOper) (d : Option Nat) (env : Env) (eff : Bool) (st : List AHeap) (rs : AVal → List ARead) (v : AVal) (H : AHeap) : stepD call l d env eff st rs (some (v, H)) = adraw call l (setd env d v) H (if eff then st ++ [H] else st) (rs v) := hid rfl
theorem d_nil (env : Env) (H : AHeap) (st : List AHeap) (rs : List ARead) : adraw call [] env H st rs = if rs.all (ARead.ok st) then some (env, H) else none := hid rfl
theorem d_op (d : Option Nat) (o : AOp) (l : List AOper) (env : Env) (H : AHeap) (st : List AHeap) (rs : List ARead) : adraw call (⟨d, o, none, none⟩ :: l) env H st rs = stepD call l d env o.eff st (fun _ => rs) (ado call o (aev env) H) := by
  simp only [adraw, agd, if_true]
  cases ado call o (aev env) H <;> rfl
theorem d_rd (d : Option Nat) (o : AOp) (lo hi : Nat) (l : List AOper) (env : Env) (H : AHeap) (st : List AHeap) (rs : List ARead) : adraw call (⟨d, o, none, some (lo, hi)⟩ :: l) env H st rs = stepD call l d env o.eff st (fun v => ⟨o, env, v, lo, hi⟩ :: rs) (ado call o (aev env) H) := by
  simp only [adraw, agd, if_true]
  cases ado call o (aev env) H <;> rfl
theorem d_gt (d : Option Nat) (o : AOp) (t : Nat) (rd : Option (Nat × Nat)) (l : List AOper) (env : Env) (H : AHeap) (st : List AHeap) (rs : List ARead) (h : env t = .bool true) : adraw call (⟨d, o, some (t, true), rd⟩ :: l) env H st rs = adraw call (⟨d, o, none, rd⟩ :: l) env H st rs := by
  simp [adraw, agd, h]
theorem d_gf (d : Option Nat) (o : AOp) (t : Nat) (rd : Option (Nat × Nat)) (l : List AOper) (env : Env) (H : AHeap) (st : List AHeap) (rs : List ARead) (h : env t = .bool false) : adraw call (⟨d, o, some (t, false), rd⟩ :: l) env H st rs = adraw call (⟨d, o, none, rd⟩ :: l) env H st rs := by
  simp [adraw, agd, h]
theorem d_nt (d : Option Nat) (o : AOp) (t : Nat) (rd : Option (Nat × Nat)) (l : List AOper) (env : Env) (H : AHeap) (st : List AHeap) (rs : List ARead) (h : env t = .bool false) : adraw call (⟨d, o, some (t, true), rd⟩ :: l) env H st rs = adraw call l (setd env d aundef) H (if o.eff then st ++ [H] else st) rs := by
  simp [adraw, agd, h]
theorem d_nf (d : Option Nat) (o : AOp) (t : Nat) (rd : Option (Nat × Nat)) (l : List AOper) (env : Env) (H : AHeap) (st : List AHeap) (rs : List ARead) (h : env t = .bool true) : adraw call (⟨d, o, some (t, false), rd⟩ :: l) env H st rs = adraw call l (setd env d aundef) H (if o.eff then st ++ [H] else st) rs := by
  simp [adraw, agd, h]

theorem d_nu (d : Option Nat) (o : AOp) (t : Nat) (w : Bool) (rd : Option (Nat × Nat)) (l : List AOper) (env : Env) (H : AHeap) (st : List AHeap) (rs : List ARead) (h : env t = aundef) : adraw call (⟨d, o, some (t, w), rd⟩ :: l) env H st rs = adraw call l (setd env d aundef) H (if o.eff then st ++ [H] else st) rs := by
  simp [adraw, agd, h, aundef]
theorem eff_mv (x : AOpd) : AOp.eff (.mv x) = false := hid rfl
theorem eff_pick (c a b : AOpd) : AOp.eff (.pick c a b) = false := hid rfl
theorem eff_load (g : Bool) (n : Nat) (a : AOpd) : AOp.eff (.load g n a) = false := hid rfl
theorem eff_bin (op : BinOp) (x y : AOpd) : AOp.eff (.bin op x y) = false := hid rfl
theorem eff_eq (neg : Bool) (t : EqT) (x y : AOpd) : AOp.eff (.eq neg t x y) = false := hid rfl
theorem eff_un (op : UnOp) (x : AOpd) : AOp.eff (.un op x) = false := hid rfl
theorem eff_toInt (k : IntKind) (x : AOpd) : AOp.eff (.toInt k x) = false := hid rfl
theorem eff_call (f : AOpd) (args : List AOpd) : AOp.eff (.call f args) = true := hid rfl
theorem eff_extract (x : AOpd) (i : Nat) : AOp.eff (.extract x i) = false := hid rfl
theorem eff_fieldA (off : Nat) (x : AOpd) : AOp.eff (.fieldA off x) = false := hid rfl
theorem eff_field (off n : Nat) (g : Bool) (x : AOpd) : AOp.eff (.field off n g x) = false := hid rfl
theorem eff_idxASl (es : Nat) (x i : AOpd) : AOp.eff (.idxASl es x i) = false := hid rfl
theorem eff_len (s : Bool) (x : AOpd) : AOp.eff (.len s x) = false := hid rfl
theorem eff_minmax (b : Bool) (l : List AOpd) : AOp.eff (.minmax b l) = false := hid rfl
theorem eff_build (z : List AVal) (l : List (Nat × Nat × AOpd)) : AOp.eff (.build z l) = false := hid rfl
theorem eff_slc (es : Nat) (x : AOpd) (lo hi mx : Option AOpd) : AOp.eff (.slc es x lo hi mx) = false := hid rfl
theorem eff_append (es by' : Nat) (s x : AOpd) : AOp.eff (.append es by' s x) = true := hid rfl
theorem eff_appendZ (es by' : Nat) (z : List AVal) (s x : AOpd) : AOp.eff (.appendZ es by' z s x) = true := hid rfl
theorem eff_new (c : List AVal) : AOp.eff (.new c) = true := hid rfl
theorem eff_box (x : AOpd) : AOp.eff (.box x) = true := hid rfl
theorem eff_store (n : Nat) (a x : AOpd) : AOp.eff (.store n a x) = true := hid rfl
theorem eff_buildS (n : Nat) (z : List AVal) (l : List (Nat × Nat × AOpd)) : AOp.eff (.buildS n z l) = true := hid rfl
theorem eff_nilck (x : AOpd) : AOp.eff (.nilck x) = false := hid rfl
theorem eff_idxAArr (n es : Nat) (x i : AOpd) : AOp.eff (.idxAArr n es x i) = false := hid rfl
theorem eff_idxArr (n es : Nat) (g : Bool) (x i : AOpd) : AOp.eff (.idxArr n es g x i) = false := hid rfl
theorem eff_idxStr (x i : AOpd) : AOp.eff (.idxStr x i) = false := hid rfl
theorem eff_slcStr (x : AOpd) (lo hi : Option AOpd) : AOp.eff (.slcStr x lo hi) = false := hid rfl
theorem eff_slcArr (n es : Nat) (x : AOpd) (lo hi mx : Option AOpd) : AOp.eff (.slcArr n es x lo hi mx) = false := hid rfl
theorem eff_mkFn (f : FuncId) (a b : List AOpd) : AOp.eff (.mkFn f a b) = false := hid rfl
theorem eff_idS (x : AOpd) : AOp.eff (.idS x) = false := hid rfl
theorem eff_bToS (x : AOpd) : AOp.eff (.bToS x) = false := hid rfl
theorem eff_sToB (x : AOpd) : AOp.eff (.sToB x) = true := hid rfl
theorem eff_mkS (es b : Nat) (z : List AVal) (l c : AOpd) : AOp.eff (.mkS es b z l c) = true := hid rfl
theorem eff_copy (es : Nat) (d s : AOpd) : AOp.eff (.copy es d s) = true := hid rfl
theorem eff_clearS (es : Nat) (z : List AVal) (x : AOpd) : AOp.eff (.clearS es z x) = true := hid rfl
theorem eff_mkIface (t : TypeId) (x : AOpd) : AOp.eff (.mkIface t x) = false := hid rfl
theorem eff_cap (x : AOpd) : AOp.eff (.cap x) = false := hid rfl
theorem eff_lenC (n : Nat) : AOp.eff (.lenC n) = false := hid rfl
theorem ok_still {H : AHeap} {st : List AHeap} {r : ARead} (hst : ∀ h, h ∈ st → h = H) (h : (aop r.op (aev r.env) H).map (·.1) = some r.v) : ARead.ok st r = true := by
  simp only [ARead.ok, List.all_eq_true, List.mem_range]
  intro i _
  split
  · rfl
  · rename_i H1 h1
    have : H1 = H := hst H1 (List.mem_of_getElem? h1)
    subst this
    simp only [Option.map_eq_some_iff] at h
    obtain ⟨⟨v, H2⟩, h2, h3⟩ := h
    simp only at h3
    subst h3
    rw [h2]
    exact AVal.beq_self _
/-- The end of a region that draws its order, where nothing has turned the memory. -/
theorem d_still (env : Env) (H : AHeap) (st : List AHeap) (rs : List ARead) (hst : ∀ h, h ∈ st → h = H) (h : ∀ r, r ∈ rs → (aop r.op (aev r.env) H).map (·.1) = some r.v) : adraw call [] env H st rs = some (env, H) := by
  rw [d_nil, if_pos]
  exact List.all_eq_true.2 fun r hr => ok_still hst (h r hr)
def rdOk (o : AOp) (env : Env) (v : AVal) (H : AHeap) : Bool := match aop o (aev env) H with
  | some (u, _) => u.beq v
  | none => false
def okAt (o : AOp) (env : Env) (v : AVal) : Option AHeap → Bool
  | none => true
  | some H => rdOk o env v H
theorem ok_lohi (st : List AHeap) (o : AOp) (env : Env) (v : AVal) (lo hi : Nat) : ARead.ok st ⟨o, env, v, lo, hi⟩ = (List.range (hi - lo + 1)).all fun i => okAt o env v st[lo + i]? := by
  rfl
theorem ok_01 (st : List AHeap) (o : AOp) (env : Env) (v : AVal) : ARead.ok st ⟨o, env, v, 0, 1⟩ = (okAt o env v st[0]? && okAt o env v st[1]?) := by rw [ok_lohi]; simp [List.range_succ]
theorem ok_12 (st : List AHeap) (o : AOp) (env : Env) (v : AVal) : ARead.ok st ⟨o, env, v, 1, 2⟩ = (okAt o env v st[1]? && okAt o env v st[2]?) := by rw [ok_lohi]; simp [List.range_succ]
theorem ok_23 (st : List AHeap) (o : AOp) (env : Env) (v : AVal) : ARead.ok st ⟨o, env, v, 2, 3⟩ = (okAt o env v st[2]? && okAt o env v st[3]?) := by rw [ok_lohi]; simp [List.range_succ]
theorem ok_02 (st : List AHeap) (o : AOp) (env : Env) (v : AVal) : ARead.ok st ⟨o, env, v, 0, 2⟩ = (okAt o env v st[0]? && (okAt o env v st[1]? && okAt o env v st[2]?)) := by rw [ok_lohi]; simp [List.range_succ, Bool.and_assoc]
theorem ok_13 (st : List AHeap) (o : AOp) (env : Env) (v : AVal) : ARead.ok st ⟨o, env, v, 1, 3⟩ = (okAt o env v st[1]? && (okAt o env v st[2]? && okAt o env v st[3]?)) := by rw [ok_lohi]; simp [List.range_succ, Bool.and_assoc]
theorem ok_03 (st : List AHeap) (o : AOp) (env : Env) (v : AVal) : ARead.ok st ⟨o, env, v, 0, 3⟩ = (okAt o env v st[0]? && (okAt o env v st[1]? && (okAt o env v st[2]? && okAt o env v st[3]?))) := by rw [ok_lohi]; simp [List.range_succ, Bool.and_assoc]
theorem okAt_some (o : AOp) (env : Env) (v : AVal) (H : AHeap) : okAt o env v (some H) = rdOk o env v H := hid rfl
def beqO (v : AVal) : Option AVal → Bool
  | some u => u.beq v
  | none => false
theorem rdOk_load (agg : Bool) (n : Nat) (a : AOpd) (env : Env) (v : AVal) (H : AHeap) : rdOk (.load agg n a) env v H = beqO v (aload H agg n (aev env a)) := by
  simp only [rdOk, aop, beqO]
  cases aload H agg n (aev env a) <;> rfl
theorem beqO_some (u v : AVal) : beqO v (some u) = u.beq v := hid rfl
theorem beq_same (v : AVal) : AVal.beq v v = true := AVal.beq_self v
theorem all_nil (p : ARead → Bool) : ([] : List ARead).all p = true := hid rfl
theorem all_cons (p : ARead → Bool) (r : ARead) (l : List ARead) : (r :: l).all p = (p r && l.all p) := hid rfl
theorem if_true' (x y : Option (Env × AHeap)) : (if true = true then x else y) = x := hid rfl
theorem aop_load (agg : Bool) (n : Nat) (a : AOpd) : aop (.load agg n a) ρ H = vX H (aload H agg n (ρ a)) := by
  simp only [aop]
  cases aload H agg n (ρ a) <;> rfl

/-- What is answered, whatever else was made. -/
def Ans (x : Option (AVal × AHeap)) (v : AVal) : Prop := ∃ H, x = some (v, H)
theorem ans_some (u v : AVal) (H : AHeap) : Ans (some (u, H)) v ↔ u = v := by simp [Ans]
theorem ans_cnd {b : Bool} {x y : Option (AVal × AHeap)} {v : AVal} (h1 : b = true → Ans x v) (h0 : b = false → Ans y v) : Ans (cnd b x y) v := by
  cases b
  · exact h0 rfl
  · exact h1 rfl
theorem ans_cnd_true {x y : Option (AVal × AHeap)} {v : AVal} : Ans (cnd true x y) v = Ans x v := hid rfl

theorem after_run {F : Option (AExit × Env × AHeap) → Option (AVal × AHeap)} {X : Option (AExit × Env × AHeap)} {v : AVal} {P : AExit → Env → AHeap → Prop} (h : ∃ e env H, X = some (e, env, H) ∧ P e env H) (k : ∀ e env H, P e env H → Ans (F (some (e, env, H))) v) : Ans (F X) v := by
  obtain ⟨e, env, H, rfl, hp⟩ := h
  exact k e env H hp

/-! what the operations on numbers answer -/
theorem b_int (op : BinOp) (k : IntKind) (a b : Int) (h1 : op ≠ .shl) (h2 : op ≠ .shr) : abin op (.int k a) (.int k b) = aint op k a b := by
  simp only [abin]
  split <;> simp_all
theorem b_eql (k : IntKind) (a b : Int) : abin .eql (.int k a) (.int k b) = some (.bool (decide (a = b))) := by
  simp [abin, aint]
  exact Bool.beq_eq_decide_eq a b
theorem b_neq (k : IntKind) (a b : Int) : abin .neq (.int k a) (.int k b) = some (.bool (!decide (a = b))) := by
  simp [abin, aint, bne, Bool.beq_eq_decide_eq]
theorem b_lss (k : IntKind) (a b : Int) : abin .lss (.int k a) (.int k b) = some (.bool (decide (a < b))) := by simp [abin, aint]
theorem b_leq (k : IntKind) (a b : Int) : abin .leq (.int k a) (.int k b) = some (.bool (decide (a ≤ b))) := by simp [abin, aint]
theorem b_gtr (k : IntKind) (a b : Int) : abin .gtr (.int k a) (.int k b) = some (.bool (decide (b < a))) := by simp [abin, aint]
theorem b_geq (k : IntKind) (a b : Int) : abin .geq (.int k a) (.int k b) = some (.bool (decide (b ≤ a))) := by simp [abin, aint]
theorem b_add (k : IntKind) (a b : Int) : abin .add (.int k a) (.int k b) = some (.int k (k.wrap (a + b))) := by simp [abin, aint]
theorem b_sub (k : IntKind) (a b : Int) : abin .sub (.int k a) (.int k b) = some (.int k (k.wrap (a - b))) := by simp [abin, aint]
theorem b_mul (k : IntKind) (a b : Int) : abin .mul (.int k a) (.int k b) = some (.int k (k.wrap (a * b))) := by simp [abin, aint]
theorem b_quo (k : IntKind) (a b : Int) : abin .quo (.int k a) (.int k b) = cnd (decide (b = 0)) none (some (.int k (k.wrap (a.tdiv b)))) := by simp [abin, aint, cnd_ite]
theorem b_rem (k : IntKind) (a b : Int) : abin .rem (.int k a) (.int k b) = cnd (decide (b = 0)) none (some (.int k (a.tmod b))) := by simp [abin, aint, cnd_ite]
/-- Floats, as functions of bits. -/
def fadd (a b : Nat) : Nat := (Ieee.double.add a b).getD qnan
def fsub (a b : Nat) : Nat := (Ieee.double.sub a b).getD qnan
def fmul (a b : Nat) : Nat := (Ieee.double.mul a b).getD qnan
def fdiv (a b : Nat) : Nat := (Ieee.double.div a b).getD qnan
def fneg (a : Nat) : Nat := Op.negFloat .f64 a
def fint (n : Int) : Nat := FloatKind.f64.nearest n
def feq (a b : Nat) : Bool := Ieee.double.order a b == some .eq
def flss (a b : Nat) : Bool := Ieee.double.order a b == some .lt
def fgtr (a b : Nat) : Bool := Ieee.double.order a b == some .gt
theorem b_fadd (a b : Nat) : abin .add (.flt .f64 a) (.flt .f64 b) = some (.flt .f64 (fadd a b)) := hid rfl
theorem b_fsub (a b : Nat) : abin .sub (.flt .f64 a) (.flt .f64 b) = some (.flt .f64 (fsub a b)) := hid rfl
theorem b_fmul (a b : Nat) : abin .mul (.flt .f64 a) (.flt .f64 b) = some (.flt .f64 (fmul a b)) := hid rfl
theorem b_fquo (a b : Nat) : abin .quo (.flt .f64 a) (.flt .f64 b) = some (.flt .f64 (fdiv a b)) := hid rfl
theorem b_feql (a b : Nat) : abin .eql (.flt .f64 a) (.flt .f64 b) = some (.bool (feq a b)) := hid rfl
theorem b_fneq (a b : Nat) : abin .neq (.flt .f64 a) (.flt .f64 b) = some (.bool (!feq a b)) := hid rfl
theorem b_flss (a b : Nat) : abin .lss (.flt .f64 a) (.flt .f64 b) = some (.bool (flss a b)) := hid rfl
theorem b_fgtr (a b : Nat) : abin .gtr (.flt .f64 a) (.flt .f64 b) = some (.bool (fgtr a b)) := hid rfl
theorem b_fleq (a b : Nat) : abin .leq (.flt .f64 a) (.flt .f64 b) = some (.bool (flss a b || feq a b)) := hid rfl
theorem b_fgeq (a b : Nat) : abin .geq (.flt .f64 a) (.flt .f64 b) = some (.bool (fgtr a b || feq a b)) := hid rfl
theorem u_fneg (a : Nat) : aun .neg (.flt .f64 a) = some (.flt .f64 (fneg a)) := hid rfl
def iToFX (H : AHeap) : AVal → Option (AVal × AHeap)
  | .int _ n => some (.flt .f64 (fint n), H)
  | _ => none
theorem o_iToF (x : AOpd) : ado call (.iToF x) ρ H = iToFX H (ρ x) := by
  simp only [ado, aop, iToFX, fint]
  cases ρ x <;> rfl
theorem iToF_int (k : IntKind) (n : Int) (H : AHeap) : iToFX H (.int k n) = some (.flt .f64 (fint n), H) := hid rfl
def fToIX (k : IntKind) (H : AHeap) : AVal → Option (AVal × AHeap)
  | .flt .f64 b => vX H ((floatToIntVal .f64 b k).map (.int k))
  | _ => none
theorem o_fToI (k : IntKind) (x : AOpd) : ado call (.fToI k x) ρ H = fToIX k H (ρ x) := by
  simp only [ado, aop, fToIX]
  cases ρ x <;> try rfl
  rename_i j b
  cases j
  · rfl
  · simp only
    cases floatToIntVal .f64 b k <;> rfl
theorem fToI_flt (k : IntKind) (b : Nat) (H : AHeap) : fToIX k H (.flt .f64 b) = vX H ((floatToIntVal .f64 b k).map (.int k)) := hid rfl
def fbitsX (H : AHeap) : AVal → Option (AVal × AHeap)
  | .flt .f64 b => cnd (decide (Fl.num b)) (some (.int .u64 (b : Int), H)) none
  | _ => none
theorem o_fbits (x : AOpd) : ado call (.fbits x) ρ H = fbitsX H (ρ x) := by
  simp only [ado, aop, fbitsX]
  cases ρ x <;> try rfl
  rename_i j b
  cases j
  · rfl
  · simp only [cnd_ite, decide_eq_true_eq]
theorem fbits_flt (b : Nat) (H : AHeap) : fbitsX H (.flt .f64 b) = cnd (decide (Fl.num b)) (some (.int .u64 (b : Int), H)) none := hid rfl
def ofBitsX (H : AHeap) : AVal → Option (AVal × AHeap)
  | .int .u64 n => some (.flt .f64 n.toNat, H)
  | _ => none
theorem o_ofBits (x : AOpd) : ado call (.ofBits x) ρ H = ofBitsX H (ρ x) := by
  simp only [ado, aop, ofBitsX]
  cases ρ x <;> rfl
theorem ofBits_int (n : Int) (H : AHeap) : ofBitsX H (.int .u64 n) = some (.flt .f64 n.toNat, H) := hid rfl
def ffloor (b : Nat) : Nat := Ieee.double.write ((Ieee.double.read b).integral .down)
def floorX (H : AHeap) : AVal → Option (AVal × AHeap)
  | .flt .f64 b => cnd (decide (Fl.num b)) (some (.flt .f64 (ffloor b), H)) none
  | _ => none
theorem o_ffloor (x : AOpd) : ado call (.ffloor x) ρ H = floorX H (ρ x) := by
  simp only [ado, aop, floorX, ffloor]
  cases ρ x <;> try rfl
  rename_i j b
  cases j
  · rfl
  · simp only [cnd_ite, decide_eq_true_eq]
theorem floor_flt (b : Nat) (H : AHeap) : floorX H (.flt .f64 b) = cnd (decide (Fl.num b)) (some (.flt .f64 (ffloor b), H)) none := hid rfl
theorem eff_fbits (x : AOpd) : AOp.eff (.fbits x) = false := hid rfl
theorem eff_ofBits (x : AOpd) : AOp.eff (.ofBits x) = false := hid rfl
theorem eff_ffloor (x : AOpd) : AOp.eff (.ffloor x) = false := hid rfl
theorem eff_iToF (x : AOpd) : AOp.eff (.iToF x) = false := hid rfl
theorem eff_fToI (k : IntKind) (x : AOpd) : AOp.eff (.fToI k x) = false := hid rfl
theorem cells_flt (k : FloatKind) (b : Nat) : AVal.cells (.flt k b) = [.flt k b] := hid rfl
theorem tup_flt (k : FloatKind) (b : Nat) : AVal.tup (.flt k b) = false := hid rfl
theorem b_seq (a b : List UInt8) : abin .eql (.str a) (.str b) = some (.bool (decide (a = b))) := by
  simp [abin, astr]
  exact Bool.beq_eq_decide_eq a b
theorem b_sne (a b : List UInt8) : abin .neq (.str a) (.str b) = some (.bool (!decide (a = b))) := by
  simp [abin, astr]
  exact Bool.beq_eq_decide_eq a b
theorem b_sls (a b : List UInt8) : abin .lss (.str a) (.str b) = some (.bool (Op.bytesLess a b)) := by simp [abin, astr]
theorem b_sge (a b : List UInt8) : abin .geq (.str a) (.str b) = some (.bool (!Op.bytesLess a b)) := by simp [abin, astr]
theorem call_fn (g : FuncId) (f c : List AVal) (l : List AVal) (H : AHeap) : callX call l H (.func g f c) = call g (f ++ l ++ c) H := hid rfl
theorem res_nil (env : Env) : aress H env [] = some [] := hid rfl
theorem res_tmp (env : Env) (t : Nat) (l : List ARes) : aress H env (.tmp t :: l) = consX (env t) (aress H env l) := by
  cases h : aress H env l <;> simp [aress, consX, h]
theorem res_cell (env : Env) (a : Nat) (g : Bool) (n : Nat) (l : List ARes) : aress H env (.cell a g n :: l) = cellX (aload H g n (env a)) (aress H env l) := by
  cases h : aress H env l <;> cases h2 : aload H g n (env a) <;> simp [aress, cellX, consX, h, h2]
theorem cons_some (v : AVal) (l : List AVal) : consX v (some l) = some (v :: l) := hid rfl
theorem cell_some (v : AVal) (x : Option (List AVal)) : cellX (some v) x = consX v x := hid rfl
theorem retX_some (l : List AVal) (H : AHeap) : retX H (some l) = some (aret l, H) := hid rfl
theorem ret_one (v : AVal) : aret [v] = v := hid rfl
theorem ret_nil : aret [] = .tuple [] := hid rfl
theorem ret_two (u v : AVal) (l : List AVal) : aret (u :: v :: l) = .tuple (u :: v :: l) := hid rfl
theorem u_not (b : Bool) : aun .not (.bool b) = some (.bool !b) := hid rfl
theorem u_neg (k : IntKind) (n : Int) : aun .neg (.int k n) = some (.int k (k.wrap (-n))) := by simp [aun, aint]
theorem m_max (k : IntKind) (x y : Int) : aminmax true (.int k x) (.int k y) = some (.int k (if y > x then y else x)) := by simp [aminmax]
theorem m_min (k : IntKind) (x y : Int) : aminmax false (.int k x) (.int k y) = some (.int k (if y < x then y else x)) := by simp [aminmax]
theorem e_int (k : IntKind) (a b : Int) : aeq (.int k) (.int k a) (.int k b) = some (decide (a = b)) := by
  simp [aeq]
  exact Bool.beq_eq_decide_eq a b

theorem wrap_i64 (n : Int) : IntKind.i64.wrap n = (n + 9223372036854775808) % 18446744073709551616 - 9223372036854775808 := by
  have : IntKind.i64.wrap n = (if n % 18446744073709551616 ≥ 9223372036854775808 then n % 18446744073709551616 - 18446744073709551616 else n % 18446744073709551616) := by
    simp [IntKind.wrap, IntKind.signed, IntKind.bits]
  rw [this]
  split <;> omega

theorem wrap64 (n : Int) (h1 : -9223372036854775808 ≤ n) (h2 : n ≤ 9223372036854775807) : IntKind.i64.wrap n = n := by
  simp [IntKind.wrap, IntKind.signed, IntKind.bits]
  omega

end Go.Proofs.Ytilhjcnkaelheaa.Am
