/- Following a range over a function by rewriting. -/
import Derived.Test.YtilhjcnkaelheaaAmCut
set_option linter.unusedSimpArgs false
set_option linter.unusedVariables false
namespace Go.Proofs.Ytilhjcnkaelheaa.Am
open Go

variable {A : AProg} {call : ACall} {tok : Nat} {yl : AYield}

/-- What a run of the function's own code ends in. -/
def OutsY (x : Option (AExit × APend × Env × AHeap)) (Q : AExit → APend → Env → AHeap → Prop) : Prop := ∃ e st env H, x = some (e, st, env, H) ∧ Q e st env H

def liftY (st : APend) : Option (AVal × AHeap) → Option (AVal × APend × AHeap)
  | none => none
  | some (v, H) => some (v, st, H)
def yieldX : Option (Bool × APend × AHeap) → Option (AVal × APend × AHeap)
  | none => none
  | some (b, st, H) => some (.bool b, st, H)
def callY (call : ACall) (tok : Nat) (yl : AYield) (args : List AVal) (st : APend) (H : AHeap) : AVal → Option (AVal × APend × AHeap)
  | .yield id => if id = tok then yieldX (yl st args H) else none
  | .func g a b => liftY st (call g (a ++ args ++ b) H)
  | _ => none
def stepYO (call : ACall) (tok : Nat) (yl : AYield) (l : List AOper) (d : Option Nat) (env : Env) : Option (AVal × APend × AHeap) → Option (APend × Env × AHeap)
  | none => none
  | some (v, st, H) => aopsY call tok yl l st (setd env d v) H
def outY : Option (APend × Env × AHeap) → Option (AExit × APend × Env × AHeap)
  | none => none
  | some (st, env, H) => some (.normal, st, env, H)
noncomputable def seqY (A : AProg) (tok : Nat) (yl : AYield) (b : ACode) : Option (AExit × APend × Env × AHeap) → Option (AExit × APend × Env × AHeap)
  | none => none
  | some (.normal, st, env, H) => AXY A tok yl b st env H
  | some (.exit i, st, env, H) => some (.exit i, st, env, H)
  | some (.ret, st, env, H) => some (.ret, st, env, H)
noncomputable def condY (A : AProg) (tok : Nat) (yl : AYield) (a b : ACode) (st : APend) (env : Env) (H : AHeap) : AVal → Option (AExit × APend × Env × AHeap)
  | .bool t => cnd t (AXY A tok yl a st env H) (AXY A tok yl b st env H)
  | _ => none
def blockY (id : Nat) : Option (AExit × APend × Env × AHeap) → Option (AExit × APend × Env × AHeap)
  | none => none
  | some (.normal, st, env, H) => some (.normal, st, env, H)
  | some (.exit i, st, env, H) => if i = id then some (.normal, st, env, H) else some (.exit i, st, env, H)
  | some (.ret, st, env, H) => some (.ret, st, env, H)

theorem y_lift (st : APend) (v : AVal) (H : AHeap) : liftY st (some (v, H)) = some (v, st, H) := hid rfl
theorem y_yX (b : Bool) (st : APend) (H : AHeap) : yieldX (some (b, st, H)) = some (.bool b, st, H) := hid rfl
theorem y_yield (args : List AVal) (st : APend) (H : AHeap) : callY call tok yl args st H (.yield tok) = yieldX (yl st args H) := by simp [callY]
theorem y_func (args : List AVal) (st : APend) (H : AHeap) (g : FuncId) (a b : List AVal) : callY call tok yl args st H (.func g a b) = liftY st (call g (a ++ args ++ b) H) := hid rfl
theorem y_stepO (l : List AOper) (d : Option Nat) (env : Env) (v : AVal) (st : APend) (H : AHeap) : stepYO call tok yl l d env (some (v, st, H)) = aopsY call tok yl l st (setd env d v) H := hid rfl
theorem y_out (st : APend) (env : Env) (H : AHeap) : outY (some (st, env, H)) = some (.normal, st, env, H) := hid rfl
theorem y_normal (b : ACode) (st : APend) (env : Env) (H : AHeap) : seqY A tok yl b (some (.normal, st, env, H)) = AXY A tok yl b st env H := hid rfl
theorem y_exits (b : ACode) (i : Nat) (st : APend) (env : Env) (H : AHeap) : seqY A tok yl b (some (.exit i, st, env, H)) = some (.exit i, st, env, H) := hid rfl
theorem y_rets (b : ACode) (st : APend) (env : Env) (H : AHeap) : seqY A tok yl b (some (.ret, st, env, H)) = some (.ret, st, env, H) := hid rfl
theorem y_bool (a b : ACode) (st : APend) (env : Env) (H : AHeap) (t : Bool) : condY A tok yl a b st env H (.bool t) = cnd t (AXY A tok yl a st env H) (AXY A tok yl b st env H) := hid rfl
theorem y_bnormal (id : Nat) (st : APend) (env : Env) (H : AHeap) : blockY id (some (.normal, st, env, H)) = some (.normal, st, env, H) := hid rfl
theorem y_bret (id : Nat) (st : APend) (env : Env) (H : AHeap) : blockY id (some (.ret, st, env, H)) = some (.ret, st, env, H) := hid rfl
theorem y_bexit (id i : Nat) (st : APend) (env : Env) (H : AHeap) : blockY id (some (.exit i, st, env, H)) = if i = id then some (.normal, st, env, H) else some (.exit i, st, env, H) := hid rfl
theorem y_nil (st : APend) (env : Env) (H : AHeap) : aopsY call tok yl [] st env H = some (st, env, H) := hid rfl

theorem y_op (d : Option Nat) (o : AOp) (rd : Option (Nat × Nat)) (l : List AOper) (st : APend) (env : Env) (H : AHeap) : aopsY call tok yl (⟨d, o, none, rd⟩ :: l) st env H = stepYO call tok yl l d env (ady call tok yl o (aev env) st H) := by
  simp only [aopsY, agd, if_true]
  cases ady call tok yl o (aev env) st H with
  | none => rfl
  | some r => rfl
theorem y_plain (o : AOp) (h : o.isCall = false) (ρ : AOpd → AVal) (st : APend) (H : AHeap) : ady call tok yl o ρ st H = liftY st (ado call o ρ H) := by
  have key : (aop o ρ H).map (fun r => (r.1, st, r.2)) = liftY st (aop o ρ H) := by
    cases aop o ρ H with
    | none => rfl
    | some r => rfl
  cases o <;> first | exact key | cases h
theorem y_call (f : AOpd) (as : List AOpd) (ρ : AOpd → AVal) (st : APend) (H : AHeap) : ady call tok yl (.call f as) ρ st H = callY call tok yl (as.map ρ) st H (ρ f) := by
  simp only [ady]
  cases ρ f with
  | yield id =>
    simp only [callY]
    split
    · cases yl st (as.map ρ) H with
      | none => rfl
      | some r => rfl
    · rfl
  | func g a b =>
    simp only [callY]
    cases call g (a ++ as.map ρ ++ b) H with
    | none => rfl
    | some r => rfl
  | _ => rfl
theorem y_region (ops : List AOper) (st : APend) (env : Env) (H : AHeap) : AXY A tok yl (.region ops) st env H = outY (aopsY (AC A) tok yl ops st env H) := by
  rw [AXY_region]
  cases aopsY (AC A) tok yl ops st env H with
  | none => rfl
  | some r => rfl
theorem y_seq (a b : ACode) (st : APend) (env : Env) (H : AHeap) : AXY A tok yl (.seq a b) st env H = seqY A tok yl b (AXY A tok yl a st env H) := by
  rw [AXY_seq]
  cases AXY A tok yl a st env H with
  | none => rfl
  | some r => obtain ⟨e, st, env, H'⟩ := r; cases e <;> rfl
theorem y_cond (c : AOpd) (a b : ACode) (st : APend) (env : Env) (H : AHeap) : AXY A tok yl (.cond c a b) st env H = condY A tok yl a b st env H (aev env c) := by
  unfold condY
  split
  · rename_i t ht
    rw [AXY_cond c a b st env H t ht]
    cases t <;> rfl
  · rename_i hn
    refine opt_ext fun r => ?_
    rw [AXY_iff]
    simp only [aexecY]
    constructor
    · rintro ⟨k, hk⟩
      cases hk
    · intro h; cases h
theorem y_block (id : Nat) (a : ACode) (st : APend) (env : Env) (H : AHeap) : AXY A tok yl (.block id a) st env H = blockY id (AXY A tok yl a st env H) := by
  rw [AXY_block]
  cases AXY A tok yl a st env H with
  | none => rfl
  | some r =>
    obtain ⟨e, st, env, H'⟩ := r
    cases e <;> simp [blockY]
    split <;> rfl
theorem y_loop (a : ACode) (st : APend) (env : Env) (H : AHeap) : AXY A tok yl (.loop a) st env H = seqY A tok yl (.loop a) (AXY A tok yl a st env H) := by
  rw [AXY_loop]
  cases AXY A tok yl a st env H with
  | none => rfl
  | some r => obtain ⟨e, st, env, H'⟩ := r; cases e <;> rfl

/-- A loop of the function's own: rounds that go on have less before them. -/
theorem loopY_ends {α : Type} {b : ACode} {I : α → APend → Env → AHeap → Prop} {Q : AExit → APend → Env → AHeap → Prop} (μ : α → Nat)
    (h : ∀ a st env H, I a st env H → OutsY (AXY A tok yl b st env H) fun e st' env' H' => (e = .normal ∧ ∃ a', μ a' < μ a ∧ I a' st' env' H') ∨ (e ≠ .normal ∧ Q e st' env' H')) :
    ∀ a st env H, I a st env H → OutsY (AXY A tok yl (.loop b) st env H) Q := by
  have key : ∀ k a st env H, μ a < k → I a st env H → OutsY (AXY A tok yl (.loop b) st env H) Q := by
    intro k
    induction k with
    | zero => intro a st env H hk; omega
    | succ k ih =>
      intro a st env H hk hI
      obtain ⟨e, st', env', H', h1, h2⟩ := h a st env H hI
      rw [y_loop, h1]
      rcases h2 with ⟨rfl, a', hlt, hI'⟩ | ⟨hne, hQ⟩
      · rw [y_normal]
        exact ih a' st' env' H' (by omega) hI'
      · cases e with
        | normal => exact absurd rfl hne
        | exit i => rw [y_exits]; exact ⟨_, _, _, _, rfl, hQ⟩
        | ret => rw [y_rets]; exact ⟨_, _, _, _, rfl, hQ⟩
  intro a st env H hI
  exact key _ a st env H (Nat.lt_succ_self _) hI

/-! ### A round -/
def roundE : Option (AExit × Env × AHeap) → Option (Bool × APend × AHeap)
  | none => none
  | some (.normal, _, H) => some (true, none, H)
  | some (.exit i, _, H) => some (false, some (.exit i), H)
  | some (.ret, _, H) => some (false, some .ret, H)
def roundX (fb : ARun) : Option (AExit × Env × AHeap) → Option (Bool × APend × AHeap)
  | some (.normal, env, H) => roundE (fb env H)
  | _ => none
theorem r_normal (env : Env) (H : AHeap) : roundE (some (.normal, env, H)) = some (true, none, H) := hid rfl
theorem r_exit (i : Nat) (env : Env) (H : AHeap) : roundE (some (.exit i, env, H)) = some (false, some (.exit i), H) := hid rfl
theorem r_ret (env : Env) (H : AHeap) : roundE (some (.ret, env, H)) = some (false, some .ret, H) := hid rfl
theorem r_round (fb : ARun) (env : Env) (H : AHeap) : roundX fb (some (.normal, env, H)) = roundE (fb env H) := hid rfl
theorem r_yield (fa fb : ARun) (ps : List Nat) (env : Env) (args : List AVal) (H : AHeap) (h : args.length = ps.length) : ayield fa fb ps env none args H = roundX fb (fa (setps env ps args) H) := by
  simp only [ayield, h, Option.isNone_none, and_self, if_true]
  cases fa (setps env ps args) H with
  | none => rfl
  | some r =>
    obtain ⟨e, env1, H1⟩ := r
    cases e with
    | normal =>
      simp only [Option.bind_some, roundX]
      cases fb env1 H1 with
      | none => rfl
      | some q => obtain ⟨e, env2, H2⟩ := q; cases e <;> rfl
    | _ => rfl
theorem r_ps (env : Env) (p : Nat) (ps : List Nat) (v : AVal) (vs : List AVal) : setps env (p :: ps) (v :: vs) = setps (env.set p v) ps vs := hid rfl
theorem r_ps0 (env : Env) : setps env [] [] = env := hid rfl

/-- A range, in a walk. -/
theorem s_range {f : AOpd} {ps : List Nat} {as bd : ACode} {env : Env} {H : AHeap} {g : FuncId} {first captured : List AVal} {fn : AFn} (hf : aev env f = .func g first captured) (hfn : A.fn g = some fn) (hres : fn.results = []) {Q : APend → AHeap → Prop}
    (h : OutsY (AXY A H.next (ayield (AX A as) (AX A bd) ps env) fn.body none (ainit (first ++ [.yield H.next] ++ captured)) H.skip) fun e st _ H1 => (∀ id, e ≠ .exit id) ∧ Q st H1) :
    ∃ st H1, AX A (.range f ps as bd) env H = some (st.getD .normal, env, H1) ∧ Q st H1 := by
  obtain ⟨e, st, env1, H1, h1, h2, h3⟩ := h
  exact ⟨st, H1, AX_range hf hfn hres h2 h1, h3⟩

end Go.Proofs.Ytilhjcnkaelheaa.Am
