/- The abstract machine's runs without a bound: what a call answers, if any bound suffices; and the equations by which a run is followed. -/
import Derived.Test.YtfpbmoiconopcaaAmRow
set_option linter.unusedSimpArgs false
set_option linter.unusedVariables false
namespace Go.Proofs.Ytfpbmoiconopcaa.Am
open Go

def CLe (c d : ACall) : Prop := ∀ f args H r, c f args H = some r → d f args H = some r

theorem CLe.refl (c : ACall) : CLe c c := fun _ _ _ _ h => h
theorem CLe.trans {a b c : ACall} (h : CLe a b) (k : CLe b c) : CLe a c := fun f x H r e => k f x H r (h f x H r e)

theorem ado_mono {c d : ACall} (hc : CLe c d) {o : AOp} {ρ : AOpd → AVal} {H : AHeap} {r : AVal × AHeap} (h : ado c o ρ H = some r) : ado d o ρ H = some r := by
  cases o <;> first | exact h | skip
  simp only [ado] at h ⊢
  split at h
  · exact hc _ _ _ _ h
  · simp at h

theorem aops_mono {c d : ACall} (hc : CLe c d) : ∀ {l : List AOper} {env : Env} {H : AHeap} {r : Env × AHeap}, aops c l env H = some r → aops d l env H = some r
  | [], env, H, r, h => h
  | o :: l, env, H, r, h => by
    simp only [aops] at h ⊢
    split at h
    · rename_i hg
      rw [if_pos hg]
      simp only [Option.bind_eq_some_iff] at h ⊢
      obtain ⟨x, hx, hr⟩ := h
      exact ⟨x, ado_mono hc hx, aops_mono hc hr⟩
    · rename_i hg
      rw [if_neg hg]
      exact aops_mono hc h

theorem adraw_mono {c d : ACall} (hc : CLe c d) : ∀ {l : List AOper} {env : Env} {H : AHeap} {st : List AHeap} {rs : List ARead} {r : Env × AHeap}, adraw c l env H st rs = some r → adraw d l env H st rs = some r
  | [], env, H, st, rs, r, h => h
  | o :: l, env, H, st, rs, r, h => by
    simp only [adraw] at h ⊢
    split at h
    · rename_i hg
      rw [if_pos hg]
      simp only [Option.bind_eq_some_iff] at h ⊢
      obtain ⟨x, hx, hr⟩ := h
      exact ⟨x, ado_mono hc hx, adraw_mono hc hr⟩
    · rename_i hg
      rw [if_neg hg]
      exact adraw_mono hc h

theorem aiter_mono {f g : ARun} (hf : ∀ env H r, f env H = some r → g env H = some r) : ∀ {n m : Nat} {env : Env} {H : AHeap} {r : AExit × Env × AHeap}, n ≤ m → aiter f n env H = some r → aiter g m env H = some r
  | 0, m, env, H, r, _, h => by simp [aiter] at h
  | n + 1, 0, env, H, r, hm, h => by omega
  | n + 1, m + 1, env, H, r, hm, h => by
    simp only [aiter, Option.bind_eq_some_iff] at h ⊢
    obtain ⟨x, hx, hr⟩ := h
    refine ⟨x, hf _ _ _ hx, ?_⟩
    obtain ⟨e, env1, H1⟩ := x
    cases e
    · exact aiter_mono hf (by omega) hr
    · exact hr
    · exact hr

theorem aexec_mono {c d : ACall} (hc : CLe c d) {n m : Nat} (hm : n ≤ m) : ∀ (a : ACode) {env : Env} {H : AHeap} {r : AExit × Env × AHeap}, aexec c n a env H = some r → aexec d m a env H = some r
  | .skip, env, H, r, h => h
  | .region ops, env, H, r, h => by
    simp only [aexec, Option.map_eq_some_iff] at h ⊢
    obtain ⟨x, hx, rfl⟩ := h
    exact ⟨x, aops_mono hc hx, rfl⟩
  | .draw ops, env, H, r, h => by
    simp only [aexec, Option.map_eq_some_iff] at h ⊢
    obtain ⟨x, hx, rfl⟩ := h
    exact ⟨x, adraw_mono hc hx, rfl⟩
  | .seq a b, env, H, r, h => by
    simp only [aexec, Option.bind_eq_some_iff] at h ⊢
    obtain ⟨x, hx, hr⟩ := h
    refine ⟨x, aexec_mono hc hm a hx, ?_⟩
    obtain ⟨e, env1, H1⟩ := x
    cases e
    · exact aexec_mono hc hm b hr
    · exact hr
    · exact hr
  | .cond x a b, env, H, r, h => by
    simp only [aexec] at h ⊢
    split at h
    · rename_i t ht
      cases t
      · exact aexec_mono hc hm b h
      · exact aexec_mono hc hm a h
    · simp at h
  | .block id a, env, H, r, h => by
    simp only [aexec, Option.map_eq_some_iff] at h ⊢
    obtain ⟨x, hx, hr⟩ := h
    exact ⟨x, aexec_mono hc hm a hx, hr⟩
  | .loop a, env, H, r, h => by
    simp only [aexec] at h ⊢
    exact aiter_mono (fun env H r h => aexec_mono hc hm a h) hm h
  | .exit id, env, H, r, h => h
  | .ret, env, H, r, h => h

theorem arun_mono {c d : ACall} (hc : CLe c d) {n m : Nat} (hm : n ≤ m) {x : Option AFn} {args : List AVal} {H : AHeap} {r : AVal × AHeap} (h : arun c n x args H = some r) : arun d m x args H = some r := by
  simp only [arun, Option.bind_eq_some_iff] at h ⊢
  obtain ⟨fn, hf, x, hx, hr⟩ := h
  exact ⟨fn, hf, x, aexec_mono hc hm _ hx, hr⟩

theorem gcX_mono {n : Nat} {H : AHeap} {x y : Option (AVal × AHeap)} (hxy : ∀ r, x = some r → y = some r) {r : AVal × AHeap} (h : gcX n H x = some r) : gcX n H y = some r := by
  obtain ⟨v, H1⟩ := r
  obtain ⟨u, K, h1, rfl, rfl⟩ := gcX_some h
  rw [hxy _ h1]
  rfl

theorem acall_step (A : AProg) : ∀ k, CLe (acall A k) (acall A (k + 1))
  | 0 => fun f args H r h => by simp [acall] at h
  | k + 1 => fun f args H r h => by
    rw [acall] at h
    rw [acall]
    split at h
    · exact h
    · split at h
      · exact arun_mono (acall_step A k) (by omega) h
      · split at h
        · rename_i hp
          rw [if_pos hp]
          exact gcX_mono (fun r h => arun_mono (acall_step A k) (Nat.le_succ k) h) h
        · cases h
      · exact gcX_mono (fun r h => arun_mono (acall_step A k) (Nat.le_succ k) h) h

theorem acall_mono (A : AProg) {k m : Nat} (h : k ≤ m) : CLe (acall A k) (acall A m) := by
  induction m with
  | zero => have : k = 0 := by omega
            subst this; exact CLe.refl _
  | succ m ih =>
    by_cases hk : k = m + 1
    · subst hk; exact CLe.refl _
    · exact (ih (by omega)).trans (acall_step A m)

/-! ### Without a bound -/
noncomputable section
open Classical

/-- What a call answers. -/
def AC (A : AProg) : ACall := fun f args H => if h : ∃ k r, acall A k f args H = some r then some h.choose_spec.choose else none

/-- What code does. -/
def AX (A : AProg) (c : ACode) : ARun := fun env H => if h : ∃ k r, aexec (acall A k) k c env H = some r then some h.choose_spec.choose else none

end

variable {A : AProg}

theorem AC_iff {f : FuncId} {args : List AVal} {H : AHeap} {r : AVal × AHeap} : AC A f args H = some r ↔ ∃ k, acall A k f args H = some r := by
  unfold AC
  constructor
  · intro h
    split at h
    · rename_i he
      have := he.choose_spec.choose_spec
      simp only [Option.some.injEq] at h
      rw [h] at this
      exact ⟨_, this⟩
    · simp at h
  · rintro ⟨k, hk⟩
    have he : ∃ k r, acall A k f args H = some r := ⟨k, r, hk⟩
    rw [dif_pos he]
    have h1 := he.choose_spec.choose_spec
    generalize he.choose_spec.choose = x at *
    have h2 := acall_mono A (Nat.le_max_left he.choose k) _ _ _ _ h1
    have h3 := acall_mono A (Nat.le_max_right he.choose k) _ _ _ _ hk
    rw [h2] at h3
    exact h3

theorem AX_iff {c : ACode} {env : Env} {H : AHeap} {r : AExit × Env × AHeap} : AX A c env H = some r ↔ ∃ k, aexec (acall A k) k c env H = some r := by
  unfold AX
  constructor
  · intro h
    split at h
    · rename_i he
      have := he.choose_spec.choose_spec
      simp only [Option.some.injEq] at h
      rw [h] at this
      exact ⟨_, this⟩
    · simp at h
  · rintro ⟨k, hk⟩
    have he : ∃ k r, aexec (acall A k) k c env H = some r := ⟨k, r, hk⟩
    rw [dif_pos he]
    have h1 := he.choose_spec.choose_spec
    generalize he.choose_spec.choose = x at *
    have h2 := aexec_mono (acall_mono A (Nat.le_max_left he.choose k)) (Nat.le_max_left he.choose k) c h1
    have h3 := aexec_mono (acall_mono A (Nat.le_max_right he.choose k)) (Nat.le_max_right he.choose k) c hk
    rw [h2] at h3
    exact h3

theorem acall_AC (k : Nat) : CLe (acall A k) (AC A) := fun _ _ _ _ h => AC_iff.2 ⟨k, h⟩

theorem ado_AC {o : AOp} {ρ : AOpd → AVal} {H : AHeap} {r : AVal × AHeap} (h : ado (AC A) o ρ H = some r) : ∃ k, ado (acall A k) o ρ H = some r := by
  cases o <;> first | exact ⟨0, h⟩ | skip
  simp only [ado] at h ⊢
  split at h
  · exact AC_iff.1 h
  · simp at h

theorem aops_AC : ∀ {l : List AOper} {env : Env} {H : AHeap} {r : Env × AHeap}, aops (AC A) l env H = some r → ∃ k, aops (acall A k) l env H = some r
  | [], env, H, r, h => ⟨0, h⟩
  | o :: l, env, H, r, h => by
    simp only [aops] at h ⊢
    split at h
    · rename_i hg
      simp only [if_pos hg]
      simp only [Option.bind_eq_some_iff] at h ⊢
      obtain ⟨x, hx, hr⟩ := h
      obtain ⟨k, hk⟩ := ado_AC hx
      obtain ⟨m, hm⟩ := aops_AC hr
      exact ⟨max k m, x, ado_mono (acall_mono A (Nat.le_max_left _ _)) hk, aops_mono (acall_mono A (Nat.le_max_right _ _)) hm⟩
    · rename_i hg
      simp only [if_neg hg]
      exact aops_AC h

theorem adraw_AC : ∀ {l : List AOper} {env : Env} {H : AHeap} {st : List AHeap} {rs : List ARead} {r : Env × AHeap}, adraw (AC A) l env H st rs = some r → ∃ k, adraw (acall A k) l env H st rs = some r
  | [], env, H, st, rs, r, h => ⟨0, h⟩
  | o :: l, env, H, st, rs, r, h => by
    simp only [adraw] at h ⊢
    split at h
    · rename_i hg
      simp only [if_pos hg]
      simp only [Option.bind_eq_some_iff] at h ⊢
      obtain ⟨x, hx, hr⟩ := h
      obtain ⟨k, hk⟩ := ado_AC hx
      obtain ⟨m, hm⟩ := adraw_AC hr
      exact ⟨max k m, x, ado_mono (acall_mono A (Nat.le_max_left _ _)) hk, adraw_mono (acall_mono A (Nat.le_max_right _ _)) hm⟩
    · rename_i hg
      simp only [if_neg hg]
      exact adraw_AC h

theorem opt_ext {α : Type} {x y : Option α} (h : ∀ r, x = some r ↔ y = some r) : x = y := by
  cases x with
  | none =>
    cases y with
    | none => rfl
    | some b => have := (h b).2 rfl; simp at this
  | some a => exact ((h a).1 rfl).symm

@[simp] theorem AX_skip (env : Env) (H : AHeap) : AX A .skip env H = some (.normal, env, H) := AX_iff.2 ⟨0, rfl⟩
@[simp] theorem AX_exit (id : Nat) (env : Env) (H : AHeap) : AX A (.exit id) env H = some (.exit id, env, H) := AX_iff.2 ⟨0, rfl⟩
@[simp] theorem AX_ret (env : Env) (H : AHeap) : AX A .ret env H = some (.ret, env, H) := AX_iff.2 ⟨0, rfl⟩

theorem AX_region (ops : List AOper) (env : Env) (H : AHeap) : AX A (.region ops) env H = (aops (AC A) ops env H).map fun r => (.normal, r.1, r.2) := by
  refine opt_ext fun r => ?_
  rw [AX_iff]
  simp only [aexec, Option.map_eq_some_iff]
  constructor
  · rintro ⟨k, x, hx, rfl⟩
    exact ⟨x, aops_mono (acall_AC k) hx, rfl⟩
  · rintro ⟨x, hx, rfl⟩
    obtain ⟨k, hk⟩ := aops_AC hx
    exact ⟨k, x, hk, rfl⟩

theorem AX_draw (ops : List AOper) (env : Env) (H : AHeap) : AX A (.draw ops) env H = (adraw (AC A) ops env H [H] []).map fun r => (.normal, r.1, r.2) := by
  refine opt_ext fun r => ?_
  rw [AX_iff]
  simp only [aexec, Option.map_eq_some_iff]
  constructor
  · rintro ⟨k, x, hx, rfl⟩
    exact ⟨x, adraw_mono (acall_AC k) hx, rfl⟩
  · rintro ⟨x, hx, rfl⟩
    obtain ⟨k, hk⟩ := adraw_AC hx
    exact ⟨k, x, hk, rfl⟩

/-- What comes after, where nothing has left. -/
def thenX (f : ARun) (r : AExit × Env × AHeap) : Option (AExit × Env × AHeap) :=
  match r.1 with
  | .normal => f r.2.1 r.2.2
  | _ => some r

@[simp] theorem thenX_normal (f : ARun) (env : Env) (H : AHeap) : thenX f (.normal, env, H) = f env H := rfl
@[simp] theorem thenX_exit (f : ARun) (id : Nat) (env : Env) (H : AHeap) : thenX f (.exit id, env, H) = some (.exit id, env, H) := rfl
@[simp] theorem thenX_ret (f : ARun) (env : Env) (H : AHeap) : thenX f (.ret, env, H) = some (.ret, env, H) := rfl

theorem both {c : ACode} {d : ACode} {env : Env} {H : AHeap} {r x : AExit × Env × AHeap} {k m : Nat} {env' : Env} {H' : AHeap} (h1 : aexec (acall A k) k c env H = some x) (h2 : aexec (acall A m) m d env' H' = some r) :
    aexec (acall A (max k m)) (max k m) c env H = some x ∧ aexec (acall A (max k m)) (max k m) d env' H' = some r :=
  ⟨aexec_mono (acall_mono A (Nat.le_max_left _ _)) (Nat.le_max_left _ _) c h1, aexec_mono (acall_mono A (Nat.le_max_right _ _)) (Nat.le_max_right _ _) d h2⟩

theorem AX_seq (a b : ACode) (env : Env) (H : AHeap) : AX A (.seq a b) env H = (AX A a env H).bind (thenX (AX A b)) := by
  refine opt_ext fun r => ?_
  rw [AX_iff]
  simp only [aexec, Option.bind_eq_some_iff]
  constructor
  · rintro ⟨k, x, hx, hr⟩
    refine ⟨x, AX_iff.2 ⟨k, hx⟩, ?_⟩
    obtain ⟨e, env1, H1⟩ := x
    cases e
    · exact AX_iff.2 ⟨k, hr⟩
    · exact hr
    · exact hr
  · rintro ⟨x, hx, hr⟩
    obtain ⟨k, hk⟩ := AX_iff.1 hx
    obtain ⟨e, env1, H1⟩ := x
    cases e
    · obtain ⟨m, hm⟩ := AX_iff.1 hr
      obtain ⟨h1, h2⟩ := both hk hm
      exact ⟨_, _, h1, h2⟩
    · exact ⟨k, _, hk, hr⟩
    · exact ⟨k, _, hk, hr⟩

theorem AX_cond (c : AOpd) (a b : ACode) (env : Env) (H : AHeap) (t : Bool) (h : aev env c = .bool t) : AX A (.cond c a b) env H = if t then AX A a env H else AX A b env H := by
  refine opt_ext fun r => ?_
  rw [AX_iff]
  simp only [aexec, h]
  cases t <;> simp [AX_iff]

theorem AX_block (id : Nat) (a : ACode) (env : Env) (H : AHeap) : AX A (.block id a) env H = (AX A a env H).map fun r => match r.1 with
    | .exit i => if i = id then (.normal, r.2) else r
    | _ => r := by
  refine opt_ext fun r => ?_
  rw [AX_iff]
  simp only [aexec, Option.map_eq_some_iff, AX_iff]
  constructor
  · rintro ⟨k, x, hx, hr⟩
    exact ⟨x, ⟨k, hx⟩, hr⟩
  · rintro ⟨x, ⟨k, hx⟩, hr⟩
    exact ⟨k, x, hx, hr⟩

theorem AX_loop (a : ACode) (env : Env) (H : AHeap) : AX A (.loop a) env H = (AX A a env H).bind (thenX (AX A (.loop a))) := by
  refine opt_ext fun r => ?_
  rw [AX_iff]
  simp only [Option.bind_eq_some_iff]
  constructor
  · rintro ⟨k, hk⟩
    simp only [aexec] at hk
    cases k with
    | zero => simp [aiter] at hk
    | succ k =>
      simp only [aiter, Option.bind_eq_some_iff] at hk
      obtain ⟨x, hx, hr⟩ := hk
      refine ⟨x, AX_iff.2 ⟨k + 1, hx⟩, ?_⟩
      obtain ⟨e, env1, H1⟩ := x
      cases e
      · refine AX_iff.2 ⟨k + 1, ?_⟩
        simp only [aexec]
        exact aiter_mono (fun _ _ _ h => h) (by omega) hr
      · exact hr
      · exact hr
  · rintro ⟨x, hx, hr⟩
    obtain ⟨k, hk⟩ := AX_iff.1 hx
    obtain ⟨e, env1, H1⟩ := x
    cases e
    · obtain ⟨m, hm⟩ := AX_iff.1 hr
      refine ⟨max k m + 1, ?_⟩
      simp only [aexec] at hm ⊢
      simp only [aiter, Option.bind_eq_some_iff]
      refine ⟨_, aexec_mono (acall_mono A (by omega)) (by omega) a hk, ?_⟩
      exact aiter_mono (fun _ _ _ h => aexec_mono (acall_mono A (by omega)) (by omega) a h) (by omega) hm
    · refine ⟨k + 1, ?_⟩
      simp only [aexec, aiter, Option.bind_eq_some_iff]
      exact ⟨_, aexec_mono (acall_mono A (by omega)) (by omega) a hk, hr⟩
    · refine ⟨k + 1, ?_⟩
      simp only [aexec, aiter, Option.bind_eq_some_iff]
      exact ⟨_, aexec_mono (acall_mono A (by omega)) (by omega) a hk, hr⟩

theorem AC_ext {f : FuncId} {g : List AVal → AHeap → Option (AVal × AHeap)} (h : A.ext f = some g) (args : List AVal) (H : AHeap) : AC A f args H = g args H := by
  refine opt_ext fun r => ?_
  rw [AC_iff]
  constructor
  · rintro ⟨k, hk⟩
    cases k with
    | zero => simp [acall] at hk
    | succ k => rw [acall, h] at hk; exact hk
  · intro hr
    exact ⟨1, by rw [acall, h]; exact hr⟩

/-- What a function's body does. -/
noncomputable def AB (A : AProg) (x : AFn) (args : List AVal) (H : AHeap) : Option (AVal × AHeap) := (AX A x.body (ainit args) H).bind (aend x)

theorem AB_iff {x : AFn} {args : List AVal} {H : AHeap} {r : AVal × AHeap} : AB A x args H = some r ↔ ∃ k, arun (acall A k) k (some x) args H = some r := by
  simp only [AB, arun, Option.bind_some, Option.bind_eq_some_iff]
  constructor
  · rintro ⟨y, hy, hr⟩
    obtain ⟨k, hk⟩ := AX_iff.1 hy
    exact ⟨k, y, hk, hr⟩
  · rintro ⟨k, y, hy, hr⟩
    exact ⟨y, AX_iff.2 ⟨k, hy⟩, hr⟩

theorem AC_fn {f : FuncId} {fn : AFn} (he : A.ext f = none) (hm : A.mode f = 0) (h : A.fn f = some fn) (args : List AVal) (H : AHeap) : AC A f args H = AB A fn args H := by
  refine opt_ext fun r => ?_
  rw [AC_iff, AB_iff]
  constructor
  · rintro ⟨k, hk⟩
    cases k with
    | zero => simp [acall] at hk
    | succ k =>
      rw [acall, he, hm, h] at hk
      exact ⟨k, hk⟩
  · rintro ⟨k, hk⟩
    refine ⟨k + 1, ?_⟩
    rw [acall, he, hm, h]
    exact hk

theorem gcX_iff {n : Nat} {H : AHeap} {x : Option (AVal × AHeap)} {r : AVal × AHeap} : gcX n H x = some r ↔ ∃ u, x = some u ∧ gc n H u.1 u.2 = r := by
  cases x with
  | none => simp [gcX]
  | some u => obtain ⟨v, K⟩ := u; simp [gcX]

theorem AC_one {f : FuncId} {fn : AFn} (he : A.ext f = none) (hm : A.mode f = 1) (h : A.fn f = some fn) (args : List AVal) (hp : plains args = true) (H : AHeap) : AC A f args H = gcX 0 H (AB A fn args noH) := by
  refine opt_ext fun r => ?_
  rw [AC_iff, gcX_iff]
  constructor
  · rintro ⟨k, hk⟩
    cases k with
    | zero => simp [acall] at hk
    | succ k =>
      rw [acall, he, hm, h] at hk
      simp only [hp, if_true] at hk
      obtain ⟨u, h1, h2⟩ := gcX_iff.1 hk
      exact ⟨u, AB_iff.2 ⟨k, h1⟩, h2⟩
  · rintro ⟨u, h1, h2⟩
    obtain ⟨k, hk⟩ := AB_iff.1 h1
    refine ⟨k + 1, ?_⟩
    rw [acall, he, hm, h]
    simp only [hp, if_true]
    exact gcX_iff.2 ⟨u, hk, h2⟩

theorem AC_two {f : FuncId} {fn : AFn} (he : A.ext f = none) (hm : A.mode f = 2) (h : A.fn f = some fn) (args : List AVal) (H : AHeap) : AC A f args H = gcX H.next H (AB A fn args (frz H)) := by
  refine opt_ext fun r => ?_
  rw [AC_iff, gcX_iff]
  constructor
  · rintro ⟨k, hk⟩
    cases k with
    | zero => simp [acall] at hk
    | succ k =>
      rw [acall, he, hm, h] at hk
      simp only at hk
      obtain ⟨u, h1, h2⟩ := gcX_iff.1 hk
      exact ⟨u, AB_iff.2 ⟨k, h1⟩, h2⟩
  · rintro ⟨u, h1, h2⟩
    obtain ⟨k, hk⟩ := AB_iff.1 h1
    refine ⟨k + 1, ?_⟩
    rw [acall, he, hm, h]
    simp only
    exact gcX_iff.2 ⟨u, hk, h2⟩

end Go.Proofs.Ytfpbmoiconopcaa.Am
