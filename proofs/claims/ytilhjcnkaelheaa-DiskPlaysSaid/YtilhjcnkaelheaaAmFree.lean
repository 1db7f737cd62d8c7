/- The abstract machine's runs without a bound: what a call answers, if any bound suffices; and the equations by which a run is followed. -/
import Derived.Test.YtilhjcnkaelheaaAmRow
set_option linter.unusedSimpArgs false
set_option linter.unusedVariables false
namespace Go.Proofs.Ytilhjcnkaelheaa.Am
open Go

def CLe (c d : ACall) : Prop := ∀ f args H r, c f args H = some r → d f args H = some r

theorem CLe.refl (c : ACall) : CLe c c := fun _ _ _ _ h => h
theorem CLe.trans {a b c : ACall} (h : CLe a b) (k : CLe b c) : CLe a c := fun f x H r e => k f x H r (h f x H r e)

theorem ado_mono {c d : ACall} (hc : CLe c d) {o : AOp} {ρ : AOpd → AVal} {H : AHeap} {r : AVal × AHeap} (h : ado c o ρ H = some r) : ado d o ρ H = some r := by
  cases o <;> first | exact h | skip
  simp only [ado] at h ⊢
  split at h
  · exact hc _ _ _ _ h
  · simp at h

theorem aops_mono {c d : ACall} (hc : CLe c d) : ∀ {l : List AOper} {env : Env} {H : AHeap} {r : Env × AHeap}, aops c l env H = some r → aops d l env H = some r
  | [], env, H, r, h => h
  | o :: l, env, H, r, h => by
    simp only [aops] at h ⊢
    split at h
    · rename_i hg
      rw [if_pos hg]
      simp only [Option.bind_eq_some_iff] at h ⊢
      obtain ⟨x, hx, hr⟩ := h
      exact ⟨x, ado_mono hc hx, aops_mono hc hr⟩
    · rename_i hg
      rw [if_neg hg]
      exact aops_mono hc h

theorem adraw_mono {c d : ACall} (hc : CLe c d) : ∀ {l : List AOper} {env : Env} {H : AHeap} {st : List AHeap} {rs : List ARead} {r : Env × AHeap}, adraw c l env H st rs = some r → adraw d l env H st rs = some r
  | [], env, H, st, rs, r, h => h
  | o :: l, env, H, st, rs, r, h => by
    simp only [adraw] at h ⊢
    split at h
    · rename_i hg
      rw [if_pos hg]
      simp only [Option.bind_eq_some_iff] at h ⊢
      obtain ⟨x, hx, hr⟩ := h
      exact ⟨x, ado_mono hc hx, adraw_mono hc hr⟩
    · rename_i hg
      rw [if_neg hg]
      exact adraw_mono hc h

theorem aiter_mono {f g : ARun} (hf : ∀ env H r, f env H = some r → g env H = some r) : ∀ {n m : Nat} {env : Env} {H : AHeap} {r : AExit × Env × AHeap}, n ≤ m → aiter f n env H = some r → aiter g m env H = some r
  | 0, m, env, H, r, _, h => by simp [aiter] at h
  | n + 1, 0, env, H, r, hm, h => by omega
  | n + 1, m + 1, env, H, r, hm, h => by
    simp only [aiter, Option.bind_eq_some_iff] at h ⊢
    obtain ⟨x, hx, hr⟩ := h
    refine ⟨x, hf _ _ _ hx, ?_⟩
    obtain ⟨e, env1, H1⟩ := x
    cases e
    · exact aiter_mono hf (by omega) hr
    · exact hr
    · exact hr

/-! ### Ranges over functions -/
def YLe (y z : AYield) : Prop := ∀ st args H r, y st args H = some r → z st args H = some r

theorem ady_mono {c d : ACall} (hc : CLe c d) {y z : AYield} (hy : YLe y z) {tok : Nat} {o : AOp} {ρ : AOpd → AVal} {st : APend} {H : AHeap} {r : AVal × APend × AHeap} (h : ady c tok y o ρ st H = some r) : ady d tok z o ρ st H = some r := by
  cases o <;> first | exact h | skip
  rename_i f args
  simp only [ady] at h ⊢
  generalize ρ f = v at h ⊢
  cases v with
  | yield id =>
    simp only at h ⊢
    split at h
    · rename_i e
      rw [if_pos e]
      simp only [Option.map_eq_some_iff] at h ⊢
      obtain ⟨x, hx, rfl⟩ := h
      exact ⟨x, hy _ _ _ _ hx, rfl⟩
    · cases h
  | func g a b =>
    simp only [Option.map_eq_some_iff] at h ⊢
    obtain ⟨x, hx, rfl⟩ := h
    exact ⟨x, hc _ _ _ _ hx, rfl⟩
  | _ => cases h

theorem aopsY_mono {c d : ACall} (hc : CLe c d) {y z : AYield} (hy : YLe y z) {tok : Nat} : ∀ {l : List AOper} {st : APend} {env : Env} {H : AHeap} {r : APend × Env × AHeap}, aopsY c tok y l st env H = some r → aopsY d tok z l st env H = some r
  | [], st, env, H, r, h => h
  | o :: l, st, env, H, r, h => by
    simp only [aopsY] at h ⊢
    split at h
    · rename_i hg
      rw [if_pos hg]
      simp only [Option.bind_eq_some_iff] at h ⊢
      obtain ⟨x, hx, hr⟩ := h
      exact ⟨x, ady_mono hc hy hx, aopsY_mono hc hy hr⟩
    · rename_i hg
      rw [if_neg hg]
      exact aopsY_mono hc hy h

theorem aiterY_mono {f g : ARunY} (hf : ∀ st env H r, f st env H = some r → g st env H = some r) : ∀ {n m : Nat} {st : APend} {env : Env} {H : AHeap} {r : AExit × APend × Env × AHeap}, n ≤ m → aiterY f n st env H = some r → aiterY g m st env H = some r
  | 0, m, st, env, H, r, _, h => by simp [aiterY] at h
  | n + 1, 0, st, env, H, r, hm, h => by omega
  | n + 1, m + 1, st, env, H, r, hm, h => by
    simp only [aiterY, Option.bind_eq_some_iff] at h ⊢
    obtain ⟨x, hx, hr⟩ := h
    refine ⟨x, hf _ _ _ _ hx, ?_⟩
    obtain ⟨e, st1, env1, H1⟩ := x
    cases e
    · exact aiterY_mono hf (by omega) hr
    · exact hr
    · exact hr

theorem aexecY_mono {c d : ACall} (hc : CLe c d) {y z : AYield} (hy : YLe y z) {tok n m : Nat} (hm : n ≤ m) : ∀ (a : ACode) {st : APend} {env : Env} {H : AHeap} {r : AExit × APend × Env × AHeap}, aexecY c tok y n a st env H = some r → aexecY d tok z m a st env H = some r
  | .skip, st, env, H, r, h => h
  | .region ops, st, env, H, r, h => by
    simp only [aexecY, Option.map_eq_some_iff] at h ⊢
    obtain ⟨x, hx, rfl⟩ := h
    exact ⟨x, aopsY_mono hc hy hx, rfl⟩
  | .draw ops, st, env, H, r, h => by
    simp only [aexecY, Option.map_eq_some_iff] at h ⊢
    obtain ⟨x, hx, rfl⟩ := h
    exact ⟨x, adraw_mono hc hx, rfl⟩
  | .seq a b, st, env, H, r, h => by
    simp only [aexecY, Option.bind_eq_some_iff] at h ⊢
    obtain ⟨x, hx, hr⟩ := h
    refine ⟨x, aexecY_mono hc hy hm a hx, ?_⟩
    obtain ⟨e, st1, env1, H1⟩ := x
    cases e
    · exact aexecY_mono hc hy hm b hr
    · exact hr
    · exact hr
  | .cond x a b, st, env, H, r, h => by
    simp only [aexecY] at h ⊢
    split at h
    · rename_i t ht
      cases t
      · exact aexecY_mono hc hy hm b h
      · exact aexecY_mono hc hy hm a h
    · simp at h
  | .block id a, st, env, H, r, h => by
    simp only [aexecY, Option.map_eq_some_iff] at h ⊢
    obtain ⟨x, hx, hr⟩ := h
    exact ⟨x, aexecY_mono hc hy hm a hx, hr⟩
  | .loop a, st, env, H, r, h => by
    simp only [aexecY] at h ⊢
    exact aiterY_mono (fun st env H r h => aexecY_mono hc hy hm a h) hm h
  | .exit id, st, env, H, r, h => h
  | .ret, st, env, H, r, h => h
  | .range .., st, env, H, r, h => h

theorem ayield_mono {fa fb ga gb : ARun} (ha : ∀ env H r, fa env H = some r → ga env H = some r) (hb : ∀ env H r, fb env H = some r → gb env H = some r) {ps : List Nat} {env : Env} : YLe (ayield fa fb ps env) (ayield ga gb ps env) := by
  intro st args H r h
  simp only [ayield] at h ⊢
  split at h
  · rename_i hc
    rw [if_pos hc]
    simp only [Option.bind_eq_some_iff] at h ⊢
    obtain ⟨⟨e, env1, H1⟩, h1, h2⟩ := h
    refine ⟨_, ha _ _ _ h1, ?_⟩
    cases e with
    | normal =>
      simp only [Option.map_eq_some_iff] at h2 ⊢
      obtain ⟨x, hx, h3⟩ := h2
      exact ⟨x, hb _ _ _ hx, h3⟩
    | _ => cases h2
  · cases h

theorem arange_mono {c d : ACall} (hc : CLe c d) {it : FuncId → Option AFn} {n m : Nat} (hm : n ≤ m) {fa fb ga gb : ARun} (ha : ∀ env H r, fa env H = some r → ga env H = some r) (hb : ∀ env H r, fb env H = some r → gb env H = some r)
    {ps : List Nat} {env : Env} {H : AHeap} {v : AVal} {r : AExit × Env × AHeap} (h : arange c it n fa fb ps env H v = some r) : arange d it m ga gb ps env H v = some r := by
  unfold arange at h ⊢
  split at h
  · simp only [Option.bind_eq_some_iff] at h ⊢
    obtain ⟨fn, hfn, h⟩ := h
    refine ⟨fn, hfn, ?_⟩
    split at h
    · rename_i hr
      rw [if_pos hr]
      simp only [Option.bind_eq_some_iff] at h ⊢
      obtain ⟨x, hx, h⟩ := h
      exact ⟨x, aexecY_mono hc (ayield_mono ha hb) hm _ hx, h⟩
    · cases h
  · cases h

theorem aexec_mono {c d : ACall} (hc : CLe c d) {it : FuncId → Option AFn} {n m : Nat} (hm : n ≤ m) : ∀ (a : ACode) {env : Env} {H : AHeap} {r : AExit × Env × AHeap}, aexec c it n a env H = some r → aexec d it m a env H = some r
  | .skip, env, H, r, h => h
  | .region ops, env, H, r, h => by
    simp only [aexec, Option.map_eq_some_iff] at h ⊢
    obtain ⟨x, hx, rfl⟩ := h
    exact ⟨x, aops_mono hc hx, rfl⟩
  | .draw ops, env, H, r, h => by
    simp only [aexec, Option.map_eq_some_iff] at h ⊢
    obtain ⟨x, hx, rfl⟩ := h
    exact ⟨x, adraw_mono hc hx, rfl⟩
  | .seq a b, env, H, r, h => by
    simp only [aexec, Option.bind_eq_some_iff] at h ⊢
    obtain ⟨x, hx, hr⟩ := h
    refine ⟨x, aexec_mono hc hm a hx, ?_⟩
    obtain ⟨e, env1, H1⟩ := x
    cases e
    · exact aexec_mono hc hm b hr
    · exact hr
    · exact hr
  | .cond x a b, env, H, r, h => by
    simp only [aexec] at h ⊢
    split at h
    · rename_i t ht
      cases t
      · exact aexec_mono hc hm b h
      · exact aexec_mono hc hm a h
    · simp at h
  | .block id a, env, H, r, h => by
    simp only [aexec, Option.map_eq_some_iff] at h ⊢
    obtain ⟨x, hx, hr⟩ := h
    exact ⟨x, aexec_mono hc hm a hx, hr⟩
  | .loop a, env, H, r, h => by
    simp only [aexec] at h ⊢
    exact aiter_mono (fun env H r h => aexec_mono hc hm a h) hm h
  | .exit id, env, H, r, h => h
  | .ret, env, H, r, h => h
  | .range f ps a b, env, H, r, h => by
    simp only [aexec] at h ⊢
    exact arange_mono hc hm (fun _ _ _ h => aexec_mono hc hm a h) (fun _ _ _ h => aexec_mono hc hm b h) h

theorem arun_mono {c d : ACall} (hc : CLe c d) {it : FuncId → Option AFn} {n m : Nat} (hm : n ≤ m) {x : Option AFn} {args : List AVal} {H : AHeap} {r : AVal × AHeap} (h : arun c it n x args H = some r) : arun d it m x args H = some r := by
  simp only [arun, Option.bind_eq_some_iff] at h ⊢
  obtain ⟨fn, hf, x, hx, hr⟩ := h
  exact ⟨fn, hf, x, aexec_mono hc hm _ hx, hr⟩

theorem gcX_mono {n : Nat} {H : AHeap} {x y : Option (AVal × AHeap)} (hxy : ∀ r, x = some r → y = some r) {r : AVal × AHeap} (h : gcX n H x = some r) : gcX n H y = some r := by
  obtain ⟨v, H1⟩ := r
  obtain ⟨u, K, h1, rfl, rfl⟩ := gcX_some h
  rw [hxy _ h1]
  rfl

theorem acall_step (A : AProg) : ∀ k, CLe (acall A k) (acall A (k + 1))
  | 0 => fun f args H r h => by simp [acall] at h
  | k + 1 => fun f args H r h => by
    rw [acall] at h
    rw [acall]
    split at h
    · exact h
    · split at h
      · exact arun_mono (acall_step A k) (by omega) h
      · split at h
        · rename_i hp
          rw [if_pos hp]
          exact gcX_mono (fun r h => arun_mono (acall_step A k) (Nat.le_succ k) h) h
        · cases h
      · exact gcX_mono (fun r h => arun_mono (acall_step A k) (Nat.le_succ k) h) h

theorem acall_mono (A : AProg) {k m : Nat} (h : k ≤ m) : CLe (acall A k) (acall A m) := by
  induction m with
  | zero => have : k = 0 := by omega
            subst this; exact CLe.refl _
  | succ m ih =>
    by_cases hk : k = m + 1
    · subst hk; exact CLe.refl _
    · exact (ih (by omega)).trans (acall_step A m)

/-! ### Without a bound -/
noncomputable section
open Classical

/-- What a call answers. -/
def AC (A : AProg) : ACall := fun f args H => if h : ∃ k r, acall A k f args H = some r then some h.choose_spec.choose else none

/-- What code does. -/
def AX (A : AProg) (c : ACode) : ARun := fun env H => if h : ∃ k r, aexec (acall A k) A.fn k c env H = some r then some h.choose_spec.choose else none

end

variable {A : AProg}

theorem AC_iff {f : FuncId} {args : List AVal} {H : AHeap} {r : AVal × AHeap} : AC A f args H = some r ↔ ∃ k, acall A k f args H = some r := by
  unfold AC
  constructor
  · intro h
    split at h
    · rename_i he
      have := he.choose_spec.choose_spec
      simp only [Option.some.injEq] at h
      rw [h] at this
      exact ⟨_, this⟩
    · simp at h
  · rintro ⟨k, hk⟩
    have he : ∃ k r, acall A k f args H = some r := ⟨k, r, hk⟩
    rw [dif_pos he]
    have h1 := he.choose_spec.choose_spec
    generalize he.choose_spec.choose = x at *
    have h2 := acall_mono A (Nat.le_max_left he.choose k) _ _ _ _ h1
    have h3 := acall_mono A (Nat.le_max_right he.choose k) _ _ _ _ hk
    rw [h2] at h3
    exact h3

theorem AX_iff {c : ACode} {env : Env} {H : AHeap} {r : AExit × Env × AHeap} : AX A c env H = some r ↔ ∃ k, aexec (acall A k) A.fn k c env H = some r := by
  unfold AX
  constructor
  · intro h
    split at h
    · rename_i he
      have := he.choose_spec.choose_spec
      simp only [Option.some.injEq] at h
      rw [h] at this
      exact ⟨_, this⟩
    · simp at h
  · rintro ⟨k, hk⟩
    have he : ∃ k r, aexec (acall A k) A.fn k c env H = some r := ⟨k, r, hk⟩
    rw [dif_pos he]
    have h1 := he.choose_spec.choose_spec
    generalize he.choose_spec.choose = x at *
    have h2 := aexec_mono (acall_mono A (Nat.le_max_left he.choose k)) (Nat.le_max_left he.choose k) c h1
    have h3 := aexec_mono (acall_mono A (Nat.le_max_right he.choose k)) (Nat.le_max_right he.choose k) c hk
    rw [h2] at h3
    exact h3

theorem acall_AC (k : Nat) : CLe (acall A k) (AC A) := fun _ _ _ _ h => AC_iff.2 ⟨k, h⟩

theorem ado_AC {o : AOp} {ρ : AOpd → AVal} {H : AHeap} {r : AVal × AHeap} (h : ado (AC A) o ρ H = some r) : ∃ k, ado (acall A k) o ρ H = some r := by
  cases o <;> first | exact ⟨0, h⟩ | skip
  simp only [ado] at h ⊢
  split at h
  · exact AC_iff.1 h
  · simp at h

theorem aops_AC : ∀ {l : List AOper} {env : Env} {H : AHeap} {r : Env × AHeap}, aops (AC A) l env H = some r → ∃ k, aops (acall A k) l env H = some r
  | [], env, H, r, h => ⟨0, h⟩
  | o :: l, env, H, r, h => by
    simp only [aops] at h ⊢
    split at h
    · rename_i hg
      simp only [if_pos hg]
      simp only [Option.bind_eq_some_iff] at h ⊢
      obtain ⟨x, hx, hr⟩ := h
      obtain ⟨k, hk⟩ := ado_AC hx
      obtain ⟨m, hm⟩ := aops_AC hr
      exact ⟨max k m, x, ado_mono (acall_mono A (Nat.le_max_left _ _)) hk, aops_mono (acall_mono A (Nat.le_max_right _ _)) hm⟩
    · rename_i hg
      simp only [if_neg hg]
      exact aops_AC h

theorem adraw_AC : ∀ {l : List AOper} {env : Env} {H : AHeap} {st : List AHeap} {rs : List ARead} {r : Env × AHeap}, adraw (AC A) l env H st rs = some r → ∃ k, adraw (acall A k) l env H st rs = some r
  | [], env, H, st, rs, r, h => ⟨0, h⟩
  | o :: l, env, H, st, rs, r, h => by
    simp only [adraw] at h ⊢
    split at h
    · rename_i hg
      simp only [if_pos hg]
      simp only [Option.bind_eq_some_iff] at h ⊢
      obtain ⟨x, hx, hr⟩ := h
      obtain ⟨k, hk⟩ := ado_AC hx
      obtain ⟨m, hm⟩ := adraw_AC hr
      exact ⟨max k m, x, ado_mono (acall_mono A (Nat.le_max_left _ _)) hk, adraw_mono (acall_mono A (Nat.le_max_right _ _)) hm⟩
    · rename_i hg
      simp only [if_neg hg]
      exact adraw_AC h

theorem opt_ext {α : Type} {x y : Option α} (h : ∀ r, x = some r ↔ y = some r) : x = y := by
  cases x with
  | none =>
    cases y with
    | none => rfl
    | some b => have := (h b).2 rfl; simp at this
  | some a => exact ((h a).1 rfl).symm

@[simp] theorem AX_skip (env : Env) (H : AHeap) : AX A .skip env H = some (.normal, env, H) := AX_iff.2 ⟨0, rfl⟩
@[simp] theorem AX_exit (id : Nat) (env : Env) (H : AHeap) : AX A (.exit id) env H = some (.exit id, env, H) := AX_iff.2 ⟨0, rfl⟩
@[simp] theorem AX_ret (env : Env) (H : AHeap) : AX A .ret env H = some (.ret, env, H) := AX_iff.2 ⟨0, rfl⟩

theorem AX_region (ops : List AOper) (env : Env) (H : AHeap) : AX A (.region ops) env H = (aops (AC A) ops env H).map fun r => (.normal, r.1, r.2) := by
  refine opt_ext fun r => ?_
  rw [AX_iff]
  simp only [aexec, Option.map_eq_some_iff]
  constructor
  · rintro ⟨k, x, hx, rfl⟩
    exact ⟨x, aops_mono (acall_AC k) hx, rfl⟩
  · rintro ⟨x, hx, rfl⟩
    obtain ⟨k, hk⟩ := aops_AC hx
    exact ⟨k, x, hk, rfl⟩

theorem AX_draw (ops : List AOper) (env : Env) (H : AHeap) : AX A (.draw ops) env H = (adraw (AC A) ops env H [H] []).map fun r => (.normal, r.1, r.2) := by
  refine opt_ext fun r => ?_
  rw [AX_iff]
  simp only [aexec, Option.map_eq_some_iff]
  constructor
  · rintro ⟨k, x, hx, rfl⟩
    exact ⟨x, adraw_mono (acall_AC k) hx, rfl⟩
  · rintro ⟨x, hx, rfl⟩
    obtain ⟨k, hk⟩ := adraw_AC hx
    exact ⟨k, x, hk, rfl⟩

/-- What comes after, where nothing has left. -/
def thenX (f : ARun) (r : AExit × Env × AHeap) : Option (AExit × Env × AHeap) :=
  match r.1 with
  | .normal => f r.2.1 r.2.2
  | _ => some r

@[simp] theorem thenX_normal (f : ARun) (env : Env) (H : AHeap) : thenX f (.normal, env, H) = f env H := rfl
@[simp] theorem thenX_exit (f : ARun) (id : Nat) (env : Env) (H : AHeap) : thenX f (.exit id, env, H) = some (.exit id, env, H) := rfl
@[simp] theorem thenX_ret (f : ARun) (env : Env) (H : AHeap) : thenX f (.ret, env, H) = some (.ret, env, H) := rfl

theorem both {c : ACode} {d : ACode} {env : Env} {H : AHeap} {r x : AExit × Env × AHeap} {k m : Nat} {env' : Env} {H' : AHeap} (h1 : aexec (acall A k) A.fn k c env H = some x) (h2 : aexec (acall A m) A.fn m d env' H' = some r) :
    aexec (acall A (max k m)) A.fn (max k m) c env H = some x ∧ aexec (acall A (max k m)) A.fn (max k m) d env' H' = some r :=
  ⟨aexec_mono (acall_mono A (Nat.le_max_left _ _)) (Nat.le_max_left _ _) c h1, aexec_mono (acall_mono A (Nat.le_max_right _ _)) (Nat.le_max_right _ _) d h2⟩

theorem AX_seq (a b : ACode) (env : Env) (H : AHeap) : AX A (.seq a b) env H = (AX A a env H).bind (thenX (AX A b)) := by
  refine opt_ext fun r => ?_
  rw [AX_iff]
  simp only [aexec, Option.bind_eq_some_iff]
  constructor
  · rintro ⟨k, x, hx, hr⟩
    refine ⟨x, AX_iff.2 ⟨k, hx⟩, ?_⟩
    obtain ⟨e, env1, H1⟩ := x
    cases e
    · exact AX_iff.2 ⟨k, hr⟩
    · exact hr
    · exact hr
  · rintro ⟨x, hx, hr⟩
    obtain ⟨k, hk⟩ := AX_iff.1 hx
    obtain ⟨e, env1, H1⟩ := x
    cases e
    · obtain ⟨m, hm⟩ := AX_iff.1 hr
      obtain ⟨h1, h2⟩ := both hk hm
      exact ⟨_, _, h1, h2⟩
    · exact ⟨k, _, hk, hr⟩
    · exact ⟨k, _, hk, hr⟩

theorem AX_cond (c : AOpd) (a b : ACode) (env : Env) (H : AHeap) (t : Bool) (h : aev env c = .bool t) : AX A (.cond c a b) env H = if t then AX A a env H else AX A b env H := by
  refine opt_ext fun r => ?_
  rw [AX_iff]
  simp only [aexec, h]
  cases t <;> simp [AX_iff]

theorem AX_block (id : Nat) (a : ACode) (env : Env) (H : AHeap) : AX A (.block id a) env H = (AX A a env H).map fun r => match r.1 with
    | .exit i => if i = id then (.normal, r.2) else r
    | _ => r := by
  refine opt_ext fun r => ?_
  rw [AX_iff]
  simp only [aexec, Option.map_eq_some_iff, AX_iff]
  constructor
  · rintro ⟨k, x, hx, hr⟩
    exact ⟨x, ⟨k, hx⟩, hr⟩
  · rintro ⟨x, ⟨k, hx⟩, hr⟩
    exact ⟨k, x, hx, hr⟩

theorem AX_loop (a : ACode) (env : Env) (H : AHeap) : AX A (.loop a) env H = (AX A a env H).bind (thenX (AX A (.loop a))) := by
  refine opt_ext fun r => ?_
  rw [AX_iff]
  simp only [Option.bind_eq_some_iff]
  constructor
  · rintro ⟨k, hk⟩
    simp only [aexec] at hk
    cases k with
    | zero => simp [aiter] at hk
    | succ k =>
      simp only [aiter, Option.bind_eq_some_iff] at hk
      obtain ⟨x, hx, hr⟩ := hk
      refine ⟨x, AX_iff.2 ⟨k + 1, hx⟩, ?_⟩
      obtain ⟨e, env1, H1⟩ := x
      cases e
      · refine AX_iff.2 ⟨k + 1, ?_⟩
        simp only [aexec]
        exact aiter_mono (fun _ _ _ h => h) (by omega) hr
      · exact hr
      · exact hr
  · rintro ⟨x, hx, hr⟩
    obtain ⟨k, hk⟩ := AX_iff.1 hx
    obtain ⟨e, env1, H1⟩ := x
    cases e
    · obtain ⟨m, hm⟩ := AX_iff.1 hr
      refine ⟨max k m + 1, ?_⟩
      simp only [aexec] at hm ⊢
      simp only [aiter, Option.bind_eq_some_iff]
      refine ⟨_, aexec_mono (acall_mono A (by omega)) (by omega) a hk, ?_⟩
      exact aiter_mono (fun _ _ _ h => aexec_mono (acall_mono A (by omega)) (by omega) a h) (by omega) hm
    · refine ⟨k + 1, ?_⟩
      simp only [aexec, aiter, Option.bind_eq_some_iff]
      exact ⟨_, aexec_mono (acall_mono A (by omega)) (by omega) a hk, hr⟩
    · refine ⟨k + 1, ?_⟩
      simp only [aexec, aiter, Option.bind_eq_some_iff]
      exact ⟨_, aexec_mono (acall_mono A (by omega)) (by omega) a hk, hr⟩

/-! ### A range, without a bound -/
theorem YLe.refl (y : AYield) : YLe y y := fun _ _ _ _ h => h

noncomputable section
open Classical
def AXY (A : AProg) (tok : Nat) (yl : AYield) (c : ACode) : ARunY := fun st env H => if h : ∃ k r, aexecY (acall A k) tok yl k c st env H = some r then some h.choose_spec.choose else none
end

theorem AXY_iff {tok : Nat} {yl : AYield} {c : ACode} {st : APend} {env : Env} {H : AHeap} {r : AExit × APend × Env × AHeap} : AXY A tok yl c st env H = some r ↔ ∃ k, aexecY (acall A k) tok yl k c st env H = some r := by
  unfold AXY
  constructor
  · intro h
    split at h
    · rename_i he
      have := he.choose_spec.choose_spec
      simp only [Option.some.injEq] at h
      rw [h] at this
      exact ⟨_, this⟩
    · simp at h
  · rintro ⟨k, hk⟩
    have he : ∃ k r, aexecY (acall A k) tok yl k c st env H = some r := ⟨k, r, hk⟩
    rw [dif_pos he]
    have h1 := he.choose_spec.choose_spec
    generalize he.choose_spec.choose = x at *
    have h2 := aexecY_mono (acall_mono A (Nat.le_max_left he.choose k)) (YLe.refl yl) (Nat.le_max_left he.choose k) c h1
    have h3 := aexecY_mono (acall_mono A (Nat.le_max_right he.choose k)) (YLe.refl yl) (Nat.le_max_right he.choose k) c hk
    rw [h2] at h3
    exact h3

variable {tok : Nat} {yl : AYield}

theorem bothY {c : ACode} {d : ACode} {st st' : APend} {env : Env} {H : AHeap} {r x : AExit × APend × Env × AHeap} {k m : Nat} {env' : Env} {H' : AHeap} (h1 : aexecY (acall A k) tok yl k c st env H = some x) (h2 : aexecY (acall A m) tok yl m d st' env' H' = some r) :
    aexecY (acall A (max k m)) tok yl (max k m) c st env H = some x ∧ aexecY (acall A (max k m)) tok yl (max k m) d st' env' H' = some r :=
  ⟨aexecY_mono (acall_mono A (Nat.le_max_left _ _)) (YLe.refl _) (Nat.le_max_left _ _) c h1, aexecY_mono (acall_mono A (Nat.le_max_right _ _)) (YLe.refl _) (Nat.le_max_right _ _) d h2⟩

def thenY (f : ARunY) (r : AExit × APend × Env × AHeap) : Option (AExit × APend × Env × AHeap) :=
  match r.1 with
  | .normal => f r.2.1 r.2.2.1 r.2.2.2
  | _ => some r

theorem AXY_skip (st : APend) (env : Env) (H : AHeap) : AXY A tok yl .skip st env H = some (.normal, st, env, H) := AXY_iff.2 ⟨0, rfl⟩
theorem AXY_exit (id : Nat) (st : APend) (env : Env) (H : AHeap) : AXY A tok yl (.exit id) st env H = some (.exit id, st, env, H) := AXY_iff.2 ⟨0, rfl⟩
theorem AXY_ret (st : APend) (env : Env) (H : AHeap) : AXY A tok yl .ret st env H = some (.ret, st, env, H) := AXY_iff.2 ⟨0, rfl⟩

theorem ady_AC {o : AOp} {ρ : AOpd → AVal} {st : APend} {H : AHeap} {r : AVal × APend × AHeap} (h : ady (AC A) tok yl o ρ st H = some r) : ∃ k, ady (acall A k) tok yl o ρ st H = some r := by
  cases o <;> first | exact ⟨0, h⟩ | skip
  rename_i f args
  simp only [ady] at h ⊢
  generalize ρ f = v at h ⊢
  cases v with
  | yield id => exact ⟨0, h⟩
  | func g a b =>
    simp only [Option.map_eq_some_iff] at h ⊢
    obtain ⟨x, hx, rfl⟩ := h
    obtain ⟨k, hk⟩ := AC_iff.1 hx
    exact ⟨k, x, hk, rfl⟩
  | _ => cases h

theorem aopsY_AC : ∀ {l : List AOper} {st : APend} {env : Env} {H : AHeap} {r : APend × Env × AHeap}, aopsY (AC A) tok yl l st env H = some r → ∃ k, aopsY (acall A k) tok yl l st env H = some r
  | [], st, env, H, r, h => ⟨0, h⟩
  | o :: l, st, env, H, r, h => by
    simp only [aopsY] at h ⊢
    split at h
    · rename_i hg
      simp only [if_pos hg]
      simp only [Option.bind_eq_some_iff] at h ⊢
      obtain ⟨x, hx, hr⟩ := h
      obtain ⟨k, hk⟩ := ady_AC hx
      obtain ⟨m, hm⟩ := aopsY_AC hr
      exact ⟨max k m, x, ady_mono (acall_mono A (Nat.le_max_left _ _)) (YLe.refl _) hk, aopsY_mono (acall_mono A (Nat.le_max_right _ _)) (YLe.refl _) hm⟩
    · rename_i hg
      simp only [if_neg hg]
      exact aopsY_AC h

theorem AXY_region (ops : List AOper) (st : APend) (env : Env) (H : AHeap) : AXY A tok yl (.region ops) st env H = (aopsY (AC A) tok yl ops st env H).map fun r => (.normal, r.1, r.2.1, r.2.2) := by
  refine opt_ext fun r => ?_
  rw [AXY_iff]
  simp only [aexecY, Option.map_eq_some_iff]
  constructor
  · rintro ⟨k, x, hx, rfl⟩
    exact ⟨x, aopsY_mono (acall_AC k) (YLe.refl _) hx, rfl⟩
  · rintro ⟨x, hx, rfl⟩
    obtain ⟨k, hk⟩ := aopsY_AC hx
    exact ⟨k, x, hk, rfl⟩

theorem AXY_seq (a b : ACode) (st : APend) (env : Env) (H : AHeap) : AXY A tok yl (.seq a b) st env H = (AXY A tok yl a st env H).bind (thenY (AXY A tok yl b)) := by
  refine opt_ext fun r => ?_
  rw [AXY_iff]
  simp only [aexecY, Option.bind_eq_some_iff]
  constructor
  · rintro ⟨k, x, hx, hr⟩
    refine ⟨x, AXY_iff.2 ⟨k, hx⟩, ?_⟩
    obtain ⟨e, st1, env1, H1⟩ := x
    cases e
    · exact AXY_iff.2 ⟨k, hr⟩
    · exact hr
    · exact hr
  · rintro ⟨x, hx, hr⟩
    obtain ⟨k, hk⟩ := AXY_iff.1 hx
    obtain ⟨e, st1, env1, H1⟩ := x
    cases e
    · obtain ⟨m, hm⟩ := AXY_iff.1 hr
      obtain ⟨h1, h2⟩ := bothY hk hm
      exact ⟨_, _, h1, h2⟩
    · exact ⟨k, _, hk, hr⟩
    · exact ⟨k, _, hk, hr⟩

theorem AXY_cond (c : AOpd) (a b : ACode) (st : APend) (env : Env) (H : AHeap) (t : Bool) (h : aev env c = .bool t) : AXY A tok yl (.cond c a b) st env H = if t then AXY A tok yl a st env H else AXY A tok yl b st env H := by
  refine opt_ext fun r => ?_
  rw [AXY_iff]
  simp only [aexecY, h]
  cases t <;> simp [AXY_iff]

theorem AXY_block (id : Nat) (a : ACode) (st : APend) (env : Env) (H : AHeap) : AXY A tok yl (.block id a) st env H = (AXY A tok yl a st env H).map fun r => match r.1 with
    | .exit i => if i = id then (.normal, r.2) else r
    | _ => r := by
  refine opt_ext fun r => ?_
  rw [AXY_iff]
  simp only [aexecY, Option.map_eq_some_iff, AXY_iff]
  constructor
  · rintro ⟨k, x, hx, hr⟩
    exact ⟨x, ⟨k, hx⟩, hr⟩
  · rintro ⟨x, ⟨k, hx⟩, hr⟩
    exact ⟨k, x, hx, hr⟩

theorem AXY_loop (a : ACode) (st : APend) (env : Env) (H : AHeap) : AXY A tok yl (.loop a) st env H = (AXY A tok yl a st env H).bind (thenY (AXY A tok yl (.loop a))) := by
  refine opt_ext fun r => ?_
  rw [AXY_iff]
  simp only [Option.bind_eq_some_iff]
  constructor
  · rintro ⟨k, hk⟩
    simp only [aexecY] at hk
    cases k with
    | zero => simp [aiterY] at hk
    | succ k =>
      simp only [aiterY, Option.bind_eq_some_iff] at hk
      obtain ⟨x, hx, hr⟩ := hk
      refine ⟨x, AXY_iff.2 ⟨k + 1, hx⟩, ?_⟩
      obtain ⟨e, st1, env1, H1⟩ := x
      cases e
      · refine AXY_iff.2 ⟨k + 1, ?_⟩
        simp only [aexecY]
        exact aiterY_mono (fun _ _ _ _ h => h) (by omega) hr
      · exact hr
      · exact hr
  · rintro ⟨x, hx, hr⟩
    obtain ⟨k, hk⟩ := AXY_iff.1 hx
    obtain ⟨e, st1, env1, H1⟩ := x
    cases e
    · obtain ⟨m, hm⟩ := AXY_iff.1 hr
      refine ⟨max k m + 1, ?_⟩
      simp only [aexecY] at hm ⊢
      simp only [aiterY, Option.bind_eq_some_iff]
      refine ⟨_, aexecY_mono (acall_mono A (by omega)) (YLe.refl _) (by omega) a hk, ?_⟩
      exact aiterY_mono (fun _ _ _ _ h => aexecY_mono (acall_mono A (by omega)) (YLe.refl _) (by omega) a h) (by omega) hm
    · refine ⟨k + 1, ?_⟩
      simp only [aexecY, aiterY, Option.bind_eq_some_iff]
      exact ⟨_, aexecY_mono (acall_mono A (by omega)) (YLe.refl _) (by omega) a hk, hr⟩
    · refine ⟨k + 1, ?_⟩
      simp only [aexecY, aiterY, Option.bind_eq_some_iff]
      exact ⟨_, aexecY_mono (acall_mono A (by omega)) (YLe.refl _) (by omega) a hk, hr⟩

/-- What each round answers is answered from some bound on. -/
def YLim (ys : Nat → AYield) (y : AYield) : Prop := ∀ st args H r, y st args H = some r → ∃ k, ∀ m, k ≤ m → ys m st args H = some r

section
variable {call : ACall} {ys : Nat → AYield}
theorem ady_lim (hl : YLim ys yl) {o : AOp} {ρ : AOpd → AVal} {st : APend} {H : AHeap} {r : AVal × APend × AHeap} (h : ady call tok yl o ρ st H = some r) : ∃ k, ∀ m, k ≤ m → ady call tok (ys m) o ρ st H = some r := by
  cases o <;> first | exact ⟨0, fun _ _ => h⟩ | skip
  rename_i f args
  simp only [ady] at h ⊢
  generalize ρ f = v at h ⊢
  cases v with
  | yield id =>
    simp only at h ⊢
    split at h
    · rename_i e
      simp only [if_pos e]
      simp only [Option.map_eq_some_iff] at h ⊢
      obtain ⟨x, hx, rfl⟩ := h
      obtain ⟨k, hk⟩ := hl _ _ _ _ hx
      exact ⟨k, fun m hm => ⟨x, hk m hm, rfl⟩⟩
    · cases h
  | func g a b => exact ⟨0, fun _ _ => h⟩
  | _ => cases h
theorem aopsY_lim (hl : YLim ys yl) : ∀ {l : List AOper} {st : APend} {env : Env} {H : AHeap} {r : APend × Env × AHeap}, aopsY call tok yl l st env H = some r → ∃ k, ∀ m, k ≤ m → aopsY call tok (ys m) l st env H = some r
  | [], st, env, H, r, h => ⟨0, fun _ _ => h⟩
  | o :: l, st, env, H, r, h => by
    simp only [aopsY] at h ⊢
    split at h
    · rename_i hg
      simp only [if_pos hg]
      simp only [Option.bind_eq_some_iff] at h ⊢
      obtain ⟨x, hx, hr⟩ := h
      obtain ⟨k, hk⟩ := ady_lim hl hx
      obtain ⟨j, hj⟩ := aopsY_lim hl hr
      exact ⟨max k j, fun m hm => ⟨x, hk m (by omega), hj m (by omega)⟩⟩
    · rename_i hg
      simp only [if_neg hg]
      exact aopsY_lim hl h
theorem aiterY_lim {f : ARunY} {fs : Nat → ARunY} (hf : ∀ st env H r, f st env H = some r → ∃ k, ∀ m, k ≤ m → fs m st env H = some r) : ∀ {n : Nat} {st : APend} {env : Env} {H : AHeap} {r : AExit × APend × Env × AHeap}, aiterY f n st env H = some r → ∃ k, ∀ m, k ≤ m → aiterY (fs m) n st env H = some r
  | 0, st, env, H, r, h => by simp [aiterY] at h
  | n + 1, st, env, H, r, h => by
    simp only [aiterY, Option.bind_eq_some_iff] at h ⊢
    obtain ⟨x, hx, hr⟩ := h
    obtain ⟨k, hk⟩ := hf _ _ _ _ hx
    obtain ⟨e, st1, env1, H1⟩ := x
    cases e
    · obtain ⟨j, hj⟩ := aiterY_lim hf hr
      exact ⟨max k j, fun m hm => ⟨_, hk m (by omega), hj m (by omega)⟩⟩
    · exact ⟨k, fun m hm => ⟨_, hk m hm, hr⟩⟩
    · exact ⟨k, fun m hm => ⟨_, hk m hm, hr⟩⟩
theorem aexecY_lim (hl : YLim ys yl) {n : Nat} : ∀ (a : ACode) {st : APend} {env : Env} {H : AHeap} {r : AExit × APend × Env × AHeap}, aexecY call tok yl n a st env H = some r → ∃ k, ∀ m, k ≤ m → aexecY call tok (ys m) n a st env H = some r
  | .skip, st, env, H, r, h => ⟨0, fun _ _ => h⟩
  | .region ops, st, env, H, r, h => by
    simp only [aexecY, Option.map_eq_some_iff] at h ⊢
    obtain ⟨x, hx, rfl⟩ := h
    obtain ⟨k, hk⟩ := aopsY_lim hl hx
    exact ⟨k, fun m hm => ⟨x, hk m hm, rfl⟩⟩
  | .draw ops, st, env, H, r, h => ⟨0, fun _ _ => h⟩
  | .seq a b, st, env, H, r, h => by
    simp only [aexecY, Option.bind_eq_some_iff] at h ⊢
    obtain ⟨x, hx, hr⟩ := h
    obtain ⟨k, hk⟩ := aexecY_lim hl a hx
    obtain ⟨e, st1, env1, H1⟩ := x
    cases e
    · obtain ⟨j, hj⟩ := aexecY_lim hl b hr
      exact ⟨max k j, fun m hm => ⟨_, hk m (by omega), hj m (by omega)⟩⟩
    · exact ⟨k, fun m hm => ⟨_, hk m hm, hr⟩⟩
    · exact ⟨k, fun m hm => ⟨_, hk m hm, hr⟩⟩
  | .cond x a b, st, env, H, r, h => by
    simp only [aexecY] at h ⊢
    split at h
    · rename_i t ht
      cases t
      · exact aexecY_lim hl b h
      · exact aexecY_lim hl a h
    · simp at h
  | .block id a, st, env, H, r, h => by
    simp only [aexecY, Option.map_eq_some_iff] at h ⊢
    obtain ⟨x, hx, hr⟩ := h
    obtain ⟨k, hk⟩ := aexecY_lim hl a hx
    exact ⟨k, fun m hm => ⟨x, hk m hm, hr⟩⟩
  | .loop a, st, env, H, r, h => by
    simp only [aexecY] at h ⊢
    exact aiterY_lim (fs := fun m => aexecY call tok (ys m) n a) (fun st env H r h => aexecY_lim hl a h) h
  | .exit id, st, env, H, r, h => ⟨0, fun _ _ => h⟩
  | .ret, st, env, H, r, h => ⟨0, fun _ _ => h⟩
  | .range .., st, env, H, r, h => by cases h
end

theorem ayield_lim (as bd : ACode) (ps : List Nat) (env : Env) : YLim (fun k => ayield (aexec (acall A k) A.fn k as) (aexec (acall A k) A.fn k bd) ps env) (ayield (AX A as) (AX A bd) ps env) := by
  intro st args H r h
  simp only [ayield] at h ⊢
  split at h
  · rename_i hc
    simp only [if_pos hc]
    simp only [Option.bind_eq_some_iff] at h ⊢
    obtain ⟨⟨e, env1, H1⟩, h1, h2⟩ := h
    obtain ⟨k, hk⟩ := AX_iff.1 h1
    cases e with
    | normal =>
      simp only [Option.map_eq_some_iff] at h2
      obtain ⟨x, hx, h3⟩ := h2
      obtain ⟨j, hj⟩ := AX_iff.1 hx
      refine ⟨max k j, fun m hm => ⟨_, aexec_mono (acall_mono A (by omega)) (by omega) as hk, ?_⟩⟩
      simp only [Option.map_eq_some_iff]
      exact ⟨x, aexec_mono (acall_mono A (by omega)) (by omega) bd hj, h3⟩
    | _ => cases h2
  · cases h

/-- A range, by what the function's own code does. -/
theorem AX_range {f : AOpd} {ps : List Nat} {as bd : ACode} {env : Env} {H : AHeap} {g : FuncId} {first captured : List AVal} {fn : AFn} (hf : aev env f = .func g first captured) (hfn : A.fn g = some fn) (hres : fn.results = [])
    {ex : AExit} {st : APend} {env1 : Env} {H1 : AHeap} (hex : ∀ id, ex ≠ .exit id)
    (h : AXY A H.next (ayield (AX A as) (AX A bd) ps env) fn.body none (ainit (first ++ [.yield H.next] ++ captured)) H.skip = some (ex, st, env1, H1)) :
    AX A (.range f ps as bd) env H = some (st.getD .normal, env, H1) := by
  obtain ⟨k, hk⟩ := AXY_iff.1 h
  obtain ⟨j, hj⟩ := aexecY_lim (ayield_lim as bd ps env) _ hk
  have h1 := hj (max k j) (by omega)
  refine AX_iff.2 ⟨max k j, ?_⟩
  simp only [aexec, arange, hf, hfn, Option.bind_some, hres, List.isEmpty_nil, if_true, Option.bind_eq_some_iff]
  refine ⟨_, aexecY_mono (acall_mono A (Nat.le_max_left _ _)) (YLe.refl _) (Nat.le_max_left _ _) _ h1, ?_⟩
  cases ex with
  | exit id => exact absurd rfl (hex id)
  | normal => rfl
  | ret => rfl

theorem AC_ext {f : FuncId} {g : List AVal → AHeap → Option (AVal × AHeap)} (h : A.ext f = some g) (args : List AVal) (H : AHeap) : AC A f args H = g args H := by
  refine opt_ext fun r => ?_
  rw [AC_iff]
  constructor
  · rintro ⟨k, hk⟩
    cases k with
    | zero => simp [acall] at hk
    | succ k => rw [acall, h] at hk; exact hk
  · intro hr
    exact ⟨1, by rw [acall, h]; exact hr⟩

/-- What a function's body does. -/
noncomputable def AB (A : AProg) (x : AFn) (args : List AVal) (H : AHeap) : Option (AVal × AHeap) := (AX A x.body (ainit args) H).bind (aend x)

theorem AB_iff {x : AFn} {args : List AVal} {H : AHeap} {r : AVal × AHeap} : AB A x args H = some r ↔ ∃ k, arun (acall A k) A.fn k (some x) args H = some r := by
  simp only [AB, arun, Option.bind_some, Option.bind_eq_some_iff]
  constructor
  · rintro ⟨y, hy, hr⟩
    obtain ⟨k, hk⟩ := AX_iff.1 hy
    exact ⟨k, y, hk, hr⟩
  · rintro ⟨k, y, hy, hr⟩
    exact ⟨y, AX_iff.2 ⟨k, hy⟩, hr⟩

theorem AC_fn {f : FuncId} {fn : AFn} (he : A.ext f = none) (hm : A.mode f = 0) (h : A.fn f = some fn) (args : List AVal) (H : AHeap) : AC A f args H = AB A fn args H := by
  refine opt_ext fun r => ?_
  rw [AC_iff, AB_iff]
  constructor
  · rintro ⟨k, hk⟩
    cases k with
    | zero => simp [acall] at hk
    | succ k =>
      rw [acall, he, hm, h] at hk
      exact ⟨k, hk⟩
  · rintro ⟨k, hk⟩
    refine ⟨k + 1, ?_⟩
    rw [acall, he, hm, h]
    exact hk

theorem gcX_iff {n : Nat} {H : AHeap} {x : Option (AVal × AHeap)} {r : AVal × AHeap} : gcX n H x = some r ↔ ∃ u, x = some u ∧ gc n H u.1 u.2 = r := by
  cases x with
  | none => simp [gcX]
  | some u => obtain ⟨v, K⟩ := u; simp [gcX]

theorem AC_one {f : FuncId} {fn : AFn} (he : A.ext f = none) (hm : A.mode f = 1) (h : A.fn f = some fn) (args : List AVal) (hp : plains args = true) (H : AHeap) : AC A f args H = gcX 0 H (AB A fn args noH) := by
  refine opt_ext fun r => ?_
  rw [AC_iff, gcX_iff]
  constructor
  · rintro ⟨k, hk⟩
    cases k with
    | zero => simp [acall] at hk
    | succ k =>
      rw [acall, he, hm, h] at hk
      simp only [hp, if_true] at hk
      obtain ⟨u, h1, h2⟩ := gcX_iff.1 hk
      exact ⟨u, AB_iff.2 ⟨k, h1⟩, h2⟩
  · rintro ⟨u, h1, h2⟩
    obtain ⟨k, hk⟩ := AB_iff.1 h1
    refine ⟨k + 1, ?_⟩
    rw [acall, he, hm, h]
    simp only [hp, if_true]
    exact gcX_iff.2 ⟨u, hk, h2⟩

theorem AC_two {f : FuncId} {fn : AFn} (he : A.ext f = none) (hm : A.mode f = 2) (h : A.fn f = some fn) (args : List AVal) (H : AHeap) : AC A f args H = gcX H.next H (AB A fn args (frz H)) := by
  refine opt_ext fun r => ?_
  rw [AC_iff, gcX_iff]
  constructor
  · rintro ⟨k, hk⟩
    cases k with
    | zero => simp [acall] at hk
    | succ k =>
      rw [acall, he, hm, h] at hk
      simp only at hk
      obtain ⟨u, h1, h2⟩ := gcX_iff.1 hk
      exact ⟨u, AB_iff.2 ⟨k, h1⟩, h2⟩
  · rintro ⟨u, h1, h2⟩
    obtain ⟨k, hk⟩ := AB_iff.1 h1
    refine ⟨k + 1, ?_⟩
    rw [acall, he, hm, h]
    simp only
    exact gcX_iff.2 ⟨u, hk, h2⟩

end Go.Proofs.Ytilhjcnkaelheaa.Am
