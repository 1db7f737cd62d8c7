/- A call on plain values may be followed apart, in an empty memory: what it makes there is left behind. -/
import Derived.Test.YtilhjcnkaelheaaAmSym
set_option linter.unusedSimpArgs false
set_option linter.unusedVariables false
namespace Go.Proofs.Ytilhjcnkaelheaa.Am
open Go Go.RowKit

theorem noH_obj (i : Nat) : noH.obj i = none := hid rfl
theorem noH_next : noH.next = 0 := hid rfl

/-- Calls taken apart: by number, what they answer on which plain arguments. -/
def extOf (g : List AVal → Option AVal) : List AVal → AHeap → Option (AVal × AHeap) := fun args H => (g args).map fun v => (v, H)

theorem ext_sound {P : Program} {A0 : AProg} (hA0 : ∀ w0 B, Sound P w0 B A0) {f : FuncId} {g : List AVal → Option AVal}
    (hg : ∀ args v, g args = some v → plains args = true ∧ plain v = true ∧ ∃ H', AC A0 f args noH = some (v, H')) (w0 : World) (B : Nat → Bool) :
    CallSound P w0 B (fun f' args H => if f' = f then extOf g args H else none) := by
  intro f' args H v H1 h
  by_cases hf : f' = f
  · subst hf
    simp only [if_true, extOf, Option.map_eq_some_iff, Prod.mk.injEq] at h
    obtain ⟨v1, hv, rfl, rfl⟩ := h
    obtain ⟨hp, hpv, H', hac⟩ := hg _ _ hv
    obtain ⟨k, hk⟩ := AC_iff.1 hac
    have hent := (sound_call k w0 B hA0 _ _ _ _ _ hk).1
    refine ⟨hent, Up.refl _, ?_⟩
    intro m w args' _ hS hargs
    obtain ⟨_, _, hcall⟩ := sound_call k w (lowK w.heap.size) hA0 _ _ _ _ _ hk
    have hc := hcall _ _ args' (fun _ => rfl) (srel_none w) (forall2_imp_mem hargs fun x y hx hxy => VRel.plain x y (plains_mem hp hx) hxy)
    refine hc.mono fun e w' ⟨v', m', he, _, hS', hv'⟩ => ?_
    exact ⟨v', m, he, m.le_refl, hS.stays hS'.below.below, VRel.plain _ _ hpv hv'⟩
  · simp [hf] at h

/-- One closed call. -/
def one (args0 : List AVal) (v : AVal) (args : List AVal) : Option AVal := if beqs args args0 then some v else none

theorem one_ok {A0 : AProg} {f : FuncId} {args0 : List AVal} {v : AVal} (hp : plains args0 = true) (hv : plain v = true) {k : Nat} (h : (acall A0 k f args0 noH).map (·.1) = some v) :
    ∀ args u, one args0 v args = some u → plains args = true ∧ plain u = true ∧ ∃ H', AC A0 f args noH = some (u, H') := by
  intro args u hu
  unfold one at hu
  split at hu
  · rename_i hb
    have := eq_of_beqs _ _ hb
    subst this
    injection hu with hu
    subst hu
    simp only [Option.map_eq_some_iff] at h
    obtain ⟨⟨v1, H1⟩, h1, h2⟩ := h
    simp only at h2
    subst h2
    exact ⟨hp, hv, H1, AC_iff.2 ⟨k, h1⟩⟩
  · cases hu

/-! ### Arguments opened -/
section
variable {P : Program} {H : AHeap} {ts : List TypeId} {t : TypeId} {args : List AVal} {dats : List Dat}

theorem args_nil (h : AArgs P H [] args dats) : args = [] := by
  cases args <;> cases dats <;> simp [AArgs] at h ⊢

theorem args_cons (h : AArgs P H (t :: ts) args dats) : ∃ v r d ds, args = v :: r ∧ dats = d :: ds ∧ AArg P H t v d ∧ AArgs P H ts r ds := by
  cases args with
  | nil => cases dats <;> simp [AArgs] at h
  | cons v r =>
    cases dats with
    | nil => simp [AArgs] at h
    | cons d ds => exact ⟨v, r, d, ds, rfl, rfl, h.1, h.2⟩

theorem arg_int {k : IntKind} {v : AVal} {d : Dat} (hu : P.underlying t = some (.int k)) (h : AArg P H t v d) : ∃ n, v = .int k n ∧ d = .int n ∧ k.min ≤ n ∧ n ≤ k.max := by
  obtain ⟨fuel, cs, hr, hc⟩ := h
  rw [hu] at hc
  simp only at hc
  cases fuel with
  | zero => simp [AReads] at hr
  | succ f =>
    simp only [AReads, hu] at hr
    obtain ⟨n, h1, h2, h3⟩ := hr
    rw [hc] at h1
    simp at h1
    exact ⟨n, h1, h2, h3⟩

theorem args_ii {t u : TypeId} {j k : IntKind} (ht : P.underlying t = some (.int j)) (hu : P.underlying u = some (.int k)) (h : AArgs P H [t, u] args dats) : ∃ n m, args = [.int j n, .int k m] := by
  obtain ⟨v, r, d, ds, rfl, rfl, h1, h2⟩ := args_cons h
  obtain ⟨v2, r2, d2, ds2, rfl, rfl, h3, h4⟩ := args_cons h2
  have := args_nil h4
  subst this
  obtain ⟨n, rfl, _⟩ := arg_int ht h1
  obtain ⟨m, rfl, _⟩ := arg_int hu h3
  exact ⟨n, m, rfl⟩

theorem reads_int {k : IntKind} {f : Nat} {cs : List AVal} {d : Dat} (hu : P.underlying t = some (.int k)) (h : AReads P H f t cs d) : ∃ n, cs = [.int k n] ∧ k.min ≤ n ∧ n ≤ k.max := by
  cases f with
  | zero => simp [AReads] at h
  | succ f =>
    simp only [AReads, hu] at h
    obtain ⟨n, h1, _, h3⟩ := h
    exact ⟨n, h1, h3⟩

theorem arg_struct {fs : Array Field} {v : AVal} {d : Dat} (hu : P.underlying t = some (.struct fs)) (h : AArg P H t v d) : ∃ (f : Nat) (cs : List AVal) (ds : List Dat), v = .agg cs ∧ cs.length = P.cellsOf t ∧ ds.length = fs.size ∧
    ∀ (i : Nat) (fd : Field) (x : Dat), fs[i]? = some fd → ds[i]? = some x → AReads P H f fd.type ((cs.drop fd.offset).take (P.cellsOf fd.type)) x := by
  obtain ⟨fuel, cs, hr, hc⟩ := h
  rw [hu] at hc
  simp only at hc
  cases fuel with
  | zero => simp [AReads] at hr
  | succ f =>
    simp only [AReads, hu] at hr
    obtain ⟨ds, _, h1, h2, h3⟩ := hr
    exact ⟨f, cs, ds, hc, h1, h2, h3⟩

theorem arg_pair {f0 f1 : Field} {j k : IntKind} {v : AVal} {d : Dat} (hu : P.underlying t = some (.struct #[f0, f1])) (h0 : P.underlying f0.type = some (.int j)) (h1 : P.underlying f1.type = some (.int k))
    (o0 : f0.offset = 0) (o1 : f1.offset = 1) (c0 : P.cellsOf f0.type = 1) (c1 : P.cellsOf f1.type = 1) (ct : P.cellsOf t = 2) (h : AArg P H t v d) :
    ∃ n m, v = .agg [.int j n, .int k m] ∧ (j.min ≤ n ∧ n ≤ j.max) ∧ k.min ≤ m ∧ m ≤ k.max := by
  obtain ⟨f, cs, ds, rfl, hl, hd, hr⟩ := arg_struct hu h
  rw [ct] at hl
  simp at hd
  match cs, hl, ds, hd with
  | [x, y], _, [d0, d1], _ =>
    have r0 := hr 0 f0 d0 rfl rfl
    have r1 := hr 1 f1 d1 rfl rfl
    rw [o0, c0] at r0
    rw [o1, c1] at r1
    obtain ⟨n, e0, b0⟩ := reads_int h0 r0
    obtain ⟨m, e1, b1⟩ := reads_int h1 r1
    simp at e0 e1
    subst e0 e1
    exact ⟨n, m, rfl, b0, b1⟩

theorem arg_triple {f0 f1 f2 : Field} {j k l : IntKind} {v : AVal} {d : Dat} (hu : P.underlying t = some (.struct #[f0, f1, f2])) (h0 : P.underlying f0.type = some (.int j)) (h1 : P.underlying f1.type = some (.int k)) (h2 : P.underlying f2.type = some (.int l))
    (o0 : f0.offset = 0) (o1 : f1.offset = 1) (o2 : f2.offset = 2) (c0 : P.cellsOf f0.type = 1) (c1 : P.cellsOf f1.type = 1) (c2 : P.cellsOf f2.type = 1) (ct : P.cellsOf t = 3) (h : AArg P H t v d) :
    ∃ n m p, v = .agg [.int j n, .int k m, .int l p] ∧ (j.min ≤ n ∧ n ≤ j.max) ∧ (k.min ≤ m ∧ m ≤ k.max) ∧ l.min ≤ p ∧ p ≤ l.max := by
  obtain ⟨f, cs, ds, rfl, hl, hd, hr⟩ := arg_struct hu h
  rw [ct] at hl
  simp at hd
  match cs, hl, ds, hd with
  | [x, y, z], _, [d0, d1, d2], _ =>
    have r0 := hr 0 f0 d0 rfl rfl
    have r1 := hr 1 f1 d1 rfl rfl
    have r2 := hr 2 f2 d2 rfl rfl
    rw [o0, c0] at r0
    rw [o1, c1] at r1
    rw [o2, c2] at r2
    obtain ⟨n, e0, b0⟩ := reads_int h0 r0
    obtain ⟨m, e1, b1⟩ := reads_int h1 r1
    obtain ⟨p, e2, b2⟩ := reads_int h2 r2
    simp at e0 e1 e2
    subst e0 e1 e2
    exact ⟨n, m, p, rfl, b0, b1, b2⟩
end

end Go.Proofs.Ytilhjcnkaelheaa.Am
