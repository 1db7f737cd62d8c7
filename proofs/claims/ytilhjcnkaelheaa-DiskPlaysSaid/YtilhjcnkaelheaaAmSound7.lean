/- What the abstract machine's operations answer, the model's do: each operation but a call. -/
import Derived.Test.YtilhjcnkaelheaaAmSound6
import Derived.Test.YtilhjcnkaelheaaAmFlt
set_option linter.unusedSimpArgs false
set_option linter.unusedVariables false
namespace Go.Proofs.Ytilhjcnkaelheaa.Am
open Go Go.RowKit

variable {P : Program} {w0 w : World} {B : Nat → Bool} {m : Inj} {H H' : AHeap} {nt : Nat} {env : Env} {a : Act}

theorem DoneN.valueOf (hS : SRel w0 B m H w) {v : AVal} {v' : Value} (hv : VRel m v v') {s : Sem Value} (h : s.run P w = .ok v' w) : DoneN w0 B m H v ((do pure (.value (← s)) : Sem Next).run P w) :=
  DoneV.next (by rw [h]; exact .same hS hv)

theorem DoneN.ofEx (hS : SRel w0 B m H w) {v : AVal} {s : Sem Value} (h : ∃ v', s.run P w = .ok v' w ∧ VRel m v v') : DoneN w0 B m H v ((do pure (.value (← s)) : Sem Next).run P w) := by
  obtain ⟨v', h1, h2⟩ := h
  exact .valueOf hS h2 h1

theorem cparts_rel (hE : ERel m nt env a) {place : Nat → Option (Nat × Nat)} : ∀ {l : List (Nat × Operand)} {q : List (Nat × Nat × AOpd)}, cparts nt place l = some q →
    All2 (fun (p : Nat × Nat × AVal) (r : Nat × Value) => place r.1 = some (p.1, p.2.1) ∧ VRel m p.2.2 r.2) (q.map fun (o, n, x) => (o, n, aev env x)) (l.map fun (i, x) => (i, a.eval x))
  | [], q, h => by simp [cparts] at h; subst h; exact .nil
  | (i, x) :: l, q, h => by
    simp only [cparts, Option.bind_eq_some_iff, Option.map_eq_some_iff] at h
    obtain ⟨⟨o, n⟩, hp, y, hy, r, hr, rfl⟩ := h
    exact .cons ⟨hp, copd_rel hE hy⟩ (cparts_rel hE hr)

theorem cplaces_run : ∀ {fs : List Field} {ps : List (Nat × Nat)}, cplaces P fs = some ps → ∀ w, (fs.mapM (fun f => do pure (f.offset, ← sizeOf f.type) : Field → Sem (Nat × Nat))).run P w = .ok ps w
  | [], ps, h, w => by simp [cplaces] at h; subst h; rfl
  | f :: fs, ps, h, w => by
    simp only [cplaces, Option.bind_eq_some_iff, Option.map_eq_some_iff] at h
    obtain ⟨n, hn, r, hr, rfl⟩ := h
    simp only [List.mapM_cons, Sem.run_bind, run_sizeOf' hn, Result.andThen_ok, Sem.run_pure, cplaces_run hr w]

theorem run_mapM_toList (f : Field → Sem (Nat × Nat)) (fs : Array Field) {ps : List (Nat × Nat)} {w : World} (h : (fs.toList.mapM f).run P w = .ok ps w) : (fs.mapM f).run P w = .ok ps.toArray w := by
  rw [Array.mapM_eq_mapM_toList]
  simp only [map_eq_pure_bind, Sem.run_bind, h, Result.andThen_ok, Sem.run_pure]

theorem s_build (hS : SRel w0 B m H w) {t : TypeId} {z : List AVal} (hz : tzero P t = some z) {place : Nat → Option (Nat × Nat)} {parts : List (Nat × Nat × AVal)} {parts' : Array (Nat × Value)} {r : List AVal}
    (hp : All2 (fun (p : Nat × Nat × AVal) (q : Nat × Value) => place q.1 = some (p.1, p.2.1) ∧ VRel m p.2.2 q.2) parts parts'.toList) (h : afill z parts = some r)
    (hpl : (∃ fs ps, P.underlying t = some (.struct fs) ∧ cplaces P fs.toList = some ps ∧ place = fun (i : Nat) => ps[i]?) ∨ (∃ n e es, P.underlying t = some (.array n e) ∧ tsize P e = some es ∧ place = fun (i : Nat) => some (i * es, es))) :
    ∃ v', (Instr.build t parts').run P w = .ok v' w ∧ VRel m (.agg r) v' := by
  obtain ⟨zv, hzr, hzc⟩ := run_zero hz w
  obtain ⟨hza, hz1⟩ := cvals_rel (m := m) hzc
  obtain ⟨r', hr, har, hr1⟩ := s_fill parts parts'.toList z zv.cells.toList r hza hz1 hp h
  refine ⟨.agg r'.toArray, ?_, .agg _ _ har hr1⟩
  rw [Array.toArray_toList] at hr
  rcases hpl with ⟨fs, ps, ht, hps, rfl⟩ | ⟨n, e, es, ht, hes, rfl⟩
  · simp only [Instr.build, Sem.run_bind, hzr, run_underlying ht, Result.andThen_ok, run_mapM_toList _ _ (cplaces_run hps w)]
    have : (fun (i : Nat) => (ps.toArray)[i]?) = fun (i : Nat) => ps[i]? := by funext i; simp
    simp only [this, hr]
    rfl
  · simp only [Instr.build, Sem.run_bind, hzr, run_underlying ht, Result.andThen_ok, run_sizeOf' hes, hr]
    rfl

theorem s_buildS (hS : SRel w0 B m H w) {t e : TypeId} {len es : Nat} {z : List AVal} (ht : P.underlying t = some (.slice e)) (hes : tsize P e = some es) (hz : tzero P e = some z) (hzl : z.length = es) (hpos : 0 < es) (hlim : len * es ≤ 16777216)
    {parts : List (Nat × Nat × AVal)} {parts' : Array (Nat × Value)} {r : List AVal}
    (hp : All2 (fun (p : Nat × Nat × AVal) (q : Nat × Value) => some (q.1 * es, es) = some (p.1, p.2.1) ∧ VRel m p.2.2 q.2) parts parts'.toList) (h : afill (arep z len) parts = some r) :
    DoneV w0 B m (H.new (.cells r true)) (.slice H.next 0 len len none) ((Instr.buildSlice t len parts').run P w) := by
  obtain ⟨zv, hzr, hzc⟩ := run_zero hz w
  obtain ⟨hza, hz1⟩ := cvals_rel (m := m) hzc
  have hzvl : zv.cells.toList.length = es := by rw [← forall2_length hza]; exact hzl
  have hn : len * es = len * zv.cells.toList.length := by rw [hzvl]
  have hA := all2_zeros hza len hn
  have h1c := zeros_cells hz1 hn
  obtain ⟨r', hr, har, hr1⟩ := s_fill (place := fun (i : Nat) => some (i * es, es)) parts parts'.toList _ _ r hA h1c hp h
  obtain ⟨m', hm, hloc, hn', hS'⟩ := s_new hS e har hr1
  refine ⟨.slice (some ⟨w.heap.size, 0, none⟩) len len, _, m', ?_, hm, hS', ?_⟩
  · have hlim' : ¬ (len * es > 2 ^ 24) := by rw [show (2:Nat)^24 = 16777216 by decide]; omega
    simp only [Array.toArray_toList] at hr
    simp only [Instr.buildSlice, Sem.run_bind, run_underlying ht, Result.andThen_ok, run_sizeOf' hes, hlim', if_false, Sem.run_pure]
    by_cases h0 : len * es = 0
    · have hl0 : len = 0 := by
        rcases Nat.mul_eq_zero.1 h0 with h | h
        · exact h
        · omega
      subst hl0
      simp only [h0, if_true, Sem.run_bind, Sem.run_pure, Result.andThen_ok, Array.range_zero', Array.map_empty] at hr ⊢
      simp only [hr, Sem.run_bind, run_newRow, Result.andThen_ok]
      simp
    · simp only [h0, if_false, Sem.run_bind, Sem.run_pure, Result.andThen_ok, hzr, hr, run_newRow]
  · rw [hS.next]
    have := VRel.slice (m := m') m.n 0 len len none ⟨w.heap.size, 0, none⟩ len hn' (Nat.le_refl _) (Nat.le_refl _) (fun _ => rfl) (by simp) (.inl (by rw [hloc]))
    exact this

/-- Each operation but a call. -/
theorem sound_aop {o : Oper} {ao : AOp} (hc : cop P nt o.op = some ao) (hcall : ∀ f l, ao ≠ .call f l) (hE : ERel m nt env a) (hS : SRel w0 B m H w) {v : AVal} (h : aop ao (aev env) H = some (v, H')) :
    DoneN w0 B m H' v ((execOp a.eval o).run P w) := by
  obtain ⟨dst, op, type, pos, after, guard⟩ := o
  simp only at hc
  cases op with
  | move x =>
    simp only [cop, Option.map_eq_some_iff] at hc
    obtain ⟨x', hx, rfl⟩ := hc
    simp only [aop, Option.some.injEq, Prod.mk.injEq] at h
    obtain ⟨rfl, rfl⟩ := h
    exact DoneV.value (.same hS (copd_rel hE hx))
  | assign x =>
    simp only [cop, Option.map_eq_some_iff] at hc
    obtain ⟨x', hx, rfl⟩ := hc
    simp only [aop, Option.some.injEq, Prod.mk.injEq] at h
    obtain ⟨rfl, rfl⟩ := h
    exact DoneV.value (.same hS (copd_rel hE hx))
  | pick c x y =>
    simp only [cop, Option.bind_eq_some_iff, Option.map_eq_some_iff] at hc
    obtain ⟨c', hc', x', hx, y', hy, rfl⟩ := hc
    have hcr := copd_rel hE hc'
    simp only [aop] at h
    split at h
    · rename_i t ht
      rw [ht] at hcr
      simp only [Option.some.injEq, Prod.mk.injEq] at h
      obtain ⟨rfl, rfl⟩ := h
      generalize hcv : a.eval c = cv at hcr
      cases hcr
      simp only [execOp, hcv, asBool, Sem.run_bind, Sem.run_pure, Result.andThen_ok]
      refine DoneV.value (.same hS ?_)
      cases t
      · exact copd_rel hE hy
      · exact copd_rel hE hx
    · simp at h
  | alloc t =>
    simp only [cop, Option.map_eq_some_iff] at hc
    obtain ⟨z, hz, rfl⟩ := hc
    simp only [aop, Option.some.injEq, Prod.mk.injEq] at h
    obtain ⟨rfl, rfl⟩ := h
    exact DoneV.next (s_alloc hS hz)
  | box t x =>
    simp only [cop, Option.map_eq_some_iff] at hc
    obtain ⟨x', hx, rfl⟩ := hc
    simp only [aop] at h
    split at h
    · simp at h
    · rename_i ht
      simp only [Option.some.injEq, Prod.mk.injEq] at h
      obtain ⟨rfl, rfl⟩ := h
      exact DoneV.next (s_box hS (copd_rel hE hx) (by simpa using ht))
  | build t parts =>
    simp only [cop, Option.bind_eq_some_iff] at hc
    obtain ⟨z, hz, u, hu, hc⟩ := hc
    cases u with
    | struct fs =>
      simp only [Option.bind_eq_some_iff, Option.map_eq_some_iff] at hc
      obtain ⟨ps, hps, q, hq, rfl⟩ := hc
      simp only [aop, Option.map_eq_some_iff, Prod.mk.injEq] at h
      obtain ⟨v1, ⟨r, hr, rfl⟩, rfl, rfl⟩ := h
      refine .ofEx hS (s_build hS hz (place := fun (i : Nat) => ps[i]?) (parts := q.map fun (o, n, x) => (o, n, aev env x)) ?_ hr (.inl ⟨fs, ps, hu, hps, rfl⟩))
      simpa using cparts_rel hE hq
    | array n e =>
      simp only [Option.bind_eq_some_iff, Option.map_eq_some_iff] at hc
      obtain ⟨es, hes, q, hq, rfl⟩ := hc
      simp only [aop, Option.map_eq_some_iff, Prod.mk.injEq] at h
      obtain ⟨v1, ⟨r, hr, rfl⟩, rfl, rfl⟩ := h
      refine .ofEx hS (s_build hS hz (place := fun (i : Nat) => some (i * es, es)) (parts := q.map fun (o, n, x) => (o, n, aev env x)) ?_ hr (.inr ⟨n, e, es, hu, hes, rfl⟩))
      simpa using cparts_rel hE hq
    | _ => simp at hc
  | buildSlice t len parts =>
    simp only [cop, Option.bind_eq_some_iff] at hc
    obtain ⟨u, hu, hc⟩ := hc
    cases u with
    | slice e =>
      simp only [Option.bind_eq_some_iff] at hc
      obtain ⟨es, hes, z, hz, hc⟩ := hc
      split at hc
      · rename_i hcond
        simp only [Option.map_eq_some_iff] at hc
        obtain ⟨q, hq, rfl⟩ := hc
        simp only [aop, Option.map_eq_some_iff, Prod.mk.injEq] at h
        obtain ⟨r, hr, rfl, rfl⟩ := h
        refine DoneV.next (s_buildS hS hu hes hz hcond.1 hcond.2.1 hcond.2.2 (parts := q.map fun (o, n, x) => (o, n, aev env x)) ?_ hr)
        simpa using cparts_rel hE hq
      · simp at hc
    | _ => simp at hc
  | load t x =>
    simp only [cop, Option.bind_eq_some_iff, Option.map_eq_some_iff] at hc
    obtain ⟨g, hg, n, hn, x', hx, rfl⟩ := hc
    simp only [aop, Option.map_eq_some_iff, Prod.mk.injEq] at h
    obtain ⟨v1, hv, rfl, rfl⟩ := h
    exact DoneV.next (s_load hS hg hn (copd_rel hE hx) hv)
  | store t x y =>
    simp only [cop, Option.bind_eq_some_iff, Option.map_eq_some_iff] at hc
    obtain ⟨n, hn, x', hx, y', hy, rfl⟩ := hc
    simp only [aop, Option.map_eq_some_iff, Prod.mk.injEq] at h
    obtain ⟨H1, hH, rfl, rfl⟩ := h
    obtain ⟨w', hr, hS'⟩ := s_store (P := P) hS hn (copd_rel hE hx) (copd_rel hE hy) hH
    refine ⟨undef, w', m, .inr ⟨?_, rfl⟩, m.les_refl, hS', .tuple [] [] .nil⟩
    simp only [execOp, Sem.run_bind, hr, Result.andThen_ok, Sem.run_pure]
  | nilCheck x =>
    simp only [cop, Option.map_eq_some_iff] at hc
    obtain ⟨x', hx, rfl⟩ := hc
    have hxr := copd_rel hE hx
    simp only [aop] at h
    split at h
    all_goals first | (simp at h; done) | skip
    all_goals
      rename_i he
      rw [he] at hxr
      simp only [Option.some.injEq, Prod.mk.injEq] at h
      obtain ⟨rfl, rfl⟩ := h
      generalize hcv : a.eval x = cv at hxr
      have hxr' := hxr
      cases hxr
      simp only [execOp, hcv]
      exact DoneV.value (.same hS hxr')
  | binOp op t x y yt =>
    simp only [cop, cbin, Option.bind_eq_some_iff] at hc
    obtain ⟨x', hx, y', hy, u, hu, hc⟩ := hc
    have key : (ao = .bin op x' y') ∨ ((∀ k, u ≠ .int k) ∧ u ≠ .string ∧ ∃ neg q, ceqt P 12 t = some q ∧ ao = .eq neg q x' y' ∧ op = if neg then .neq else .eql) := by
      cases u
      case int => simp at hc; exact .inl hc.symm
      case string => simp at hc; exact .inl hc.symm
      case float => simp at hc; exact .inl hc.symm
      all_goals
        refine .inr ⟨by simp, by simp, ?_⟩
        cases op <;> simp at hc
        · obtain ⟨q, hq, rfl⟩ := hc
          exact ⟨false, q, hq, rfl, rfl⟩
        · obtain ⟨q, hq, rfl⟩ := hc
          exact ⟨true, q, hq, rfl, rfl⟩
    rcases key with rfl | ⟨h1, h2, neg, q, hq, rfl, hop⟩
    · simp only [aop, Option.map_eq_some_iff, Prod.mk.injEq] at h
      obtain ⟨v1, hv, rfl, rfl⟩ := h
      by_cases hf : ∃ f g, aev env x' = .flt .f64 f ∧ aev env y' = .flt .f64 g
      · obtain ⟨f, g, e1, e2⟩ := hf
        rw [e1, e2] at hv
        exact DoneV.next (s_flt hS (e1 ▸ copd_rel hE hx) (e2 ▸ copd_rel hE hy) hv)
      · exact .ofEx hS (s_bin w (copd_rel hE hx) (copd_rel hE hy) (fun f g e1 e2 => hf ⟨f, g, e1, e2⟩) hv)
    · simp only [aop, Option.map_eq_some_iff, Prod.mk.injEq] at h
      obtain ⟨v1, ⟨b, hb, rfl⟩, rfl, rfl⟩ := h
      refine .valueOf hS (.bool _) (s_eq hq (copd_rel hE hx) (copd_rel hE hy) hb ?_ w hop)
      intro u' hu'
      rw [hu] at hu'; simp at hu'; subst hu'
      exact ⟨h1, h2⟩
  | unOp op t x =>
    simp only [cop, Option.map_eq_some_iff] at hc
    obtain ⟨x', hx, rfl⟩ := hc
    simp only [aop, Option.map_eq_some_iff, Prod.mk.injEq] at h
    obtain ⟨v1, hv, rfl, rfl⟩ := h
    exact .ofEx hS (s_un w (fun _ _ w hh => s_neg w hh) (copd_rel hE hx) hv)
  | convert s d x =>
    simp only [cop, cconv, Option.bind_eq_some_iff] at hc
    obtain ⟨x', hx, us, hus, ud, hud, hc⟩ := hc
    have hxr := copd_rel hE hx
    split at hc
    · -- int to int
      simp at hc; subst hc
      simp only [aop] at h
      split at h
      · rename_i k n he
        rw [he] at hxr
        simp only [Option.some.injEq, Prod.mk.injEq] at h
        obtain ⟨rfl, rfl⟩ := h
        generalize hcv : a.eval x = cv at hxr
        cases hxr
        refine .valueOf hS (.int _ _) ?_
        simp only [hcv, convert, Sem.run_bind, run_underlying hus, run_underlying hud, Result.andThen_ok, Conv.intToInt, Sem.run_pure]
      · simp at h
    · -- int to float
      simp at hc; subst hc
      simp only [aop] at h
      split at h
      · rename_i k n he
        rw [he] at hxr
        simp only [Option.some.injEq, Prod.mk.injEq] at h
        obtain ⟨rfl, rfl⟩ := h
        generalize hcv : a.eval x = cv at hxr
        cases hxr
        refine .valueOf hS (.flt _ _) ?_
        simp only [hcv, convert, Sem.run_bind, run_underlying hus, run_underlying hud, Result.andThen_ok, Conv.intToFloat, Sem.run_pure]
      · simp at h
    · -- float to int
      simp at hc; subst hc
      simp only [aop] at h
      split at h
      · rename_i b he
        rw [he] at hxr
        simp only [Option.map_eq_some_iff, Prod.mk.injEq] at h
        obtain ⟨v1, ⟨n, hn, rfl⟩, rfl, rfl⟩ := h
        refine .valueOf hS (.int _ _) ?_
        exact s_fToI w hxr hn hus hud
      · simp at h
    · simp at hc; subst hc
      simp only [aop] at h
      split at h
      · rename_i k he
        rw [he] at hxr
        simp only [Option.some.injEq, Prod.mk.injEq] at h
        obtain ⟨rfl, rfl⟩ := h
        generalize hcv : a.eval x = cv at hxr
        have hxr' := hxr
        cases hxr
        refine .valueOf hS hxr' ?_
        simp only [hcv, convert, Sem.run_bind, run_underlying hus, run_underlying hud, Result.andThen_ok, Sem.run_pure]
      · simp at h
    · simp only [Option.bind_eq_some_iff] at hc
      obtain ⟨u, hu, hc⟩ := hc
      split at hc
      · simp at hc; subst hc
        simp only [aop] at h
        split at h
        · rename_i k he
          rw [he] at hxr
          simp only [Option.some.injEq, Prod.mk.injEq] at h
          obtain ⟨rfl, rfl⟩ := h
          generalize hcv : a.eval x = cv at hxr
          cases hxr
          simp only [execOp, hcv]
          exact DoneV.next (s_sToB hS hus hud hu k)
        · simp at h
      · simp at hc
    · simp only [Option.bind_eq_some_iff] at hc
      obtain ⟨u, hu, hc⟩ := hc
      split at hc
      · simp at hc; subst hc
        simp only [aop] at h
        split at h
        · simp at h
        · rename_i hne
          simp only [Option.bind_eq_some_iff, Option.map_eq_some_iff, Prod.mk.injEq] at h
          obtain ⟨n, hn, cs, hcs, v1, ⟨l, hl, rfl⟩, rfl, rfl⟩ := h
          refine .valueOf hS (.str _) (s_bToS hS hus hud hu hxr (fun l hl => hne l hl) hn hcs hl)
      · simp at hc
    · simp at hc
  | makeFunc fn first captured =>
    simp only [cop] at hc
    split at hc
    · simp only [Option.bind_eq_some_iff, Option.map_eq_some_iff] at hc
      obtain ⟨p, hp, q, hq, rfl⟩ := hc
      simp only [aop, Option.some.injEq, Prod.mk.injEq] at h
      obtain ⟨rfl, rfl⟩ := h
      refine .valueOf hS (.func _ _ _ _ _ (copds_rel hE hp) (copds_rel hE hq)) ?_
      simp only [Instr.makeFunc, Sem.run_pure]
      congr 2
      · apply Array.ext'; simp
      · apply Array.ext'; simp
    · simp at hc
  | makeSlice t l c =>
    simp only [cop, Option.bind_eq_some_iff] at hc
    obtain ⟨u, hu, hc⟩ := hc
    cases u with
    | slice e =>
      simp only [Option.bind_eq_some_iff] at hc
      obtain ⟨es, hes, bs, hbs, z, hz, hc⟩ := hc
      split at hc
      · rename_i hzl
        simp only [Option.bind_eq_some_iff, Option.map_eq_some_iff] at hc
        obtain ⟨l', hl, c', hc', rfl⟩ := hc
        simp only [aop] at h
        exact DoneV.next (s_mkS hS hu hes hbs hz hzl (copd_rel hE hl) (copd_rel hE hc') h)
      · simp at hc
    | _ => simp at hc
  | slice t x lo hi mx =>
    simp only [cop, cslice, Option.bind_eq_some_iff] at hc
    obtain ⟨x', hx, lo', hlo, hi', hhi, mx', hmx, u, hu, hc⟩ := hc
    have hxr := copd_rel hE hx
    have hlor := copdo_rel hE hlo
    have hhir := copdo_rel hE hhi
    have hmxr := copdo_rel hE hmx
    cases u with
    | array n e =>
      simp only [Option.map_eq_some_iff] at hc
      obtain ⟨es, hes, rfl⟩ := hc
      simp only [aop, Option.map_eq_some_iff, Prod.mk.injEq] at h
      obtain ⟨v1, hv, rfl, rfl⟩ := h
      obtain ⟨ad, l, h0, mm, he, hb, hvr⟩ := s_slcArr (P := P) hxr hlor hhir hmxr hv w
      refine .valueOf hS hvr ?_
      simp only [Instr.sliceAt, Sem.run_bind, run_underlying hu, Result.andThen_ok, he, Instr.sureAddr, Sem.run_pure, hb, run_sizeOf' hes]
    | string =>
      simp only at hc
      split at hc
      · simp at hc
      · rename_i hmn
        simp at hc; subst hc
        simp only [aop] at h
        split at h
        · rename_i s he
          rw [he] at hxr
          simp only [Option.map_eq_some_iff, Prod.mk.injEq] at h
          obtain ⟨v1, ⟨⟨l, h0, mm⟩, hb, rfl⟩, rfl, rfl⟩ := h
          generalize hcv : a.eval x = cv at hxr
          cases hxr
          have hmn' : mx = none := by simpa using hmn
          subst hmn'
          simp only [execOp, hcv]
          exact .ofEx hS (s_slcStr hu hlor hhir hb w)
        · simp at h
    | slice e =>
      simp only [Option.map_eq_some_iff] at hc
      obtain ⟨es, hes, rfl⟩ := hc
      simp only [aop, Option.map_eq_some_iff, Prod.mk.injEq] at h
      obtain ⟨v1, hv, rfl, rfl⟩ := h
      exact .ofEx hS (s_slc hu hes hxr hlor hhir hmxr hv w)
    | pointer arr =>
      simp only [Option.bind_eq_some_iff] at hc
      obtain ⟨u, hu', hc⟩ := hc
      cases u with
      | array n e =>
        simp only [Option.map_eq_some_iff] at hc
        obtain ⟨es, hes, rfl⟩ := hc
        simp only [aop, Option.map_eq_some_iff, Prod.mk.injEq] at h
        obtain ⟨v1, hv, rfl, rfl⟩ := h
        obtain ⟨ad, l, h0, mm, he, hb, hvr⟩ := s_slcArr (P := P) hxr hlor hhir hmxr hv w
        refine .valueOf hS hvr ?_
        simp only [Instr.sliceAt, Instr.slice, Sem.run_bind, run_underlying hu, run_underlying hu', Result.andThen_ok, he, asAddr, Sem.run_pure, hb, run_sizeOf' hes]
      | _ => simp at hc
    | _ => simp at hc
  | fieldAddr t x f =>
    simp only [cop, Option.bind_eq_some_iff] at hc
    obtain ⟨u, hu, hc⟩ := hc
    cases u with
    | struct fs =>
      simp only [Option.bind_eq_some_iff] at hc
      obtain ⟨fd, hfd, n, hn, hc⟩ := hc
      split at hc
      · simp at hc
      · rename_i hn0
        simp only [Option.map_eq_some_iff] at hc
        obtain ⟨x', hx, rfl⟩ := hc
        have hxr := copd_rel hE hx
        simp only [aop] at h
        split at h
        · rename_i id o he
          rw [he] at hxr
          simp only [Option.some.injEq, Prod.mk.injEq] at h
          obtain ⟨rfl, rfl⟩ := h
          generalize hcv : a.eval x = cv at hxr
          cases hxr with
          | ptr _ _ hid =>
            have hv : VRel m (.ptr id (o + fd.offset)) (.pointer (some ⟨(m.loc id).block, (m.loc id).off + o + fd.offset, none⟩)) := by
              rw [Nat.add_assoc]; exact .ptr _ _ hid
            refine .valueOf hS hv ?_
            simp only [hcv, Instr.fieldAt, Sem.run_bind, run_underlying hu, Result.andThen_ok, hfd, Instr.sureAddr, Sem.run_pure, fieldPlace, run_sizeOf' hn, hn0, if_false, addr_add]
        · simp at h
    | _ => simp at hc
  | field t x f =>
    simp only [cop, Option.bind_eq_some_iff] at hc
    obtain ⟨u, hu, hc⟩ := hc
    cases u with
    | struct fs =>
      simp only [Option.bind_eq_some_iff, Option.map_eq_some_iff] at hc
      obtain ⟨fd, hfd, n, hn, g, hg, x', hx, rfl⟩ := hc
      have hxr := copd_rel hE hx
      simp only [aop] at h
      split at h
      · rename_i l he
        rw [he] at hxr
        simp only [Option.map_eq_some_iff, Prod.mk.injEq] at h
        obtain ⟨v1, hv, rfl, rfl⟩ := h
        generalize hcv : a.eval x = cv at hxr
        cases hxr with
        | agg _ l' ha h1 =>
          obtain ⟨v', hv', hr⟩ := s_part (P := P) hg hn ha h1 hv w
          refine .valueOf hS hr ?_
          simp only [hcv, Instr.field, Sem.run_bind, run_underlying hu, Result.andThen_ok, hfd, asAgg, Sem.run_pure, hv']
      · simp at h
    | _ => simp at hc
  | indexAddr t x i =>
    simp only [cop, Option.bind_eq_some_iff] at hc
    obtain ⟨u, hu, x', hx, i', hi, hc⟩ := hc
    have hxr := copd_rel hE hx
    have hir := copd_rel hE hi
    cases u with
    | array n e =>
      simp only [Option.map_eq_some_iff] at hc
      obtain ⟨es, hes, rfl⟩ := hc
      simp only [aop] at h
      split at h
      · rename_i id o he
        rw [he] at hxr
        simp only [Option.map_eq_some_iff, Prod.mk.injEq] at h
        obtain ⟨v1, ⟨j, hj, rfl⟩, rfl, rfl⟩ := h
        generalize hcv : a.eval x = cv at hxr
        cases hxr with
        | ptr _ _ hid =>
          simp only [execOp, hcv]
          exact .ofEx hS (s_idxAArr hu hes hid hir hj w)
      · simp at h
    | slice e =>
      simp only [Option.map_eq_some_iff] at hc
      obtain ⟨es, hes, rfl⟩ := hc
      simp only [aop] at h
      split at h
      · rename_i id o len cap g he
        rw [he] at hxr
        simp only [Option.map_eq_some_iff, Prod.mk.injEq] at h
        obtain ⟨v1, ⟨j, hj, rfl⟩, rfl, rfl⟩ := h
        exact .ofEx hS (s_idxASl hu hes hxr hir hj w)
      · simp at h
    | _ => simp at hc
  | index t x i =>
    simp only [cop, Option.bind_eq_some_iff] at hc
    obtain ⟨u, hu, x', hx, i', hi, hc⟩ := hc
    have hxr := copd_rel hE hx
    have hir := copd_rel hE hi
    cases u with
    | array n e =>
      simp only [Option.bind_eq_some_iff, Option.map_eq_some_iff] at hc
      obtain ⟨es, hes, g, hg, rfl⟩ := hc
      simp only [aop] at h
      split at h
      · rename_i l he
        rw [he] at hxr
        simp only [Option.map_eq_some_iff, Option.bind_eq_some_iff, Prod.mk.injEq] at h
        obtain ⟨v1, ⟨j, hj, hp⟩, rfl, rfl⟩ := h
        exact .ofEx hS (s_idxArr hu hes hg hxr hir hj hp w)
      · simp at h
    | string =>
      simp at hc; subst hc
      simp only [aop] at h
      split at h
      · rename_i s he
        rw [he] at hxr
        simp only [Option.map_eq_some_iff, Option.bind_eq_some_iff, Prod.mk.injEq] at h
        obtain ⟨v1, ⟨j, hj, b, hb, rfl⟩, rfl, rfl⟩ := h
        generalize hcv : a.eval x = cv at hxr
        cases hxr
        simp only [execOp, hcv]
        exact .valueOf hS (.int _ _) (s_idxStr hu hir hj hb w)
      · simp at h
    | _ => simp at hc
  | extract x i =>
    simp only [cop, Option.map_eq_some_iff] at hc
    obtain ⟨x', hx, rfl⟩ := hc
    have hxr := copd_rel hE hx
    simp only [aop] at h
    split at h
    · rename_i l he
      rw [he] at hxr
      simp only [Option.map_eq_some_iff, Prod.mk.injEq] at h
      obtain ⟨v1, hv, rfl, rfl⟩ := h
      generalize hcv : a.eval x = cv at hxr
      cases hxr with
      | tuple _ l' ha =>
        obtain ⟨v', hv', hr⟩ := forall2_get ha i v1 hv
        refine .valueOf hS hr ?_
        simp only [hcv, Instr.extract, List.getElem?_toArray, hv', Sem.run_pure]
    · simp at h
  | makeInterface t x =>
    simp only [cop, Option.bind_eq_some_iff] at hc
    obtain ⟨u, hu, hc⟩ := hc
    split at hc
    · simp at hc
    · rename_i hni
      simp only [Option.map_eq_some_iff] at hc
      obtain ⟨x', hx, rfl⟩ := hc
      simp only [aop, Option.some.injEq, Prod.mk.injEq] at h
      obtain ⟨rfl, rfl⟩ := h
      refine .valueOf hS (.iface _ _ _ (copd_rel hE hx)) ?_
      simp only [Instr.makeInterface, Sem.run_bind, run_underlying hu, Result.andThen_ok]
      cases u <;> first | rfl | exact absurd rfl (hni _)
  | call c =>
    obtain ⟨callee, args, argTypes⟩ := c
    cases callee with
    | value f => simp [cop] at hc
    | invoke _ _ => simp [cop] at hc
    | builtin b =>
      simp only [cop, Option.bind_eq_some_iff] at hc
      obtain ⟨as, has, hc⟩ := hc
      have har := copds_rel hE has
      have hargs : args.map a.eval = (args.toList.map a.eval).toArray := by apply Array.ext'; simp
      have hats : argTypes = argTypes.toList.toArray := by simp
      have hex : ∃ cs, ∀ w, (execOp a.eval ⟨dst, .call ⟨.builtin b, args, argTypes⟩, type, pos, after, guard⟩).run P w = (builtin b argTypes.toList.toArray type cs (args.toList.map a.eval).toArray).run P w := by
        refine ⟨args.map fun | .const _ => true | _ => false, fun w => ?_⟩
        simp only [execOp, resolve, Sem.run_bind, Sem.run_pure, Result.andThen_ok, invoke, hargs, ← hats]
        rfl
      obtain ⟨cs, hex⟩ := hex
      rw [hex]
      generalize hal : args.toList.map a.eval = al at har
      generalize argTypes.toList = ats at hc
      simp only [cbuiltin] at hc
      split at hc
      · -- len
        rename_i t x
        cases har with
        | cons hxr hnil =>
          cases hnil
          rename_i xv
          simp only [Option.bind_eq_some_iff] at hc
          obtain ⟨u, hu, hc⟩ := hc
          cases u with
          | string =>
            simp at hc; subst hc
            simp only [aop, Option.map_eq_some_iff, Prod.mk.injEq] at h
            obtain ⟨v1, ⟨n, hn, rfl⟩, rfl, rfl⟩ := h
            refine .valueOf hS (.int _ _) ?_
            generalize aev env x = xa at hxr hn
            cases hxr <;> simp [alenT] at hn
            subst hn
            simp only [Builtin.len_, List.getElem?_toArray, List.getElem?_cons_zero, Sem.run_bind, run_underlying hu, Result.andThen_ok, Sem.run_pure, goInt]
            rfl
          | slice e =>
            simp at hc; subst hc
            simp only [aop, Option.map_eq_some_iff, Prod.mk.injEq] at h
            obtain ⟨v1, ⟨n, hn, rfl⟩, rfl, rfl⟩ := h
            refine .valueOf hS (.int _ _) ?_
            generalize aev env x = xa at hxr hn
            cases hxr <;> simp [alenT] at hn <;> subst hn <;>
            simp only [Builtin.len_, List.getElem?_toArray, List.getElem?_cons_zero, Sem.run_bind, run_underlying hu, Result.andThen_ok, Sem.run_pure, goInt] <;> rfl
          | array n e =>
            simp at hc; subst hc
            simp only [aop, Option.some.injEq, Prod.mk.injEq] at h
            obtain ⟨rfl, rfl⟩ := h
            refine .valueOf hS (.int _ _) ?_
            simp only [Builtin.len_, List.getElem?_toArray, List.getElem?_cons_zero, Sem.run_bind, run_underlying hu, Result.andThen_ok, Sem.run_pure, goInt]
          | pointer arr =>
            simp only [Option.bind_eq_some_iff] at hc
            obtain ⟨u', hu', hc⟩ := hc
            cases u' with
            | array n e =>
              simp at hc; subst hc
              simp only [aop, Option.some.injEq, Prod.mk.injEq] at h
              obtain ⟨rfl, rfl⟩ := h
              refine .valueOf hS (.int _ _) ?_
              simp only [Builtin.len_, List.getElem?_toArray, List.getElem?_cons_zero, Sem.run_bind, run_underlying hu, run_underlying hu', Result.andThen_ok, Sem.run_pure, goInt]
            | _ => simp at hc
          | _ => simp at hc
      · -- append
        rename_i t t' s x
        cases har with
        | cons hsr har =>
          cases har with
          | cons hxr hnil =>
            cases hnil
            simp only [Option.bind_eq_some_iff] at hc
            obtain ⟨u, hu, u', hu', hc⟩ := hc
            split at hc
            · simp only [Option.bind_eq_some_iff] at hc
              obtain ⟨es, hes, bs, hbs, z, hz, hc⟩ := hc
              split at hc
              · rename_i hzl
                simp at hc; subst hc
                simp only [aop] at h
                exact DoneV.next (s_append hS hu hu' (.inl rfl) hes hbs hz hzl hsr hxr h)
              · simp at hc
            · simp only [Option.bind_eq_some_iff] at hc
              obtain ⟨es, hes, bs, hbs, z, hz, hc⟩ := hc
              split at hc
              · rename_i hzl
                simp at hc; subst hc
                simp only [aop] at h
                exact DoneV.next (s_append hS hu hu' (.inr ⟨_, rfl⟩) hes hbs hz hzl hsr hxr h)
              · simp at hc
            · simp only [Option.bind_eq_some_iff] at hc
              obtain ⟨es, hes, bs, hbs, z, hz, hc⟩ := hc
              split at hc
              · rename_i hzl
                simp at hc; subst hc
                simp only [aop] at h
                exact DoneV.next (s_appendZ hS hu hu' rfl hes hbs hz hzl hsr hxr h)
              · simp at hc
            · simp at hc
      · -- copy
        rename_i t t' d s
        cases har with
        | cons hdr har =>
          cases har with
          | cons hsr hnil =>
            cases hnil
            simp only [Option.bind_eq_some_iff] at hc
            obtain ⟨u, hu, hc⟩ := hc
            cases u with
            | slice e =>
              simp only [Option.map_eq_some_iff] at hc
              obtain ⟨es, hes, rfl⟩ := hc
              simp only [aop] at h
              exact DoneV.next (s_copy hS hu hes hdr hsr h)
            | _ => simp at hc
      · -- clear
        rename_i t x
        cases har with
        | cons hxr hnil =>
          cases hnil
          simp only [Option.bind_eq_some_iff] at hc
          obtain ⟨u, hu, hc⟩ := hc
          cases u with
          | slice e =>
            simp only [Option.bind_eq_some_iff] at hc
            obtain ⟨es, hes, z, hz, hc⟩ := hc
            split at hc
            · rename_i hzl
              simp at hc; subst hc
              simp only [aop, Option.map_eq_some_iff, Prod.mk.injEq] at h
              obtain ⟨H1, hH, rfl, rfl⟩ := h
              obtain ⟨w', hr, hS'⟩ := s_clear (P := P) (ty := type) hS hu hes hz hzl hxr hH
              refine ⟨.tuple #[], w', m, .inl ?_, m.les_refl, hS', .tuple [] [] .nil⟩
              simp only [builtin, Sem.run_bind, hr, Result.andThen_ok, Sem.run_pure]
            · simp at hc
          | _ => simp at hc
      · -- min
        simp at hc; subst hc
        simp only [aop] at h
        split at h
        · simp at h
        · rename_i x l hl
          simp only [Option.map_eq_some_iff, Prod.mk.injEq] at h
          obtain ⟨v1, hv, rfl, rfl⟩ := h
          rw [hl] at har
          cases har with
          | cons hxr har =>
            refine .ofEx hS ?_
            have := s_fold (P := P) (isMax := false) _ _ _ _ _ w hxr har hv
            simpa [Builtin.min_] using this
      · -- max
        simp at hc; subst hc
        simp only [aop] at h
        split at h
        · simp at h
        · rename_i x l hl
          simp only [Option.map_eq_some_iff, Prod.mk.injEq] at h
          obtain ⟨v1, hv, rfl, rfl⟩ := h
          rw [hl] at har
          cases har with
          | cons hxr har =>
            refine .ofEx hS ?_
            have := s_fold (P := P) (isMax := true) _ _ _ _ _ w hxr har hv
            simpa [Builtin.max_] using this
      · -- cap
        rename_i t x
        cases har with
        | cons hxr hnil =>
          cases hnil
          simp only [Option.bind_eq_some_iff] at hc
          obtain ⟨u, hu, hc⟩ := hc
          cases u with
          | slice e =>
            simp at hc; subst hc
            simp only [aop, Option.map_eq_some_iff, Prod.mk.injEq] at h
            obtain ⟨v1, ⟨n, hn, rfl⟩, rfl, rfl⟩ := h
            refine .valueOf hS (.int _ _) ?_
            generalize aev env x = xa at hxr hn
            cases hxr with
            | nils =>
              simp [acap] at hn; subst hn
              simp only [Builtin.cap_, List.getElem?_toArray, List.getElem?_cons_zero, Sem.run_bind, run_underlying hu, Result.andThen_ok, Sem.run_pure, goInt]
            | slice id off len cap g a' c' h1 h0 h2 h3 h4 h5 =>
              cases g with
              | none =>
                simp [acap] at hn; subst hn
                have := h3 rfl
                subst this
                simp only [Builtin.cap_, List.getElem?_toArray, List.getElem?_cons_zero, Sem.run_bind, run_underlying hu, Result.andThen_ok, Sem.run_pure, goInt]
              | some e' => simp [acap] at hn
            | _ => simp [acap] at hn
          | _ => simp at hc
      · simp at hc
  | _ => simp [cop] at hc

end Go.Proofs.Ytilhjcnkaelheaa.Am
