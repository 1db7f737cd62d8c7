/- What the abstract machine's operations answer, the model's do: values, memory. -/
import Derived.Test.YtilhjcnkaelheaaAmExec
set_option linter.unusedSimpArgs false
set_option linter.unusedVariables false
namespace Go.Proofs.Ytilhjcnkaelheaa.Am
open Go Go.RowKit

variable {P : Program} {w0 w : World} {B : Nat → Bool} {m : Inj} {H H' : AHeap}

structure ERel (m : Inj) (nt : Nat) (env : Env) (a : Act) : Prop where
  size : nt ≤ a.tmps.size
  rel : ∀ t, t < nt → VRel m (env t) (a.eval (.tmp t))

theorem cval1_rel {v : Value} {x : AVal} (h : cval1 v = some x) : VRel m x v ∧ v.oneCell' = true ∧ x.tup = false := by
  unfold cval1 at h
  split at h <;> simp at h <;> subst h <;> refine ⟨?_, rfl, rfl⟩ <;> first
    | (constructor; done)
    | skip

theorem cvals_rel : ∀ {l : List Value} {x : List AVal}, cvals l = some x → All2 (VRel m) x l ∧ ∀ y, y ∈ l → y.oneCell' = true
  | [], x, h => by simp [cvals] at h; subst h; exact ⟨.nil, by simp⟩
  | v :: l, x, h => by
    simp only [cvals, Option.bind_eq_some_iff, Option.map_eq_some_iff] at h
    obtain ⟨a, ha, r, hr, rfl⟩ := h
    obtain ⟨h1, h2, _⟩ := cval1_rel (m := m) ha
    obtain ⟨h3, h4⟩ := cvals_rel hr
    exact ⟨.cons h1 h3, by intro y hy; simp at hy; rcases hy with rfl | hy; exact h2; exact h4 y hy⟩

theorem cval_rel {v : Value} {x : AVal} (h : cval v = some x) : VRel m x v := by
  unfold cval at h
  split at h
  · simp only [Option.map_eq_some_iff] at h
    obtain ⟨l, hl, rfl⟩ := h
    obtain ⟨h1, h2⟩ := cvals_rel (m := m) hl
    exact .agg _ _ h1 h2
  · simp only [Option.map_eq_some_iff] at h
    obtain ⟨l, hl, rfl⟩ := h
    exact .tuple _ _ (cvals_rel (m := m) hl).1
  · exact (cval1_rel h).1

theorem copd_rel {nt : Nat} {env : Env} {a : Act} (hE : ERel m nt env a) {x : Operand} {y : AOpd} (h : copd nt x = some y) : VRel m (aev env y) (a.eval x) := by
  unfold copd at h
  split at h
  · split at h
    · simp at h; subst h; exact hE.rel _ ‹_›
    · simp at h
  · simp only [Option.map_eq_some_iff] at h
    obtain ⟨v, hv, rfl⟩ := h
    exact cval_rel hv
  · simp at h; subst h; exact .func _ _ _ [] [] .nil .nil
  · simp at h

theorem copds_rel {nt : Nat} {env : Env} {a : Act} (hE : ERel m nt env a) : ∀ {l : List Operand} {y : List AOpd}, copds nt l = some y → All2 (VRel m) (y.map (aev env)) (l.map a.eval)
  | [], y, h => by simp [copds] at h; subst h; exact .nil
  | x :: l, y, h => by
    simp only [copds, Option.bind_eq_some_iff, Option.map_eq_some_iff] at h
    obtain ⟨u, hu, r, hr, rfl⟩ := h
    exact .cons (copd_rel hE hu) (copds_rel hE hr)

/-! ### Types -/
theorem run_sizeOf' {t : TypeId} {n : Nat} (h : tsize P t = some n) (w : World) : (sizeOf t).run P w = .ok n w := by
  simp only [tsize, Option.map_eq_some_iff] at h
  obtain ⟨i, hi, rfl⟩ := h
  simp [sizeOf, typeInfo, hi]

theorem run_bytes {t : TypeId} {n : Nat} (h : tbytes P t = some n) (w : World) : ∃ i, (typeInfo t).run P w = .ok i w ∧ i.bytes = n := by
  simp only [tbytes, Option.map_eq_some_iff] at h
  obtain ⟨i, hi, rfl⟩ := h
  exact ⟨i, by simp [typeInfo, hi], rfl⟩

theorem run_isAgg {t : TypeId} {g : Bool} (h : tagg P t = some g) (w : World) : (isAgg t).run P w = .ok g w := by
  simp only [tagg, Option.map_eq_some_iff] at h
  obtain ⟨d, hd, rfl⟩ := h
  simp only [isAgg, Sem.run_bind, run_underlying hd, Result.andThen_ok]
  cases d <;> rfl

theorem run_zero {t : TypeId} {z : List AVal} (h : tzero P t = some z) (w : World) : ∃ v, (zeroValue t).run P w = .ok v w ∧ cvals v.cells.toList = some z := by
  simp only [tzero, Option.bind_eq_some_iff] at h
  obtain ⟨v, ⟨i, hi, hz⟩, hc⟩ := h
  exact ⟨v, by simp [zeroValue, typeInfo, hi, hz], hc⟩

/-! ### What is to be shown of an operation -/
def DoneV (w0 : World) (B : Nat → Bool) (m : Inj) (H' : AHeap) (v : AVal) (r : Result Value) : Prop :=
  ∃ v' w' m', r = .ok v' w' ∧ m.les m' ∧ SRel w0 B m' H' w' ∧ VRel m' v v'

def DoneN (w0 : World) (B : Nat → Bool) (m : Inj) (H' : AHeap) (v : AVal) (r : Result Next) : Prop :=
  ∃ v' w' m', (r = .ok (.value v') w' ∨ (r = .ok .skip w' ∧ v' = undef)) ∧ m.les m' ∧ SRel w0 B m' H' w' ∧ VRel m' v v'

theorem DoneV.same (hS : SRel w0 B m H w) {v : AVal} {v' : Value} (hv : VRel m v v') : DoneV w0 B m H v (.ok v' w) := ⟨v', w, m, rfl, m.les_refl, hS, hv⟩

theorem DoneV.next {v : AVal} {s : Sem Value} (h : DoneV w0 B m H' v (s.run P w)) : DoneN w0 B m H' v ((do pure (.value (← s)) : Sem Next).run P w) := by
  obtain ⟨v', w', m', h1, h2⟩ := h
  refine ⟨v', w', m', .inl ?_, h2⟩
  simp only [Sem.run_bind, h1, Result.andThen_ok, Sem.run_pure]

theorem DoneV.value {v : AVal} {v' : Value} (h : DoneV w0 B m H' v (.ok v' w)) : DoneN w0 B m H' v (.ok (.value v') w) := by
  obtain ⟨u, w', m', h1, h2⟩ := h
  simp at h1
  obtain ⟨rfl, rfl⟩ := h1
  exact ⟨_, _, m', .inl rfl, h2⟩

/-! ### Memory -/
theorem s_loadVar (hS : SRel w0 B m H w) {t : TypeId} {g : Bool} {n : Nat} (hg : tagg P t = some g) (hn : tsize P t = some n) {id off : Nat} {v : AVal}
    (h : aload H g n (.ptr id off) = some v) : ∃ v', (loadVar t ⟨(m.loc id).block, (m.loc id).off + off, none⟩).run P w = .ok v' w ∧ VRel m v v' := by
  simp only [aload] at h
  split at h
  · rename_i l own ho
    simp only [apart] at h
    simp only [loadVar, Sem.run_bind, run_isAgg hg, Result.andThen_ok]
    cases g with
    | true =>
      simp only [if_true] at h
      split at h
      · rename_i hl
        simp at h; subst h
        obtain ⟨vs, hr, ha, h1, _⟩ := hS.loadCells (P := P) ho hl
        refine ⟨.agg vs.toArray, ?_, .agg _ _ ha h1⟩
        simp only [if_true, Sem.run_bind, run_sizeOf' hn, Result.andThen_ok, hr]
        rfl
      · simp at h
    | false =>
      simp only [Bool.false_eq_true, if_false] at h
      obtain ⟨v', hv, hr, _⟩ := hS.cell ho h
      refine ⟨v', ?_, hr⟩
      simp only [Bool.false_eq_true, if_false, load, Sem.run, hv]
  · simp at h

theorem s_load (hS : SRel w0 B m H w) {t : TypeId} {g : Bool} {n : Nat} (hg : tagg P t = some g) (hn : tsize P t = some n) {x v : AVal} {x' : Value} (hx : VRel m x x')
    (h : aload H g n x = some v) : DoneV w0 B m H v ((Instr.loadAt t x').run P w) := by
  cases hx with
  | ptr id off hid =>
    obtain ⟨v', hr, hv⟩ := s_loadVar (P := P) hS hg hn h
    refine ⟨v', w, m, ?_, m.les_refl, hS, hv⟩
    simp only [Instr.loadAt, Instr.sureAddr, Sem.run_bind, Sem.run_pure, Result.andThen_ok]
    exact hr
  | _ => simp [aload] at h

theorem s_storeCells (hS : SRel w0 B m H w) {id off : Nat} {l : List AVal} (ho : H.obj id = some (.cells l true)) {cs : List AVal} {vs : List Value} (hl : off + cs.length ≤ l.length) (ha : All2 (VRel m) cs vs) (h1 : ∀ x, x ∈ vs → x.oneCell' = true) :
    ∃ w', (storeCells ⟨(m.loc id).block, (m.loc id).off + off, none⟩ vs).run P w = .ok () w' ∧ SRel w0 B m (H.set id (.cells (lput l off cs) true)) w' :=
  SRel.putCells (P := P) cs vs off 0 l H w hS ho (by simpa using hl) ha h1

theorem s_store (hS : SRel w0 B m H w) {t : TypeId} {n : Nat} (hn : tsize P t = some n) {a x : AVal} {a' x' : Value} (ha : VRel m a a') (hx : VRel m x x') (h : astore H n a x = some H') :
    ∃ w', (Instr.storeAt t a' x').run P w = .ok () w' ∧ SRel w0 B m H' w' := by
  cases ha with
  | ptr id off hid =>
    simp only [astore] at h
    split at h
    · rename_i l ho
      split at h
      · rename_i hc
        obtain ⟨h1, h2, h3⟩ := hc
        simp at h; subst h
        have hcs := hx.cells h3
        obtain ⟨w', hr, hS'⟩ := s_storeCells (P := P) hS ho (by rw [h2]; exact h1) hcs (hx.isCells h3)
        refine ⟨w', ?_, hS'⟩
        simp only [Instr.storeAt, Instr.sureAddr, Sem.run_bind, Sem.run_pure, Result.andThen_ok, storeVar, run_sizeOf' hn]
        have hlen : x'.cells.size = n := by
          have := forall2_length hcs
          simp at this
          omega
        simp only [hlen, ne_eq, not_true_eq_false, if_false]
        exact hr
      · simp at h
    · simp at h
  | _ => simp [astore] at h

theorem free_zero (c : Array Value) : Free c (0, 0) := fun j _ => by simp

/-- A new object, of just its cells. -/
theorem s_new (hS : SRel w0 B m H w) (e : TypeId) {cs : List AVal} {vs : List Value} (ha : All2 (VRel m) cs vs) (h1 : ∀ x, x ∈ vs → x.oneCell' = true) :
    ∃ m', m.les m' ∧ m'.loc m.n = ⟨w.heap.size, 0, vs.length⟩ ∧ m'.has m.n ∧ SRel w0 B m' (H.new (.cells cs true)) (w.alloc (.cells vs.toArray e (0, 0))) := by
  refine ⟨m.ext ⟨w.heap.size, 0, vs.length⟩, m.les_ext _, m.ext_new _, m.ext_has _, ?_⟩
  have := hS.new (rest := []) ha h1 e (0, 0) (free_zero _) (.cells vs.toArray e (0, 0)) (by simp)
  simpa using this

theorem run_newRow (e : TypeId) (c : Array Value) (w : World) : (newRow e c).run P w = .ok ⟨w.heap.size, 0, none⟩ (w.alloc (.cells c e (0, 0))) := by
  simp only [newRow, newObj, Sem.run_bind, Sem.run, Result.andThen_ok]
  rfl

theorem s_alloc (hS : SRel w0 B m H w) {t : TypeId} {z : List AVal} (hz : tzero P t = some z) : DoneV w0 B m (H.new (.cells z true)) (.ptr H.next 0) ((Instr.alloc t true (.tuple #[])).run P w) := by
  obtain ⟨v, hv, hc⟩ := run_zero hz w
  obtain ⟨h1, h2⟩ := cvals_rel (m := m) hc
  obtain ⟨m', hm, hl, hn, hS'⟩ := s_new hS t h1 h2
  refine ⟨.pointer (some ⟨w.heap.size, 0, none⟩), _, m', ?_, hm, hS', ?_⟩
  · simp only [Instr.alloc, Sem.run_bind, hv, Result.andThen_ok, newVar, run_newRow]
    simp
  · rw [hS.next]
    have := VRel.ptr (m := m') m.n 0 hn
    rwa [hl] at this

theorem s_box (hS : SRel w0 B m H w) {t : TypeId} {x : AVal} {x' : Value} (hx : VRel m x x') (ht : x.tup = false) : DoneV w0 B m (H.new (.cells x.cells true)) (.ptr H.next 0) ((Instr.box t x').run P w) := by
  obtain ⟨m', hm, hl, hn, hS'⟩ := s_new hS t (hx.cells ht) (hx.isCells ht)
  refine ⟨.pointer (some ⟨w.heap.size, 0, none⟩), _, m', ?_, hm, hS', ?_⟩
  · simp only [Instr.box, newVar, Sem.run_bind, run_newRow, Result.andThen_ok]
    simp
  · rw [hS.next]
    have := VRel.ptr (m := m') m.n 0 hn
    rwa [hl] at this

end Go.Proofs.Ytilhjcnkaelheaa.Am
