/- What the abstract machine answers, the model's machine does: an operation in its region, regions that keep the order of the text. -/
import Derived.Test.YtilhjcnkaelheaaAmSound7
import Derived.CallsIn
import Derived.OrdersIn
import Derived.LoopNIn
set_option linter.unusedSimpArgs false
set_option linter.unusedVariables false
namespace Go.Proofs.Ytilhjcnkaelheaa.Am
open Go Go.RowKit

variable {P : Program} {w0 w : World} {B : Nat → Bool} {m : Inj} {H H' : AHeap} {nt : Nat} {env : Env} {a : Act}

/-- The function can be entered: it has a body, and is none that the machine answers itself. -/
def Enters (P : Program) (f : FuncId) : Prop := ∃ fn, P.funcs[f]? = some fn ∧ (fn.name == "runtime.NumGoroutine") = false ∧ fn.body.isNone = false

def CallSound (P : Program) (w0 : World) (B : Nat → Bool) (call : ACall) : Prop :=
  ∀ f args H v H', call f args H = some (v, H') → Enters P f ∧ Up H H' ∧ ∀ m w args', m.full → SRel w0 B m H w → All2 (VRel m) args args' →
    Calls P f args'.toArray w fun e w' => ∃ v' m', e = .returned v' ∧ m.le m' ∧ SRel w0 B m' H' w' ∧ VRel m' v v'

theorem SRel.inj {m1 : Inj} (hS : SRel w0 B m H w) (hm : m.le m1) (hn : m1.n = m.n) : SRel w0 B m1 H w := by
  refine ⟨hS.below, hS.size, by rw [hn]; exact hS.next, fun id o h => ?_, fun i j o o' hi hj hown hij => ?_⟩
  · obtain ⟨h1, h2⟩ := hS.obj id o h
    obtain ⟨h3, h4⟩ := hm.2 id h1
    rw [h4]
    exact ⟨h3, h2.mono hm⟩
  · rw [(hm.2 i (hS.obj i o hi).1).2, (hm.2 j (hS.obj j o' hj).1).2]
    exact hS.apart i j o o' hi hj hown hij

theorem ERel.mono {m m' : Inj} (hm : m.le m') (hE : ERel m nt env a) : ERel m' nt env a := ⟨hE.size, fun t ht => (hE.rel t ht).mono hm⟩

theorem ERel.put {dst : Option Nat} (hE : ERel m nt env a) (hd : cdst nt dst = true) {v : AVal} {v' : Value} (hv : VRel m v v') : ERel m nt (setd env dst v) (a.put dst v') := by
  cases dst with
  | none => exact hE
  | some d =>
    simp [cdst] at hd
    refine ⟨by simp [Act.put]; exact hE.size, fun t ht => ?_⟩
    simp only [setd, Env.set, Act.put, Act.eval]
    by_cases htd : t = d
    · subst htd
      have : t < a.tmps.size := Nat.lt_of_lt_of_le ht hE.size
      simp [this]
      exact hv
    · rw [if_neg htd]
      have := hE.rel t ht
      simp only [Act.eval] at this
      rwa [Array.getD_eq_getD_getElem?, Array.getElem?_setIfInBounds_ne (Ne.symm htd), ← Array.getD_eq_getD_getElem?]

theorem put_defers (dst : Option Nat) (v : Value) : (a.put dst v).defers = a.defers := by cases dst <;> rfl

theorem wanted_rel {ops : Array Oper} {o : Oper} {g : Option (Nat × Bool)} (hE : ERel m nt env a) (hg : cguard ops nt o.guard = some g) : Region.wanted o (yielded ops a.tmps) = agd env g := by
  unfold Region.wanted
  cases hgd : o.guard with
  | none => rw [hgd] at hg; simp [cguard] at hg; subst hg; rfl
  | some jw =>
    obtain ⟨j, wnt⟩ := jw
    rw [hgd] at hg
    simp only [cguard] at hg
    split at hg
    · rename_i d hd
      split at hg
      · rename_i hlt
        simp at hg; subst hg
        simp only [agd, yielded, hd, Option.bind_some]
        have hsz : d < a.tmps.size := Nat.lt_of_lt_of_le hlt hE.size
        have hr := hE.rel d hlt
        simp only [Act.eval, Array.getD_eq_getD_getElem?, Array.getElem?_eq_getElem hsz, Option.getD_some] at hr
        rw [Array.getElem?_eq_getElem hsz]
        generalize a.tmps[d] = x at hr
        generalize env d = y at hr
        cases hr with
        | junk _ h1 h2 => cases x <;> first | rfl | exact absurd rfl (h2 _)
        | any _ h2 => cases x <;> first | rfl | exact absurd rfl (h2 _)
        | bool b => cases b <;> cases wnt <;> rfl
        | _ => rfl
      · simp at hg
    · simp at hg

theorem run_callFunc {f : FuncId} (he : Enters P f) (args : Array Value) (w : World) : (callFunc f args).run P w = .ok (.enter f args) w := by
  obtain ⟨fn, h1, h2, h3⟩ := he
  simp only [callFunc, Sem.run_bind, run_program, Result.andThen_ok, h1, h2, h3, Bool.false_eq_true, if_false, Sem.run_pure]

/-- Any function, any depth; in a round of a range over a function, or in none. -/
def FW (r : Option Nat) : Fence := { Fence.wide with round := r }
theorem fr_room (r : Option Nat) (n : Nat) : (FW r).room n := fun _ h => by cases h
/-- A contract serves in a round too. -/
theorem calls_in {P : Program} {f : FuncId} {args : Array Value} {w : World} {R : Ending → World → Prop} (r : Option Nat) (n : Nat) (h : Calls P f args w R) : CallsIn (FW r) n P f args w R := (callsIn_wide (n := n)).2 h

theorem run_noDefer {ρ : Operand → Value} {o : Oper} {x : Next} {w1 : World} (h : (execOp ρ o).run P w = .ok x w1) (hx : ∀ d, x ≠ .defer d := by intro d h; cases h) : ∀ c, o.op ≠ .defer c := by
  intro c hc
  obtain ⟨dst, op, type, pos, after, guard⟩ := o
  simp only at hc
  subst hc
  simp only [execOp, Sem.run_bind] at h
  cases hr : (resolve ρ c type).run P w with
  | ok d w2 =>
    rw [hr] at h
    simp only [Result.andThen_ok, Sem.run_pure, Result.ok.injEq] at h
    exact hx d h.1.symm
  | halt e w2 => rw [hr] at h; cases h

theorem run_callExt {f : FuncId} {fn : Func} {e : Array Value → Sem Value} (hf : P.funcs[f]? = some fn) (hb : fn.body.isNone = true) (hname : (fn.name == "runtime.NumGoroutine") = false)
    (hn : Extern.findNext fn = none) (he : Extern.find fn = some e) {args : Array Value} {v : Value} (w : World) (hr : (e args).run P w = .ok v w) : (callFunc f args).run P w = .ok (.value v) w := by
  have h1 : fn.name ≠ "runtime.NumGoroutine" := by simpa using hname
  have h2 : fn.body = none := by simpa using hb
  simp [callFunc, hf, h1, h2, hn, he, mark, Sem.run, hr]

theorem find_of {fn : Func} {n : String} {e : Array Value → Sem Value} (hname : fn.name = n) (ho : fn.origin = "")
    (h1 : Extern.allGenericRows.lookup n = none) (h2 : Extern.allTypedRows.lookup n = none) (h3 : Extern.allRows.lookup n = some e)
    (h4 : Extern.allNextRows.lookup n = none) (h5 : Extern.allNextRows.lookup "" = none) : Extern.findNext fn = none ∧ Extern.find fn = some e := by
  constructor
  · simp [Extern.findNext, hname, ho, h4, h5]
  · simp [Extern.find, hname, h1, h2, h3]

theorem run_archFloor {b : Nat} (h : ∀ s t, FloatKind.decode .f64 b ≠ .nan s t) : (Extern.MathFloor.toIntegral "math.archFloor" .down #[.float .f64 b]).run P w = .ok (.float .f64 (Ieee.double.write ((Ieee.double.read b).integral .down))) w := by
  have e0 : Ieee.double.read b = FloatKind.decode .f64 b := rfl
  have key : ∀ d, FloatKind.decode .f64 b = d → (∀ s t, d ≠ .nan s t) → Extern.MathFloor.toIntegral "math.archFloor" .down #[.float .f64 b] = (pure (.float .f64 (Ieee.double.write (d.integral .down))) : Sem Value) := by
    intro d hd hn
    delta Extern.MathFloor.toIntegral
    change (match FloatKind.decode .f64 b with
      | .nan s t => _
      | d => (pure (.float .f64 (FloatKind.f64.encode (d.integral .down))) : Sem Value)) = _
    rw [hd]
    cases d with
    | nan s t => exact absurd rfl (hn s t)
    | _ => rfl
  rw [e0, key _ rfl h]
  rfl

theorem sound_ext1 {call : ACall} {o : Oper} {ao : AOp} (hc : cextern P nt o.op = some ao) (hE : ERel m nt env a) {v : AVal} (h : ado call ao (aev env) H = some (v, H')) :
    ∃ v', (execOp a.eval o).run P w = .ok (.value v') w ∧ VRel m v v' ∧ H' = H := by
  unfold cextern at hc
  split at hc
  · rename_i f args ats hop
    simp only [Option.bind_eq_some_iff] at hc
    obtain ⟨fn, hfn, hc⟩ := hc
    split at hc
    · rename_i hcond
      obtain ⟨hb, ho⟩ := hcond
      split at hc
      · rename_i x hargs
        simp only [Option.bind_eq_some_iff] at hc
        obtain ⟨x', hx, hc⟩ := hc
        have hxr := copd_rel hE hx
        have hrun : ∀ v', (callFunc f #[a.eval x]).run P w = .ok (.value v') w → (execOp a.eval o).run P w = .ok (.value v') w := by
          intro v' hv'
          obtain ⟨dst, op, type, pos, after, guard⟩ := o
          simp only at hop
          subst hop
          have ha : args = #[x] := by apply Array.ext'; simpa using hargs
          have hev : a.eval (.func f) = .func (.func f) #[] #[] := rfl
          simp only [execOp, resolve, hev, Deferred.ofValue, Sem.run_bind, Sem.run_pure, Result.andThen_ok, invoke]
          rw [ha]
          simpa using hv'
        split at hc
        · rename_i hn
          injection hc with hc; subst hc
          simp only [ado, aop] at h
          split at h
          · rename_i b hb'
            split at h
            · rename_i hnum
              simp only [Option.some.injEq, Prod.mk.injEq] at h
              obtain ⟨rfl, rfl⟩ := h
              rw [hb'] at hxr
              obtain ⟨b', hbv, hfr⟩ := flt_rel hxr
              rcases hfr with rfl | ⟨h1, _⟩
              · have := find_of hn ho (e := Extern.MathFloatBits.float64bits) (by kernel_rfl) (by kernel_rfl) (by kernel_rfl) (by kernel_rfl) (by kernel_rfl)
                refine ⟨.int .u64 (b : Int), hrun _ (run_callExt hfn hb (by rw [hn]; decide) this.1 this.2 w ?_), .int _ _, rfl⟩
                rw [hbv]; rfl
              · exact absurd hnum h1
            · cases h
          · cases h
        · split at hc
          · rename_i hn
            injection hc with hc; subst hc
            simp only [ado, aop] at h
            split at h
            · rename_i n hb'
              simp only [Option.some.injEq, Prod.mk.injEq] at h
              obtain ⟨rfl, rfl⟩ := h
              rw [hb'] at hxr
              generalize hcv : a.eval x = cv at hxr hrun
              cases hxr
              have := find_of hn ho (e := Extern.MathFloatBits.float64frombits) (by kernel_rfl) (by kernel_rfl) (by kernel_rfl) (by kernel_rfl) (by kernel_rfl)
              exact ⟨.float .f64 n.toNat, hrun _ (run_callExt hfn hb (by rw [hn]; decide) this.1 this.2 w rfl), .flt _ _, rfl⟩
            · cases h
          · split at hc
            · rename_i hn
              injection hc with hc; subst hc
              simp only [ado, aop] at h
              split at h
              · rename_i b hb'
                split at h
                · rename_i hnum
                  simp only [Option.some.injEq, Prod.mk.injEq] at h
                  obtain ⟨rfl, rfl⟩ := h
                  rw [hb'] at hxr
                  obtain ⟨b', hbv, hfr⟩ := flt_rel hxr
                  rcases hfr with rfl | ⟨h1, _⟩
                  · have := find_of hn ho (e := Extern.MathFloor.toIntegral "math.archFloor" .down) (by kernel_rfl) (by kernel_rfl) (by kernel_rfl) (by kernel_rfl) (by kernel_rfl)
                    refine ⟨.float .f64 (Ieee.double.write ((Ieee.double.read b).integral .down)), hrun _ (run_callExt hfn hb (by rw [hn]; decide) this.1 this.2 w ?_), .flt _ _, rfl⟩
                    rw [hbv]
                    have hnn : ∀ s t, FloatKind.decode .f64 b ≠ .nan s t := by
                      intro s t e
                      have e' : Ieee.double.read b = .nan s t := e
                      unfold Fl.num at hnum
                      rcases Nat.lt_or_eq_of_le hnum with h1 | h1
                      · obtain ⟨m, p, e1, _⟩ := Fl.read_num h1
                        rw [e1] at e'; cases e'
                      · rw [Fl.read_inf h1] at e'; cases e'
                    exact run_archFloor hnn
                  · exact absurd hnum h1
                · cases h
              · cases h
            · cases hc
      · cases hc
    · cases hc
  · cases hc

/-- An operation of a region. -/
theorem sound_ado {call : ACall} (hcs : CallSound P w0 B call) {o : Oper} {ao : AOp} (hc : copc P nt o.op = some ao) (hE : ERel m nt env a) (hS : SRel w0 B m H w) {v : AVal} (h : ado call ao (aev env) H = some (v, H'))
    {next : Act → World → Prop} {Q : Exit → Act → World → Prop} (hnext : ∀ v' w' m', m.le m' → (ao.isCall = false → m.les m') → SRel w0 B m' H' w' → VRel m' v v' → next (a.put o.dst v') w') (r : Option Nat) (nn : Nat) : o.wpIn (FW r) nn P a w next Q := by
  have hc0 : copc0 P nt o.op = some ao := by
    unfold copc at hc
    simp only [Option.some.injEq] at hc
    cases h0 : copc0 P nt o.op with
    | none =>
      rw [h0] at hc
      subst hc
      cases h
    | some x =>
      rw [h0] at hc
      rw [← hc]
      rfl
  clear hc; rename copc0 P nt o.op = some ao => hc
  unfold copc0 at hc
  split at hc
  · rename_i ao' hx
    injection hc with hc
    subst hc
    obtain ⟨v', hr, hv, rfl⟩ := sound_ext1 (w := w) (call := call) hx hE h
    refine ⟨fun _ _ => trivial, ?_⟩
    rw [Oper.semAt_eq _ _ _ (run_noDefer hr), hr]; exact hnext v' w m m.le_refl (fun _ => m.les_refl) hS hv
  unfold copc1 at hc
  split at hc
  · rename_i r hr
    subst hc
    unfold ccall at hr
    split at hr
    · rename_i fo args ats hop
      simp only [Option.some.injEq, Option.bind_eq_some_iff, Option.map_eq_some_iff] at hr
      obtain ⟨f', hf, l, hl, rfl⟩ := hr
      have hfr := copd_rel hE hf
      have hlr := copds_rel hE hl
      simp only [ado] at h
      split at h
      · rename_i g first captured hg
        rw [hg] at hfr
        generalize hfv : a.eval fo = fv at hfr
        cases hfr with
        | func _ _ _ first' captured' h1 h2 =>
          obtain ⟨hen, _, hcalls⟩ := hcs _ _ _ _ _ h
          have hca := hcalls m.filled w (first' ++ args.toList.map a.eval ++ captured') m.filled_full (hS.inj m.le_filled rfl) (forall2_mono m.le_filled (forall2_append (forall2_append h1 hlr) h2))
          have hrun : (execOp a.eval o).run P w = .ok (.enter g (first' ++ args.toList.map a.eval ++ captured').toArray) w := by
            obtain ⟨dst, op, type, pos, after, guard⟩ := o
            simp only at hop
            subst hop
            simp only [execOp, resolve, hfv, Deferred.ofValue, Sem.run_bind, Sem.run_pure, Result.andThen_ok, invoke]
            rw [run_callFunc hen]
            congr 2
            apply Array.ext'
            simp
          refine ⟨fun _ _ => trivial, ?_⟩
          rw [Oper.semAt_eq _ _ _ (run_noDefer hrun), hrun, Oper.uponIn_enter]
          refine ⟨fun h => by simp [FW, Fence.wide] at h, calls_in r _ (hca.mono ?_)⟩
          rintro e w' ⟨v', m', rfl, hm, hS', hv⟩
          exact hnext v' w' m' (Inj.le_trans m.le_filled hm) (fun h => by cases h) hS' hv
      · simp at h
    · simp at hr
  · simp only [Option.bind_eq_some_iff] at hc
    obtain ⟨ao', hc, hn⟩ := hc
    split at hn
    · simp at hn
    · rename_i hic
      simp at hn; subst hn
      have hcall' : ∀ f l, ao' ≠ .call f l := by intro f l he; subst he; simp [AOp.isCall] at hic
      have h' : aop ao' (aev env) H = some (v, H') := by
        cases ao' <;> first | exact h | exact absurd rfl (hcall' _ _)
      obtain ⟨v', w', m', hr, hm, hS', hv⟩ := sound_aop hc hcall' hE hS h'
      refine ⟨fun _ _ => trivial, ?_⟩
      rcases hr with hr | ⟨hr, rfl⟩
      · rw [Oper.semAt_eq _ _ _ (run_noDefer hr), hr]; exact hnext v' w' m' hm.1 (fun _ => hm) hS' hv
      · rw [Oper.semAt_eq _ _ _ (run_noDefer hr), hr]; exact hnext undef w' m' hm.1 (fun _ => hm) hS' hv

theorem coper_spec {ops : Array Oper} {o : Oper} {x : AOper} (h : coper P ops nt o = some x) : cdst nt o.dst = true ∧ copc P nt o.op = some x.op ∧ cguard ops nt o.guard = some x.guard ∧ x.dst = o.dst := by
  unfold coper at h
  split at h
  · rename_i hd
    simp only [Option.bind_eq_some_iff, Option.map_eq_some_iff] at h
    obtain ⟨ao, hao, g, hg, rfl⟩ := h
    exact ⟨hd, hao, hg, rfl⟩
  · simp at h

theorem undef_rel (m : Inj) : VRel m aundef undef := .tuple [] [] .nil

/-- A region that keeps the order of the text. -/
theorem sound_aops {call : ACall} {r : Option Nat} {nn : Nat} (hcs : CallSound P w0 B call) {ops : Array Oper} {Q : Exit → Act → World → Prop} : ∀ (l : List Oper) (al : List AOper) (i : Nat) (env : Env) (H : AHeap) (m : Inj) (a : Act) (w : World) (env' : Env) (H' : AHeap),
    copers P ops nt l = some al → (∀ j, l[j]? = ops[i + j]?) → ERel m nt env a → SRel w0 B m H w → aops call al env H = some (env', H') →
    (∀ a' w' m', m.le m' → SRel w0 B m' H' w' → ERel m' nt env' a' → a'.defers = a.defers → Q .normal a' w') → wpOpsIn (FW r) nn P ops Q (List.range' i l.length) a w
  | [], al, i, env, H, m, a, w, env', H', hc, hl, hE, hS, h, hQ => by
    simp [copers] at hc; subst hc
    simp [aops] at h
    obtain ⟨rfl, rfl⟩ := h
    exact hQ a w m m.le_refl hS hE rfl
  | o :: l, al, i, env, H, m, a, w, env', H', hc, hl, hE, hS, h, hQ => by
    simp only [copers, Option.bind_eq_some_iff, Option.map_eq_some_iff] at hc
    obtain ⟨x, hx, r, hr, rfl⟩ := hc
    obtain ⟨hd, ho, hg, hdx⟩ := coper_spec hx
    have h0 : ops[i]? = some o := by simpa using (hl 0).symm
    have hl' : ∀ j, l[j]? = ops[i + 1 + j]? := fun j => by have := hl (j + 1); simpa [Nat.add_assoc, Nat.add_comm 1 j] using this
    have hw := wanted_rel hE hg
    simp only [List.length_cons, List.range'_succ, wpOpsIn, h0]
    simp only [aops] at h
    cases hag : agd env x.guard with
    | true =>
      rw [hag] at h hw
      simp only [if_true, Option.bind_eq_some_iff] at h
      obtain ⟨⟨v, H1⟩, hv, h⟩ := h
      rw [if_pos hw]
      refine sound_ado hcs ho hE hS hv (fun v' w' m' hm _ hS' hvr => ?_) _ _
      refine sound_aops hcs l r (i + 1) _ H1 m' _ w' env' H' hr hl' (by rw [hdx]; exact (hE.mono hm).put hd hvr) hS' h ?_
      intro a' w'' m'' hm' hS'' hE' hdf
      exact hQ a' w'' m'' (Inj.le_trans hm hm') hS'' hE' (hdf.trans (put_defers _ _))
    | false =>
      rw [hag] at h hw
      simp only [Bool.false_eq_true, if_false] at h
      rw [if_neg (by rw [hw]; simp)]
      refine ⟨fun _ _ => trivial, ?_⟩
      refine sound_aops hcs l r (i + 1) _ H m _ w env' H' hr hl' (by rw [hdx]; exact hE.put hd (undef_rel m)) hS h ?_
      intro a' w'' m'' hm' hS'' hE' hdf
      exact hQ a' w'' m'' hm' hS'' hE' (hdf.trans (put_defers _ _))

end Go.Proofs.Ytilhjcnkaelheaa.Am
