/- What the abstract machine answers, the model's machine does: code, functions, calls. -/
import Derived.Test.YtfpbmoiconopcaaAmDraw2
import Derived.LoopN
set_option linter.unusedSimpArgs false
set_option linter.unusedVariables false
namespace Go.Proofs.Ytfpbmoiconopcaa.Am
open Go Go.RowKit

variable {P : Program} {w0 w : World} {B : Nat → Bool} {m : Inj} {H H' : AHeap} {nt : Nat} {env : Env} {a : Act}

def cexit : AExit → Exit
  | .normal => .normal
  | .exit id => .exit id
  | .ret => .ret

/-- What is to be shown of a way out. -/
def Out (w0 : World) (B : Nat → Bool) (m : Inj) (nt : Nat) (df : List Deferred) (r : AExit × Env × AHeap) (Q : Exit → Act → World → Prop) : Prop :=
  ∀ a' w' m', m.le m' → SRel w0 B m' r.2.2 w' → ERel m' nt r.2.1 a' → a'.defers = df → Q (cexit r.1) a' w'

theorem dead_none {call : ACall} {n : Nat} {env : Env} {H : AHeap} {r : AExit × Env × AHeap} : ¬ aexec call n dead env H = some r := by
  simp [aexec, dead, aops, agd, ado, aop]

theorem sound_code {call : ACall} (hcs : ∀ w0 B, CallSound P w0 B call) (hmix : P.follows .mixedOrders = true) {n : Nat} : ∀ (c : Code) (ac : ACode), ccode P nt c = some ac → ∀ (env : Env) (H : AHeap) (r : AExit × Env × AHeap), aexec call n ac env H = some r →
    ∀ (m : Inj) (a : Act) (w : World), ERel m nt env a → SRel w0 B m H w → ∀ Q, Out w0 B m nt a.defers r Q → c.wp P Q a w := by
  intro c
  induction c with
  | skip =>
    intro ac hc env H r h m a w hE hS Q hQ
    simp [ccode] at hc; subst hc
    simp [aexec] at h; subst h
    exact wp_skip (hQ a w m m.le_refl hS hE rfl)
  | region id ops draw =>
    intro ac hc env H r h m a w hE hS Q hQ
    cases draw with
    | false =>
      simp only [ccode, Option.some.injEq] at hc
      subst hc
      cases hal : copers P ops nt ops.toList with
      | none => rw [hal] at h; exact absurd h dead_none
      | some al =>
      rw [hal] at h
      simp only [Option.map_some, Option.getD_some] at h
      simp only [aexec, Option.map_eq_some_iff] at h
      obtain ⟨⟨env', H'⟩, h, rfl⟩ := h
      refine wp_region ?_
      have := sound_aops (Q := Q) (hcs w0 B) ops.toList al 0 env H m a w env' H' hal (by intro j; simp) hE hS h (fun a' w' m' h1 h2 h3 h4 => hQ a' w' m' h1 h2 h3 h4)
      rw [List.range_eq_range']
      simpa using this
    | true =>
      simp only [ccode, Option.some.injEq] at hc
      subst hc
      cases hal : copers P ops nt ops.toList with
      | none => rw [hal] at h; exact absurd h dead_none
      | some al =>
      rw [hal] at h
      simp only [Option.bind_some] at h
      cases hc : drawOf ops al (CheckFast.beforeF ops).toList with
      | none => rw [hc] at h; exact absurd h dead_none
      | some c =>
      rw [hc] at h
      simp only [Option.getD_some] at h
      obtain ⟨al', b, rfl, R⟩ := region1_of hal hc
      simp only [aexec, Option.map_eq_some_iff] at h
      obtain ⟨⟨env', H'⟩, h, rfl⟩ := h
      exact sound_draw hcs hmix R hE hS h (fun a' w' m' h1 h2 h3 h4 => hQ a' w' m' h1 h2 h3 h4) id
  | seq x y ihx ihy =>
    intro ac hc env H r h m a w hE hS Q hQ
    simp only [ccode, Option.bind_eq_some_iff, Option.map_eq_some_iff] at hc
    obtain ⟨ax, hax, ay, hay, rfl⟩ := hc
    simp only [aexec, Option.bind_eq_some_iff] at h
    obtain ⟨⟨ex, env1, H1⟩, hx, h⟩ := h
    refine wp_seq (ihx ax hax env H _ hx m a w hE hS _ ?_)
    intro a1 w1 m1 hm1 hS1 hE1 hd1
    cases ex with
    | normal => exact ihy ay hay env1 H1 r h m1 a1 w1 hE1 hS1 Q (fun a' w' m' h1 h2 h3 h4 => hQ a' w' m' (Inj.le_trans hm1 h1) h2 h3 (h4.trans hd1))
    | exit id => simp at h; subst h; exact hQ a1 w1 m1 hm1 hS1 hE1 hd1
    | ret => simp at h; subst h; exact hQ a1 w1 m1 hm1 hS1 hE1 hd1
  | cond c x y ihx ihy =>
    intro ac hc env H r h m a w hE hS Q hQ
    cases hc' : copd nt c with
    | none =>
      simp only [ccode, hc', Option.some.injEq] at hc
      subst hc
      exact absurd h dead_none
    | some c' =>
    simp only [ccode, hc', Option.bind_eq_some_iff, Option.map_eq_some_iff] at hc
    obtain ⟨ax, hax, ay, hay, rfl⟩ := hc
    simp only [aexec] at h
    have hcr := copd_rel hE hc'
    split at h
    · rename_i t ht
      rw [ht] at hcr
      generalize hcv : a.eval c = cv at hcr
      cases hcr
      cases t with
      | true => simp at h; exact wp_cond_true hcv (ihx ax hax env H r h m a w hE hS Q hQ)
      | false => simp at h; exact wp_cond_false hcv (ihy ay hay env H r h m a w hE hS Q hQ)
    · simp at h
  | block id x ih =>
    intro ac hc env H r h m a w hE hS Q hQ
    simp only [ccode, Option.map_eq_some_iff] at hc
    obtain ⟨ax, hax, rfl⟩ := hc
    simp only [aexec, Option.map_eq_some_iff] at h
    obtain ⟨⟨ex, env1, H1⟩, hx, h⟩ := h
    refine wp_block (ih ax hax env H _ hx m a w hE hS _ ?_)
    intro a1 w1 m1 hm1 hS1 hE1 hd1
    cases ex with
    | normal => simp at h; subst h; exact hQ a1 w1 m1 hm1 hS1 hE1 hd1
    | exit i =>
      simp only at h
      simp only [cexit, Exit.inBlock]
      split at h
      · rename_i hi
        subst h
        rw [if_pos hi]; exact hQ a1 w1 m1 hm1 hS1 hE1 hd1
      · rename_i hi
        subst h
        rw [if_neg hi]; exact hQ a1 w1 m1 hm1 hS1 hE1 hd1
    | ret => simp at h; subst h; exact hQ a1 w1 m1 hm1 hS1 hE1 hd1
  | loop x ih =>
    intro ac hc env H r h m a w hE hS Q hQ
    simp only [ccode, Option.map_eq_some_iff] at hc
    obtain ⟨ax, hax, rfl⟩ := hc
    simp only [aexec] at h
    have key : ∀ (k : Nat) (env : Env) (H : AHeap), aiter (aexec call n ax) k env H = some r → ∀ (m : Inj) (a : Act) (w : World), ERel m nt env a → SRel w0 B m H w → Out w0 B m nt a.defers r Q → Code.rounds P x Q k a w := by
      intro k
      induction k with
      | zero => intro env H h; simp [aiter] at h
      | succ k ihk =>
        intro env H h m a w hE hS hQ
        simp only [aiter, Option.bind_eq_some_iff] at h
        obtain ⟨⟨ex, env1, H1⟩, hx, h⟩ := h
        rw [rounds_succ]
        refine ih ax hax env H _ hx m a w hE hS _ ?_
        intro a1 w1 m1 hm1 hS1 hE1 hd1
        cases ex with
        | normal => exact ihk env1 H1 h m1 a1 w1 hE1 hS1 (fun a' w' m' h1 h2 h3 h4 => hQ a' w' m' (Inj.le_trans hm1 h1) h2 h3 (h4.trans hd1))
        | exit id => simp at h; subst h; exact hQ a1 w1 m1 hm1 hS1 hE1 hd1
        | ret => simp at h; subst h; exact hQ a1 w1 m1 hm1 hS1 hE1 hd1
    exact wp_loop_rounds n (key n env H h m a w hE hS hQ)
  | exit id =>
    intro ac hc env H r h m a w hE hS Q hQ
    simp [ccode] at hc; subst hc
    simp [aexec] at h; subst h
    exact wp_exit (hQ a w m m.le_refl hS hE rfl)
  | ret =>
    intro ac hc env H r h m a w hE hS Q hQ
    simp [ccode] at hc; subst hc
    simp [aexec] at h; subst h
    exact wp_ret (hQ a w m m.le_refl hS hE rfl)
  | _ =>
    intro ac hc env H r h
    simp only [ccode, Option.some.injEq] at hc
    subst hc
    exact absurd h dead_none

/-! ### Results -/
theorem cres_run (hS : SRel w0 B m H w) (hE : ERel m nt env a) : ∀ {l : List ResultVar} {r : List ARes} {vs : List AVal}, cres P nt l = some r → aress H env r = some vs →
    ∃ vs', (l.mapM (fun x => match x with
      | .tmp t => pure (a.tmps.getD t undef)
      | .cell ad t => do loadVar t (← asAddr (a.tmps.getD ad undef)) : ResultVar → Sem Value)).run P w = .ok vs' w ∧ All2 (VRel m) vs vs'
  | [], r, vs, hc, h => by
    simp [cres] at hc; subst hc
    simp [aress] at h; subst h
    exact ⟨[], rfl, .nil⟩
  | .tmp t :: l, r, vs, hc, h => by
    simp only [cres] at hc
    split at hc
    · rename_i ht
      simp only [Option.map_eq_some_iff] at hc
      obtain ⟨r', hr, rfl⟩ := hc
      simp only [aress, Option.map_eq_some_iff] at h
      obtain ⟨vs1, hvs, rfl⟩ := h
      obtain ⟨vs', h1, h2⟩ := cres_run hS hE hr hvs
      refine ⟨_, ?_, .cons (hE.rel t ht) h2⟩
      simp only [List.mapM_cons, Sem.run_bind, Sem.run_pure, Result.andThen_ok, h1]
      rfl
    · simp at hc
  | .cell ad t :: l, r, vs, hc, h => by
    simp only [cres] at hc
    split at hc
    · rename_i ht
      simp only [Option.bind_eq_some_iff, Option.map_eq_some_iff] at hc
      obtain ⟨g, hg, n, hn, r', hr, rfl⟩ := hc
      simp only [aress, Option.bind_eq_some_iff, Option.map_eq_some_iff] at h
      obtain ⟨v, hv, vs1, hvs, rfl⟩ := h
      obtain ⟨vs', h1, h2⟩ := cres_run hS hE hr hvs
      have hr := hE.rel ad ht
      generalize hx : env ad = x at hr hv
      simp only [Act.eval] at hr
      generalize hx' : a.tmps.getD ad undef = x' at hr
      cases hr with
      | ptr id off hid =>
        obtain ⟨v', hv', hvr⟩ := s_loadVar (P := P) hS hg hn hv
        refine ⟨v' :: vs', ?_, .cons hvr h2⟩
        have e1 : (asAddr (a.tmps.getD ad undef)).run P w = .ok ⟨(m.loc id).block, (m.loc id).off + off, none⟩ w := by rw [hx']; rfl
        simp only [List.mapM_cons, Sem.run_bind, e1, Sem.run_pure, Result.andThen_ok, hv', h1]
      | _ => simp [aload] at hv
    · simp at hc

theorem sound_results (hS : SRel w0 B m H w) (hE : ERel m nt env a) {fn : Func} {r : List ARes} {vs : List AVal} (hc : cres P nt fn.results.toList = some r) (h : aress H env r = some vs) :
    ∃ v', (results fn a.tmps).run P w = .ok v' w ∧ VRel m (aret vs) v' := by
  obtain ⟨vs', h1, h2⟩ := cres_run hS hE hc h
  have hrun : (fn.results.mapM (fun x => match x with
      | .tmp t => pure (a.tmps.getD t undef)
      | .cell ad t => do loadVar t (← asAddr (a.tmps.getD ad undef)) : ResultVar → Sem Value)).run P w = .ok vs'.toArray w := by
    rw [Array.mapM_eq_mapM_toList]
    simp only [map_eq_pure_bind, Sem.run_bind, h1, Result.andThen_ok, Sem.run_pure]
  have hlen := forall2_length h2
  refine ⟨if h : vs'.toArray.size = 1 then vs'.toArray[0] else .tuple vs'.toArray, ?_, ?_⟩
  · unfold results
    simp only [Sem.run_bind]
    exact (congrArg (fun r : Result (Array Value) => r.andThen fun a w' => Sem.run P (pure (if h : a.size = 1 then a[0] else Value.tuple a)) w') hrun).trans rfl
  · cases h2 with
    | nil => simp [aret]; exact .tuple [] [] .nil
    | cons hv h2 =>
      cases h2 with
      | nil => simpa [aret] using hv
      | cons hv2 h2 =>
        simp [aret]
        exact .tuple _ _ (.cons hv (.cons hv2 h2))

/-! ### Calls -/
structure Sound (P : Program) (w0 : World) (B : Nat → Bool) (A : AProg) : Prop where
  mix : P.follows .mixedOrders = true
  fn : ∀ f x, A.fn f = some x → cfn P f = some x
  ext : ∀ f g, A.ext f = some g → CallSound P w0 B (fun f' args H => if f' = f then g args H else none)

theorem init_rel {args : List AVal} {args' : List Value} (h : All2 (VRel m) args args') (nt : Nat) : ERel m nt (ainit args) { tmps := args'.toArray ++ Array.replicate (nt - args'.length) undef, defers := [] } := by
  have hlen := forall2_length h
  refine ⟨by simp; omega, fun t ht => ?_⟩
  simp only [ainit, Act.eval]
  by_cases hlt : t < args.length
  · have hx := List.getElem?_eq_getElem hlt
    obtain ⟨v, hv, hr⟩ := forall2_get h t _ hx
    have : (args'.toArray ++ Array.replicate (nt - args'.length) undef).getD t undef = v := by
      rw [Array.getD_eq_getD_getElem?, Array.getElem?_append_left (by simp; omega)]
      simp [hv]
    rw [this, List.getD_eq_getElem?_getD, hx]
    exact hr
  · have : (args'.toArray ++ Array.replicate (nt - args'.length) undef).getD t undef = undef := by
      rw [Array.getD_eq_getD_getElem?, Array.getElem?_append_right (by simp; omega)]
      rw [Array.getElem?_replicate]
      split <;> rfl
    rw [this, List.getD_eq_getElem?_getD, List.getElem?_eq_none (by omega)]
    exact undef_rel m

theorem sound_run {k : Nat} {call : ACall} (hcs : ∀ w0 B, CallSound P w0 B call) (hmix : P.follows .mixedOrders = true) {f : FuncId} {x : Option AFn} (hx : ∀ y, x = some y → cfn P f = some y) {args : List AVal} {v : AVal} {H' : AHeap}
    (h : arun call k x args H = some (v, H')) : Enters P f ∧ Up H H' ∧ ∀ m w args', m.full → SRel w0 B m H w → All2 (VRel m) args args' →
    Calls P f args'.toArray w fun e w' => ∃ v' m', e = .returned v' ∧ m.le m' ∧ SRel w0 B m' H' w' ∧ VRel m' v v' := by
  have hup := arun_up (callSound_up (hcs w0 B)) h
  simp only [arun, Option.bind_eq_some_iff] at h
  obtain ⟨fn, hfn, r, hr, he⟩ := h
  have hc := hx fn hfn
  simp only [cfn, Option.bind_eq_some_iff] at hc
  obtain ⟨F, hF, hc⟩ := hc
  split at hc
  · simp at hc
  · rename_i hname
    simp only [Option.bind_eq_some_iff, Option.map_eq_some_iff] at hc
    obtain ⟨body, hbody, ab, hab, rs, hrs, rfl⟩ := hc
    refine ⟨⟨F, hF, by simpa using hname, by rw [hbody]; rfl⟩, hup, ?_⟩
    intro m w args' _ hS hargs
    refine calls_of_wp hF hbody ?_
    have hE := init_rel hargs F.ntmps
    refine sound_code hcs hmix body ab hab _ H r hr m _ w (by simpa using hE) hS _ ?_
    intro a' w' m' hm hS' hE' hd
    obtain ⟨ex, env', H1⟩ := r
    cases ex with
    | exit id => simp [aend] at he
    | normal =>
      simp only [aend, Option.map_eq_some_iff, Prod.mk.injEq] at he
      obtain ⟨vs, hvs, rfl, rfl⟩ := he
      obtain ⟨v', hv', hvr⟩ := sound_results hS' hE' hrs hvs
      exact ⟨hd, v', hv', v', m', rfl, hm, hS', hvr⟩
    | ret =>
      simp only [aend, Option.map_eq_some_iff, Prod.mk.injEq] at he
      obtain ⟨vs, hvs, rfl, rfl⟩ := he
      obtain ⟨v', hv', hvr⟩ := sound_results hS' hE' hrs hvs
      exact ⟨hd, v', hv', v', m', rfl, hm, hS', hvr⟩

theorem gcX_some {n : Nat} {H : AHeap} {x : Option (AVal × AHeap)} {v : AVal} {H1 : AHeap} (h : gcX n H x = some (v, H1)) : ∃ u K, x = some (u, K) ∧ v = (gc n H u K).1 ∧ H1 = (gc n H u K).2 := by
  unfold gcX at h
  split at h
  · cases h
  · rename_i u K
    simp only [Option.some.injEq] at h
    exact ⟨u, K, rfl, by rw [h], by rw [h]⟩

theorem sound_call {A : AProg} : ∀ k w0 B, (∀ w0 B, Sound P w0 B A) → CallSound P w0 B (acall A k) := by
  intro k
  induction k with
  | zero => intro w0 B hA f args H v H' h; simp [acall] at h
  | succ k ih =>
    intro w0 B hA f args H v H' h
    simp only [acall] at h
    split at h
    · rename_i g hg
      have := (hA w0 B).ext f g hg f args H v H' (by simpa using h)
      exact this
    · split at h
      · exact sound_run (fun w0 B => ih w0 B hA) (hA w0 B).mix ((hA w0 B).fn f) h
      · split at h
        · rename_i hp
          obtain ⟨u, K, h1, rfl, rfl⟩ := gcX_some h
          refine ⟨(sound_run (w0 := w0) (B := B) (fun w0 B => ih w0 B hA) (hA w0 B).mix ((hA w0 B).fn f) h1).1, gc_up _ _ _ _, ?_⟩
          intro m w args' _ hS hargs
          obtain ⟨_, _, hcall⟩ := sound_run (w0 := w) (B := lowK w.heap.size) (fun w0 B => ih w0 B hA) (hA w0 B).mix ((hA w0 B).fn f) h1
          have hc := hcall _ _ args' (fun _ => rfl) (srel_none w) (forall2_imp_mem hargs fun x y hx hxy => VRel.plain x y (plains_mem hp hx) hxy)
          refine hc.mono fun e w' ⟨v', m', he, _, hS', hv'⟩ => ?_
          obtain ⟨m1, h2, h3, h4⟩ := gc_sound (n := 0) hS (fun i hi => by omega) (Nat.zero_le _) hS' hv'
          exact ⟨v', m1, he, h2, h3, h4⟩
        · cases h
      · obtain ⟨u, K, h1, rfl, rfl⟩ := gcX_some h
        refine ⟨(sound_run (w0 := w0) (B := B) (fun w0 B => ih w0 B hA) (hA w0 B).mix ((hA w0 B).fn f) h1).1, gc_up _ _ _ _, ?_⟩
        intro m w args' hfull hS hargs
        obtain ⟨_, _, hcall⟩ := sound_run (w0 := w) (B := lowK w.heap.size) (fun w0 B => ih w0 B hA) (hA w0 B).mix ((hA w0 B).fn f) h1
        have hc := hcall _ _ args' hfull (srel_frz hS) hargs
        refine hc.mono fun e w' ⟨v', m', he, hm, hS', hv'⟩ => ?_
        have hn := hS.next
        obtain ⟨m1, h2, h3, h4⟩ := gc_sound (n := H.next) hS (fun i hi => ⟨hfull.has (by omega), (hm.2 i (hfull.has (by omega))).2⟩) (by have := hm.1; omega) hS' hv'
        exact ⟨v', m1, he, h2, h3, h4⟩

end Go.Proofs.Ytfpbmoiconopcaa.Am
