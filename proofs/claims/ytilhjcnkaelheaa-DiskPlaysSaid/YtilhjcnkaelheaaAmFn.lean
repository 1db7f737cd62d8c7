/- What the abstract machine answers, the model's machine does: code, functions, calls. -/
import Derived.Test.YtilhjcnkaelheaaAmRange
import Derived.LoopN
set_option linter.unusedSimpArgs false
set_option linter.unusedVariables false
namespace Go.Proofs.Ytilhjcnkaelheaa.Am
open Go Go.RowKit

variable {P : Program} {w0 w : World} {B : Nat → Bool} {m : Inj} {H H' : AHeap} {nt : Nat} {env : Env} {a : Act}

/-! ### Results -/
theorem cres_run (hS : SRel w0 B m H w) (hE : ERel m nt env a) : ∀ {l : List ResultVar} {r : List ARes} {vs : List AVal}, cres P nt l = some r → aress H env r = some vs →
    ∃ vs', (l.mapM (fun x => match x with
      | .tmp t => pure (a.tmps.getD t undef)
      | .cell ad t => do loadVar t (← asAddr (a.tmps.getD ad undef)) : ResultVar → Sem Value)).run P w = .ok vs' w ∧ All2 (VRel m) vs vs'
  | [], r, vs, hc, h => by
    simp [cres] at hc; subst hc
    simp [aress] at h; subst h
    exact ⟨[], rfl, .nil⟩
  | .tmp t :: l, r, vs, hc, h => by
    simp only [cres] at hc
    split at hc
    · rename_i ht
      simp only [Option.map_eq_some_iff] at hc
      obtain ⟨r', hr, rfl⟩ := hc
      simp only [aress, Option.map_eq_some_iff] at h
      obtain ⟨vs1, hvs, rfl⟩ := h
      obtain ⟨vs', h1, h2⟩ := cres_run hS hE hr hvs
      refine ⟨_, ?_, .cons (hE.rel t ht) h2⟩
      simp only [List.mapM_cons, Sem.run_bind, Sem.run_pure, Result.andThen_ok, h1]
      rfl
    · simp at hc
  | .cell ad t :: l, r, vs, hc, h => by
    simp only [cres] at hc
    split at hc
    · rename_i ht
      simp only [Option.bind_eq_some_iff, Option.map_eq_some_iff] at hc
      obtain ⟨g, hg, n, hn, r', hr, rfl⟩ := hc
      simp only [aress, Option.bind_eq_some_iff, Option.map_eq_some_iff] at h
      obtain ⟨v, hv, vs1, hvs, rfl⟩ := h
      obtain ⟨vs', h1, h2⟩ := cres_run hS hE hr hvs
      have hr := hE.rel ad ht
      generalize hx : env ad = x at hr hv
      simp only [Act.eval] at hr
      generalize hx' : a.tmps.getD ad undef = x' at hr
      cases hr with
      | ptr id off hid =>
        obtain ⟨v', hv', hvr⟩ := s_loadVar (P := P) hS hg hn hv
        refine ⟨v' :: vs', ?_, .cons hvr h2⟩
        have e1 : (asAddr (a.tmps.getD ad undef)).run P w = .ok ⟨(m.loc id).block, (m.loc id).off + off, none⟩ w := by rw [hx']; rfl
        simp only [List.mapM_cons, Sem.run_bind, e1, Sem.run_pure, Result.andThen_ok, hv', h1]
      | _ => simp [aload] at hv
    · simp at hc

theorem sound_results (hS : SRel w0 B m H w) (hE : ERel m nt env a) {fn : Func} {r : List ARes} {vs : List AVal} (hc : cres P nt fn.results.toList = some r) (h : aress H env r = some vs) :
    ∃ v', (results fn a.tmps).run P w = .ok v' w ∧ VRel m (aret vs) v' := by
  obtain ⟨vs', h1, h2⟩ := cres_run hS hE hc h
  have hrun : (fn.results.mapM (fun x => match x with
      | .tmp t => pure (a.tmps.getD t undef)
      | .cell ad t => do loadVar t (← asAddr (a.tmps.getD ad undef)) : ResultVar → Sem Value)).run P w = .ok vs'.toArray w := by
    rw [Array.mapM_eq_mapM_toList]
    simp only [map_eq_pure_bind, Sem.run_bind, h1, Result.andThen_ok, Sem.run_pure]
  have hlen := forall2_length h2
  refine ⟨if h : vs'.toArray.size = 1 then vs'.toArray[0] else .tuple vs'.toArray, ?_, ?_⟩
  · unfold results
    simp only [Sem.run_bind]
    exact (congrArg (fun r : Result (Array Value) => r.andThen fun a w' => Sem.run P (pure (if h : a.size = 1 then a[0] else Value.tuple a)) w') hrun).trans rfl
  · cases h2 with
    | nil => simp [aret]; exact .tuple [] [] .nil
    | cons hv h2 =>
      cases h2 with
      | nil => simpa [aret] using hv
      | cons hv2 h2 =>
        simp [aret]
        exact .tuple _ _ (.cons hv (.cons hv2 h2))


/-- The marks of an activation's ranges over functions. -/
def Marks (w w' : World) (df ds : List Deferred) : Prop :=
  ∃ ms : List Nat, ds = ms.map (fun d => (⟨.collected d, #[]⟩ : Deferred)) ++ df ∧ ms.Nodup ∧ ∀ d, d ∈ ms → w.heap.size ≤ d ∧ w'.heap[d]? = some (.deferred (some []))
theorem Marks.nil (w w' : World) (df : List Deferred) : Marks w w' df df := ⟨[], rfl, List.nodup_nil, fun d h => by cases h⟩
theorem Marks.of_eq {w w' : World} {df ds : List Deferred} (h : ds = df) : Marks w w' df ds := h ▸ Marks.nil _ _ _

theorem SRel.upon {w1 : World} {m1 : Inj} {H1 : AHeap} {df d1 : List Deferred} (h0 : SRel w B m H w) (hS : SRel w B m1 H1 w1) (hk : Marks w w1 df d1) :
    ∃ B', SRel w1 B' m1 H1 w1 ∧ ∀ m2 H2 w2 d2, SRel w1 B' m2 H2 w2 → Marks w1 w2 d1 d2 → SRel w B m2 H2 w2 ∧ Marks w w2 df d2 := by
  obtain ⟨ms, rfl, hnd, hms⟩ := hk
  refine ⟨fun k => B k || ms.contains k, hS.other fun k hk => ?_, fun m2 H2 w2 d2 h2 hk2 => ⟨hS.back h2 fun k hk => by simp [hk], ?_⟩⟩
  · simp only [Bool.or_eq_true, List.contains_iff_mem] at hk
    rcases hk with hk | hk
    · exact ⟨Nat.lt_of_lt_of_le (hS.size k hk) hS.below.size, .inl hk⟩
    · have h1 := (hms k hk).2
      exact ⟨(Array.getElem?_eq_some_iff.1 h1).1, .inr fun c e fz h => by rw [h1] at h; cases h⟩
  · obtain ⟨ms2, rfl, hnd2, hms2⟩ := hk2
    refine ⟨ms2 ++ ms, by simp, ?_, fun d hd => ?_⟩
    · rw [List.nodup_append]
      refine ⟨hnd2, hnd, fun x hx y hy => ?_⟩
      have h1 := (hms2 x hx).1
      have h2 := (Array.getElem?_eq_some_iff.1 (hms y hy).2).1
      omega
    · rcases List.mem_append.1 hd with hd | hd
      · exact ⟨Nat.le_trans hS.below.size (hms2 d hd).1, (hms2 d hd).2⟩
      · refine ⟨(hms d hd).1, ?_⟩
        rw [h2.below.block d (by simp [hd])]
        exact (hms d hd).2

/-- What is to be shown of a way out. -/
def Out (w : World) (B : Nat → Bool) (m : Inj) (nt : Nat) (df : List Deferred) (r : AExit × Env × AHeap) (Q : Exit → Act → World → Prop) : Prop :=
  ∀ a' w' m', m.le m' → SRel w B m' r.2.2 w' → ERel m' nt r.2.1 a' → Marks w w' df a'.defers → Q (cexit r.1) a' w'

theorem dead_none {call : ACall} {it : FuncId → Option AFn} {n : Nat} {env : Env} {H : AHeap} {r : AExit × Env × AHeap} : ¬ aexec call it n dead env H = some r := by
  simp [aexec, dead, aops, agd, ado, aop]

theorem SRel.lay (hS : SRel w0 B m H w) (o : Obj) : SRel w0 B m H (w.alloc o) :=
  hS.stays (Keep.below (Keep.alloc (Keep.refl (lowK w.heap.size) w) (by simp [lowK]) o))

theorem setps_rel : ∀ {ps : List Nat} {args : List AVal} {args' : List Value} {env : Env} {tmps : Array Value} {df : List Deferred}, (∀ p, p ∈ ps → p < nt) → All2 (VRel m) args args' → ERel m nt env { tmps := tmps, defers := df } →
    ERel m nt (setps env ps args) { tmps := (ps.zip args').foldl (fun tmps (t, a) => tmps.setIfInBounds t a) tmps, defers := df }
  | [], args, args', env, tmps, df, hp, hr, hE => by simpa [setps] using hE
  | p :: ps, _, _, env, tmps, df, hp, .nil, hE => by simpa [setps] using hE
  | p :: ps, v :: vs, v' :: vs', env, tmps, df, hp, .cons hv hr, hE => by
    simp only [setps, List.zip_cons_cons, List.foldl_cons]
    refine setps_rel (fun q hq => hp q (by simp [hq])) hr ?_
    have := hE.put (dst := some p) (by simp [cdst, hp p (by simp)]) hv
    exact this

theorem cres_nil {nt : Nat} {l : List ResultVar} (h : cres P nt l = some []) : l = [] := by
  cases l with
  | nil => rfl
  | cons x l =>
    cases x with
    | tmp t =>
      simp only [cres] at h
      split at h
      · simp at h
      · cases h
    | cell t u =>
      simp only [cres] at h
      split at h
      · simp [Option.bind_eq_some_iff] at h
      · cases h

theorem cfn_spec {f : FuncId} {fn : AFn} (hc : cfn P f = some fn) : ∃ F body, P.funcs[f]? = some F ∧ (F.name == "runtime.NumGoroutine") = false ∧ F.body = some body ∧ ccode P F.ntmps true body = some fn.body ∧ cres P F.ntmps F.results.toList = some fn.results := by
  simp only [cfn, Option.bind_eq_some_iff] at hc
  obtain ⟨F, hF, hc⟩ := hc
  split at hc
  · simp at hc
  · rename_i hname
    simp only [Option.bind_eq_some_iff, Option.map_eq_some_iff] at hc
    obtain ⟨body, hbody, ab, hab, rs, hrs, rfl⟩ := hc
    exact ⟨F, body, hF, by simpa using hname, hbody, hab, hrs⟩

theorem enters_of {f : FuncId} {fn : AFn} (hc : cfn P f = some fn) : Enters P f := by
  obtain ⟨F, body, h1, h2, h3, _⟩ := cfn_spec hc
  exact ⟨F, h1, h2, by rw [h3]; rfl⟩

/-- One round of a range over a function. -/
theorem sound_yield {fa fb : ARun} {ps : Array Tmp} {x y : Code} {l d : Nat} {R : Loop} (hBl : B l = false) (hBd : B d = false) (hR0 : R.tmps = a.tmps ∧ R.params = ps ∧ R.assign = x ∧ R.body = y) (hps : ∀ p, p ∈ ps.toList → p < nt) (hE : ERel m nt env a)
    (hfa : ∀ (env : Env) (H : AHeap) (r : AExit × Env × AHeap), fa env H = some r → ∀ (nn : Nat) (B : Nat → Bool) (m : Inj) (a : Act) (w : World), ERel m nt env a → SRel w B m H w → ∀ Q, Out w B m nt a.defers r Q → x.wpIn (FW (some l)) nn P Q a w)
    (hfb : ∀ (env : Env) (H : AHeap) (r : AExit × Env × AHeap), fb env H = some r → ∀ (nn : Nat) (B : Nat → Bool) (m : Inj) (a : Act) (w : World), ERel m nt env a → SRel w B m H w → ∀ Q, Out w B m nt a.defers r Q → y.wpIn (FW (some l)) nn P Q a w) :
    YSound P B l d R m (ayield fa fb ps.toList env) := by
  obtain ⟨e1, rfl, rfl, rfl⟩ := hR0
  intro st args H b st' H' h nn m1 w args' hm hS hR hargs
  simp only [ayield] at h
  split at h
  · rename_i hc
    obtain ⟨hst, hlen⟩ := hc
    have hst : st = none := by simpa using hst
    subst hst
    simp only [Option.bind_eq_some_iff] at h
    obtain ⟨⟨ex1, env1, H1⟩, ha, h⟩ := h
    cases ex1 with
    | exit _ => cases h
    | ret => cases h
    | normal =>
    simp only [Option.map_eq_some_iff] at h
    obtain ⟨⟨ex2, env2, H2⟩, hb, h⟩ := h
    have hlen' := forall2_length hargs
    refine ⟨by simp only [Array.length_toList] at hlen; omega, ?_⟩
    refine roundIn_of_wpIn trivial ?_
    have hE1 : ERel m1 nt (setps env R.params.toList args) { tmps := (R.params.zip args'.toArray).foldl (fun tmps (t, a) => tmps.setIfInBounds t a) R.tmps, defers := [] } := by
      have := setps_rel (df := []) (tmps := a.tmps) hps hargs (⟨(hE.mono hm).size, (hE.mono hm).rel⟩)
      rw [e1]
      have e : (Array.foldl (fun (tmps : Array Value) (x : Tmp × Value) => match x with | (t, a) => tmps.setIfInBounds t a) a.tmps (R.params.zip args'.toArray)) = (R.params.toList.zip args').foldl (fun tmps (t, a) => tmps.setIfInBounds t a) a.tmps := by
        rw [← Array.foldl_toList]
        simp
      rw [e]
      exact this
    refine hfa _ _ _ ha nn (B1 B l d) m1 _ w hE1 (hS.recd hR) _ ?_
    intro a2 w2 m2 hm2 hS2 hE2 _
    have hR2 := hR.keep hS2.below
    have hl2 : w2.heap[l]? = some (.loop { R with state := .ready, pending := none }) := hR2.1
    obtain ⟨hlt, hdt, hne⟩ := hR2.lt
    show ∃ w3, _
    refine ⟨_, run_beginRound hl2 rfl, ?_⟩
    have hS2' : SRel w B m2 H1 (w2.putObj l (.loop { R with state := .busy, pending := none })) := (hS.back hS2 (B1_le _ _ _)).put hl2 (by intro c e fz h; cases h) hBl _
    have hl3 : (w2.putObj l (.loop { R with state := .busy, pending := none })).heap[l]? = some (.loop { R with state := .busy, pending := none }) := World.putObj_heap_same hlt
    have hd3 : (w2.putObj l (.loop { R with state := .busy, pending := none })).heap[d]? = some (.deferred (some [])) := by rw [World.putObj_heap_other (Ne.symm hne)]; exact hR2.2
    have hS3 : SRel (w2.putObj l (.loop { R with state := .busy, pending := none })) (B1 B l d) m2 H1 (w2.putObj l (.loop { R with state := .busy, pending := none })) := by
      refine hS2'.other fun k hk => ?_
      simp only [B1, Bool.or_eq_true, beq_iff_eq] at hk
      rcases hk with (hk | rfl) | rfl
      · exact ⟨Nat.lt_of_lt_of_le (hS2'.size k hk) hS2'.below.size, .inl hk⟩
      · exact ⟨by simpa using hlt, .inr fun c e fz h => by rw [hl3] at h; cases h⟩
      · exact ⟨by simpa using hdt, .inr fun c e fz h => by rw [hd3] at h; cases h⟩
    refine hfb _ _ _ hb nn (B1 B l d) m2 _ _ hE2 hS3 _ ?_
    intro a4 w4 m4 hm4 hS4 hE4 _
    have hl4 : w4.heap[l]? = some (.loop { R with state := .busy, pending := none }) := by rw [hS4.below.block l (by simp [B1])]; exact hl3
    have hd4 : w4.heap[d]? = some (.deferred (some [])) := by rw [hS4.below.block d (by simp [B1])]; exact hd3
    have hS4' : SRel w B m4 H2 w4 := hS2'.back hS4 (B1_le _ _ _)
    have hlt4 : l < w4.heap.size := (Array.getElem?_eq_some_iff.1 hl4).1
    have fin : ∀ st2 : APend, (Instr.endRound l (st2.map jcode)).run P w4 = .ok (.bool st2.isNone) (w4.putObj l (.loop { R with state := if st2.isNone then .ready else .done, pending := st2.map jcode })) ∧
        SRel w B m4 H2 (w4.putObj l (.loop { R with state := if st2.isNone then .ready else .done, pending := st2.map jcode })) ∧ RecAt (w4.putObj l (.loop { R with state := if st2.isNone then .ready else .done, pending := st2.map jcode })) l d R st2 := by
      intro st2
      refine ⟨?_, hS4'.put hl4 (by intro c e fz h; cases h) hBl _, World.putObj_heap_same hlt4, by rw [World.putObj_heap_other (Ne.symm hne)]; exact hd4⟩
      have := run_endRound (P := P) (st2.map jcode) hl4
      cases st2 <;> exact this
    cases ex2 with
    | normal =>
      simp only [Prod.mk.injEq] at h
      obtain ⟨rfl, rfl, rfl⟩ := h
      obtain ⟨f1, f2, f3⟩ := fin none
      exact ⟨_, _, f1, m4, rfl, Inj.le_trans hm2 hm4, f2, f3⟩
    | exit id =>
      simp only [Prod.mk.injEq] at h
      obtain ⟨rfl, rfl, rfl⟩ := h
      obtain ⟨f1, f2, f3⟩ := fin (some (.exit id))
      exact ⟨_, _, f1, m4, rfl, Inj.le_trans hm2 hm4, f2, f3⟩
    | ret =>
      simp only [Prod.mk.injEq] at h
      obtain ⟨rfl, rfl, rfl⟩ := h
      obtain ⟨f1, f2, f3⟩ := fin (some .ret)
      exact ⟨_, _, f1, m4, rfl, Inj.le_trans hm2 hm4, f2, f3⟩
  · cases h

theorem init_rel {args : List AVal} {args' : List Value} (h : All2 (VRel m) args args') (nt : Nat) : ERel m nt (ainit args) { tmps := args'.toArray ++ Array.replicate (nt - args'.length) undef, defers := [] } := by
  have hlen := forall2_length h
  refine ⟨by simp; omega, fun t ht => ?_⟩
  simp only [ainit, Act.eval]
  by_cases hlt : t < args.length
  · have hx := List.getElem?_eq_getElem hlt
    obtain ⟨v, hv, hr⟩ := forall2_get h t _ hx
    have : (args'.toArray ++ Array.replicate (nt - args'.length) undef).getD t undef = v := by
      rw [Array.getD_eq_getD_getElem?, Array.getElem?_append_left (by simp; omega)]
      simp [hv]
    rw [this, List.getD_eq_getElem?_getD, hx]
    exact hr
  · have : (args'.toArray ++ Array.replicate (nt - args'.length) undef).getD t undef = undef := by
      rw [Array.getD_eq_getD_getElem?, Array.getElem?_append_right (by simp; omega)]
      rw [Array.getElem?_replicate]
      split <;> rfl
    rw [this, List.getD_eq_getElem?_getD, List.getElem?_eq_none (by omega)]
    exact undef_rel m

theorem sound_code {call : ACall} (hcs : ∀ w0 B, CallSound P w0 B call) (hmix : P.follows .mixedOrders = true) {it : FuncId → Option AFn} (hit : ∀ g x, it g = some x → cfn P g = some x) {n : Nat} : ∀ (c : Code) (rok : Bool) (ac : ACode), ccode P nt rok c = some ac → ∀ (r : Option Nat), (rok = true → r = none) →
    ∀ (env : Env) (H : AHeap) (res : AExit × Env × AHeap), aexec call it n ac env H = some res →
    ∀ (nn : Nat) (B : Nat → Bool) (m : Inj) (a : Act) (w : World), ERel m nt env a → SRel w B m H w → ∀ Q, Out w B m nt a.defers res Q → c.wpIn (FW r) nn P Q a w := by
  intro c
  induction c with
  | skip =>
    intro rok ac hc rd hrd env H r h nn B m a w hE hS Q hQ
    simp [ccode] at hc; subst hc
    simp [aexec] at h; subst h
    exact wpIn_skip (hQ a w m m.le_refl hS hE (.nil _ _ _))
  | region id ops draw =>
    intro rok ac hc rd hrd env H r h nn B m a w hE hS Q hQ
    cases draw with
    | false =>
      simp only [ccode, Option.some.injEq] at hc
      subst hc
      cases hal : copers P ops nt ops.toList with
      | none => rw [hal] at h; exact absurd h dead_none
      | some al =>
      rw [hal] at h
      simp only [Option.map_some, Option.getD_some] at h
      simp only [aexec, Option.map_eq_some_iff] at h
      obtain ⟨⟨env', H'⟩, h, rfl⟩ := h
      refine wpIn_region ?_
      have := sound_aops (Q := Q) (r := rd) (nn := nn) (hcs w B) ops.toList al 0 env H m a w env' H' hal (by intro j; simp) hE hS h (fun a' w' m' h1 h2 h3 h4 => hQ a' w' m' h1 h2 h3 (.of_eq h4))
      rw [List.range_eq_range']
      simpa using this
    | true =>
      simp only [ccode, Option.some.injEq] at hc
      subst hc
      cases hal : copers P ops nt ops.toList with
      | none => rw [hal] at h; exact absurd h dead_none
      | some al =>
      rw [hal] at h
      simp only [Option.bind_some] at h
      cases hc : drawOf ops al (CheckFast.beforeF ops).toList with
      | none => rw [hc] at h; exact absurd h dead_none
      | some c =>
      rw [hc] at h
      simp only [Option.getD_some] at h
      obtain ⟨al', b, rfl, R⟩ := region1_of hal hc
      simp only [aexec, Option.map_eq_some_iff] at h
      obtain ⟨⟨env', H'⟩, h, rfl⟩ := h
      exact sound_draw hcs hmix R hE hS h (fun a' w' m' h1 h2 h3 h4 => hQ a' w' m' h1 h2 h3 (.of_eq h4)) id rd nn
  | seq x y ihx ihy =>
    intro rok ac hc rd hrd env H r h nn B m a w hE hS Q hQ
    simp only [ccode, Option.bind_eq_some_iff, Option.map_eq_some_iff] at hc
    obtain ⟨ax, hax, ay, hay, rfl⟩ := hc
    simp only [aexec, Option.bind_eq_some_iff] at h
    obtain ⟨⟨ex, env1, H1⟩, hx, h⟩ := h
    refine wpIn_seq (ihx rok ax hax rd hrd env H _ hx nn B m a w hE hS _ ?_)
    intro a1 w1 m1 hm1 hS1 hE1 hd1
    cases ex with
    | normal =>
      obtain ⟨B', hS1', hback⟩ := hS.upon hS1 hd1
      refine ihy rok ay hay rd hrd env1 H1 r h nn B' m1 a1 w1 hE1 hS1' Q (fun a' w' m' h1 h2 h3 h4 => ?_)
      obtain ⟨k1, k2⟩ := hback _ _ _ _ h2 h4
      exact hQ a' w' m' (Inj.le_trans hm1 h1) k1 h3 k2
    | exit id => simp at h; subst h; exact hQ a1 w1 m1 hm1 hS1 hE1 hd1
    | ret => simp at h; subst h; exact hQ a1 w1 m1 hm1 hS1 hE1 hd1
  | cond c x y ihx ihy =>
    intro rok ac hc rd hrd env H r h nn B m a w hE hS Q hQ
    cases hc' : copd nt c with
    | none =>
      simp only [ccode, hc', Option.some.injEq] at hc
      subst hc
      exact absurd h dead_none
    | some c' =>
    simp only [ccode, hc', Option.bind_eq_some_iff, Option.map_eq_some_iff] at hc
    obtain ⟨ax, hax, ay, hay, rfl⟩ := hc
    simp only [aexec] at h
    have hcr := copd_rel hE hc'
    split at h
    · rename_i t ht
      rw [ht] at hcr
      generalize hcv : a.eval c = cv at hcr
      cases hcr
      cases t with
      | true => simp at h; exact wpIn_cond_true hcv (ihx rok ax hax rd hrd env H r h nn B m a w hE hS Q hQ)
      | false => simp at h; exact wpIn_cond_false hcv (ihy rok ay hay rd hrd env H r h nn B m a w hE hS Q hQ)
    · simp at h
  | block id x ih =>
    intro rok ac hc rd hrd env H r h nn B m a w hE hS Q hQ
    simp only [ccode, Option.map_eq_some_iff] at hc
    obtain ⟨ax, hax, rfl⟩ := hc
    simp only [aexec, Option.map_eq_some_iff] at h
    obtain ⟨⟨ex, env1, H1⟩, hx, h⟩ := h
    refine wpIn_block (ih rok ax hax rd hrd env H _ hx nn B m a w hE hS _ ?_)
    intro a1 w1 m1 hm1 hS1 hE1 hd1
    cases ex with
    | normal => simp at h; subst h; exact hQ a1 w1 m1 hm1 hS1 hE1 hd1
    | exit i =>
      simp only at h
      simp only [cexit, Exit.inBlock]
      split at h
      · rename_i hi
        subst h
        rw [if_pos hi]; exact hQ a1 w1 m1 hm1 hS1 hE1 hd1
      · rename_i hi
        subst h
        rw [if_neg hi]; exact hQ a1 w1 m1 hm1 hS1 hE1 hd1
    | ret => simp at h; subst h; exact hQ a1 w1 m1 hm1 hS1 hE1 hd1
  | loop x ih =>
    intro rok ac hc rd hrd env H r h nn B m a w hE hS Q hQ
    simp only [ccode, Option.map_eq_some_iff] at hc
    obtain ⟨ax, hax, rfl⟩ := hc
    simp only [aexec] at h
    have key : ∀ (k : Nat) (env : Env) (H : AHeap), aiter (aexec call it n ax) k env H = some r → ∀ (B : Nat → Bool) (m : Inj) (a : Act) (w : World), ERel m nt env a → SRel w B m H w → Out w B m nt a.defers r Q → Code.roundsIn (FW rd) nn P x Q k a w := by
      intro k
      induction k with
      | zero => intro env H h; simp [aiter] at h
      | succ k ihk =>
        intro env H h B m a w hE hS hQ
        simp only [aiter, Option.bind_eq_some_iff] at h
        obtain ⟨⟨ex, env1, H1⟩, hx, h⟩ := h
        rw [roundsIn_succ]
        refine ih rok ax hax rd hrd env H _ hx nn B m a w hE hS _ ?_
        intro a1 w1 m1 hm1 hS1 hE1 hd1
        cases ex with
        | normal =>
          obtain ⟨B', hS1', hback⟩ := hS.upon hS1 hd1
          refine ihk env1 H1 h B' m1 a1 w1 hE1 hS1' (fun a' w' m' h1 h2 h3 h4 => ?_)
          obtain ⟨k1, k2⟩ := hback _ _ _ _ h2 h4
          exact hQ a' w' m' (Inj.le_trans hm1 h1) k1 h3 k2
        | exit id => simp at h; subst h; exact hQ a1 w1 m1 hm1 hS1 hE1 hd1
        | ret => simp at h; subst h; exact hQ a1 w1 m1 hm1 hS1 hE1 hd1
    exact wpIn_loop_rounds n (key n env H h B m a w hE hS hQ)
  | exit id =>
    intro rok ac hc rd hrd env H r h nn B m a w hE hS Q hQ
    simp [ccode] at hc; subst hc
    simp [aexec] at h; subst h
    exact wpIn_exit (hQ a w m m.le_refl hS hE (.nil _ _ _))
  | ret =>
    intro rok ac hc rd hrd env H r h nn B m a w hE hS Q hQ
    simp [ccode] at hc; subst hc
    simp [aexec] at h; subst h
    exact wpIn_ret (hQ a w m m.le_refl hS hE (.nil _ _ _))
  | rangeFunc g ps x y ihx ihy =>
    intro rok ac hc rd hrd env H r h nn B m a w hE hS Q hQ
    simp only [ccode] at hc
    split at hc
    · rename_i hcond
      obtain ⟨hrok, hps⟩ := hcond
      have hrn := hrd hrok
      subst hrn
      cases hg : copd nt g with
      | none => rw [hg] at hc; simp only [Option.some.injEq] at hc; subst hc; exact absurd h dead_none
      | some f =>
      rw [hg] at hc
      simp only [Option.bind_eq_some_iff, Option.map_eq_some_iff] at hc
      obtain ⟨ax, hax, ay, hay, rfl⟩ := hc
      have hps' : ∀ p, p ∈ ps.toList → p < nt := by
        intro p hp
        rw [List.all_eq_true] at hps
        simpa using hps p hp
      simp only [aexec] at h
      have hfr := copd_rel hE hg
      unfold arange at h
      split at h
      · rename_i gid first captured hf
        rw [hf] at hfr
        generalize hfv : a.eval g = fv at hfr
        simp only [Option.bind_eq_some_iff] at h
        obtain ⟨fn, hfn, h⟩ := h
        split at h
        · rename_i hres
          simp only [Option.bind_eq_some_iff] at h
          obtain ⟨⟨ex, st, env1, H1⟩, hx, h⟩ := h
          have hcf := hit _ _ hfn
          obtain ⟨F, body, hF, hname, hbody, hcb, hcr⟩ := cfn_spec hcf
          have hen := enters_of hcf
          have hrs : F.results.toList = [] := by
            have : fn.results = [] := by simpa using hres
            rw [this] at hcr
            exact cres_nil hcr
          cases hfr with
          | func _ _ _ first' captured' h1 h2 =>
            refine wpIn_rangeFunc ?_
            intro fno _
            have hres1 : ∀ w1 : World, (resolve a.eval (rangeCall g (w.heap.size + 1)) 0).run P w1 = .ok ⟨.fn (.func gid) captured'.toArray, first'.toArray ++ #[Value.func (.yield (w.heap.size + 1)) #[] #[]]⟩ w1 := by
              intro w1
              simp only [resolve, rangeCall, hfv, Deferred.ofValue, Sem.run_pure]
              simp [Act.eval]
            have hinv : ∀ w1 : World, (invoke (.fn (.func gid) captured'.toArray) (first'.toArray ++ #[Value.func (.yield (w.heap.size + 1)) #[] #[]])).run P w1 = .ok (.enter gid (first' ++ [Value.func (.yield (w.heap.size + 1)) #[] #[]] ++ captured').toArray) w1 := by
              intro w1
              simp only [invoke]
              rw [run_callFunc hen]
              congr 2
              apply Array.ext'
              simp
            refine ⟨w.heap.size + 1, _, _, _, _, gid, _, _, run_enterLoop_outer _ _ _ _ _, hres1 _, fun _ _ => trivial, hinv _, fun h => (by cases h), ?_⟩
            have hBl : B (w.heap.size + 1) = false := by
              cases hb : B (w.heap.size + 1) with
              | false => rfl
              | true => have := hS.size _ hb; have := hS.below.size; omega
            have hBd : B w.heap.size = false := hS.free
            generalize hw1 : (w.alloc (.deferred (some []))).alloc (.loop { state := .ready, pending := none, fn := fno, tmps := a.tmps, params := ps, assign := x, body := y, defers := w.heap.size }) = w1
            have hsz1 : (w.alloc (.deferred (some []))).heap.size = w.heap.size + 1 := World.size_alloc _ _
            have hR1 : RecAt w1 (w.heap.size + 1) w.heap.size { state := .ready, pending := none, fn := fno, tmps := a.tmps, params := ps, assign := x, body := y, defers := w.heap.size } none := by
              rw [← hw1]
              constructor
              · have := World.alloc_heap_new (w.alloc (.deferred (some []))) (.loop { state := .ready, pending := none, fn := fno, tmps := a.tmps, params := ps, assign := x, body := y, defers := w.heap.size })
                rw [hsz1] at this
                exact this
              · have := World.alloc_heap_new w (.deferred (some []))
                show (Array.push _ _)[w.heap.size]? = _
                rw [Array.getElem?_push_lt (by rw [hsz1]; omega)]
                rw [← Array.getElem?_eq_getElem]
                exact this
            have hS1 : SRel w B (m.ext ⟨w.heap.size + 1, 0, 0⟩) H.skip w1 := by
              rw [← hw1]
              exact ((hS.lay _).lay _).skip _
            have hmx : m.le (m.ext ⟨w.heap.size + 1, 0, 0⟩) := m.le_ext _
            have htok : (m.ext ⟨w.heap.size + 1, 0, 0⟩).has H.next ∧ ((m.ext ⟨w.heap.size + 1, 0, 0⟩).loc H.next).block = w.heap.size + 1 := by
              rw [hS.next]
              exact ⟨m.ext_has _, by rw [m.ext_new]⟩
            have hy : YSound P B (w.heap.size + 1) w.heap.size { state := .ready, pending := none, fn := fno, tmps := a.tmps, params := ps, assign := x, body := y, defers := w.heap.size } (m.ext ⟨w.heap.size + 1, 0, 0⟩) (ayield (aexec call it n ax) (aexec call it n ay) ps.toList env) :=
              sound_yield hBl hBd ⟨rfl, rfl, rfl, rfl⟩ hps' (hE.mono hmx) (fun env H r h nn B m a w' => ihx false ax hax (some (w.heap.size + 1)) (fun h => by cases h) env H r h nn B m a w') (fun env H r h nn B m a w' => ihy false ay hay (some (w.heap.size + 1)) (fun h => by cases h) env H r h nn B m a w')
            have hargs : All2 (VRel (m.ext ⟨w.heap.size + 1, 0, 0⟩)) (first ++ [.yield H.next] ++ captured) (first' ++ [Value.func (.yield (w.heap.size + 1)) #[] #[]] ++ captured') := by
              refine forall2_append (forall2_append (forall2_mono hmx h1) (.cons ?_ .nil)) (forall2_mono hmx h2)
              have := VRel.yield (m := m.ext ⟨w.heap.size + 1, 0, 0⟩) H.next htok.1
              rw [htok.2] at this
              exact this
            refine callsIn_of_wp hF hbody trivial ?_
            have hEi := init_rel hargs F.ntmps
            refine sound_codeY hcs hmix hy htok body fn.body hcb none (ainit (first ++ [.yield H.next] ++ captured)) H.skip _ hx _ _ w1 (Inj.le_refl _) (by simpa using hEi) hS1.same hR1 _ ?_
            intro a' w' m' hm' hS' hR' hE' hd'
            obtain ⟨v', hv', _⟩ := sound_results (fn := F) (r := []) (vs := []) hS' hE' (by rw [hrs]; rfl) rfl
            have hbusy : (if st.isNone then LoopState.ready else LoopState.done) ≠ .busy := by cases st <;> simp
            have hne : w.heap.size ≠ w.heap.size + 1 := by omega
            have hS4 : SRel w B m' H1 (w'.putObj (w.heap.size + 1) (.loop { state := .exhausted, pending := st.map jcode, fn := fno, tmps := a.tmps, params := ps, assign := x, body := y, defers := w.heap.size })) := by
              refine SRel.put (o0 := _) ?_ hR'.1 (by intro c e fz h; cases h) hBl _
              exact (hS1.back hS' (fun _ h => h))
            have hQ' : ∀ e, r = (e, env, H1) → Q (cexit e) { a with defers := [{ target := .collected w.heap.size, args := #[] }] ++ a.defers } (w'.putObj (w.heap.size + 1) (.loop { state := .exhausted, pending := st.map jcode, fn := fno, tmps := a.tmps, params := ps, assign := x, body := y, defers := w.heap.size })) := by
              intro e he
              subst he
              refine hQ _ _ m' (Inj.le_trans hmx hm') hS4 (by have := hE.mono (Inj.le_trans hmx hm'); exact ⟨this.size, this.rel⟩) ⟨[w.heap.size], rfl, by simp, fun d hd => ?_⟩
              rw [List.mem_singleton] at hd
              subst hd
              exact ⟨Nat.le_refl _, by rw [World.putObj_heap_other hne]; exact hR'.2⟩
            have hfin : r = (st.getD .normal, env, H1) → rangePost (FW none) nn P (w.heap.size + 1) Q { a with defers := [{ target := .collected w.heap.size, args := #[] }] ++ a.defers } (.returned v') w' := by
              intro hr
              refine ⟨st.map jcode, _, run_endLoop hR'.1 hbusy, ?_⟩
              cases st with
              | none => exact hQ' .normal hr
              | some e =>
                cases e with
                | normal => exact wpIn_skip (hQ' .normal hr)
                | exit id => exact wpIn_exit (hQ' (.exit id) hr)
                | ret => exact wpIn_ret (hQ' .ret hr)
            cases ex with
            | exit id => cases h
            | normal => exact ⟨hd', v', hv', hfin (by simpa using h.symm)⟩
            | ret => exact ⟨hd', v', hv', hfin (by simpa using h.symm)⟩
        · cases h
      · cases h
    · simp only [Option.some.injEq] at hc; subst hc; exact absurd h dead_none
  | _ =>
    intro rok ac hc rd hrd env H r h
    simp only [ccode, Option.some.injEq] at hc
    subst hc
    exact absurd h dead_none

/-! ### Calls -/
structure Sound (P : Program) (w0 : World) (B : Nat → Bool) (A : AProg) : Prop where
  mix : P.follows .mixedOrders = true
  fn : ∀ f x, A.fn f = some x → cfn P f = some x
  ext : ∀ f g, A.ext f = some g → CallSound P w0 B (fun f' args H => if f' = f then g args H else none)

theorem leaves_marks {F : Fence} {n : Nat} {fn : Func} {tmps : Array Value} {R : Ending → World → Prop} (hres : ∀ w, SRel w0 B m H w → ∃ v, (results fn tmps).run P w = .ok v w ∧ R (.returned v) w) :
    ∀ (ms : List Nat) (w : World), SRel w0 B m H w → ms.Nodup → (∀ d, d ∈ ms → B d = false ∧ w.heap[d]? = some (.deferred (some []))) → LeavesInM F n P fn tmps R (ms.map fun d => (⟨.collected d, #[]⟩ : Deferred)) .returning w
  | [], w, hS, _, _ => hres w hS
  | d :: ms, w, hS, hnd, hms => by
    obtain ⟨hb, hd⟩ := hms d (by simp)
    rw [List.nodup_cons] at hnd
    refine ⟨by simp, .inl ⟨d, _, rfl, run_takeDeferred hd, ?_⟩⟩
    refine leaves_marks hres ms _ (hS.put hd (by intro c e fz h; cases h) hb _) hnd.2 fun k hk => ⟨(hms k (by simp [hk])).1, ?_⟩
    rw [World.putObj_heap_other (by intro e; subst e; exact hnd.1 hk)]
    exact (hms k (by simp [hk])).2

theorem sound_run {k : Nat} {call : ACall} {it : FuncId → Option AFn} (hcs : ∀ w0 B, CallSound P w0 B call) (hmix : P.follows .mixedOrders = true) (hit : ∀ g x, it g = some x → cfn P g = some x) {f : FuncId} {x : Option AFn} (hx : ∀ y, x = some y → cfn P f = some y) {args : List AVal} {v : AVal} {H' : AHeap}
    (h : arun call it k x args H = some (v, H')) : Enters P f ∧ Up H H' ∧ ∀ m w args', m.full → SRel w0 B m H w → All2 (VRel m) args args' →
    Calls P f args'.toArray w fun e w' => ∃ v' m', e = .returned v' ∧ m.le m' ∧ SRel w0 B m' H' w' ∧ VRel m' v v' := by
  have hup := arun_up (callSound_up (hcs w0 B)) h
  simp only [arun, Option.bind_eq_some_iff] at h
  obtain ⟨fn, hfn, r, hr, he⟩ := h
  have hc := hx fn hfn
  obtain ⟨F, body, hF, hname, hbody, hab, hrs⟩ := cfn_spec hc
  refine ⟨enters_of hc, hup, ?_⟩
  intro m w args' _ hS hargs
  refine callsIn_wide.1 (callsIn_of_wp_marks (F := FW none) (n := 0) hF hbody trivial ?_)
  have hE := init_rel hargs F.ntmps
  refine sound_code hcs hmix hit body true fn.body hab none (fun _ => rfl) _ H r hr 0 B m _ w (by simpa using hE) hS.same _ ?_
  intro a' w' m' hm hS' hE' hd
  obtain ⟨ms, hd, hnd, hms⟩ := hd
  simp only [List.append_nil] at hd
  obtain ⟨ex, env', H1⟩ := r
  have fin : ∀ vs, aress H1 env' fn.results = some vs → v = aret vs → H' = H1 → LeavesInM (FW none) 0 P F a'.tmps (fun e w' => ∃ v' m', e = .returned v' ∧ m.le m' ∧ SRel w0 B m' H' w' ∧ VRel m' v v') a'.defers .returning w' := by
    intro vs hvs e1 e2
    subst e1 e2
    rw [hd]
    refine leaves_marks (w0 := w0) (B := B) (m := m') (H := H') (fun w2 hS2 => ?_) ms w' (hS.back hS' (fun _ h => h)) hnd fun d hd => ⟨?_, (hms d hd).2⟩
    · obtain ⟨v', hv', hvr⟩ := sound_results hS2 hE' hrs hvs
      exact ⟨v', hv', v', m', rfl, hm, hS2, hvr⟩
    · cases hb : B d with
      | false => rfl
      | true => have := hS.size _ hb; have := hS.below.size; have := (hms d hd).1; omega
  cases ex with
  | exit id => simp [aend] at he
  | normal =>
    simp only [aend, Option.map_eq_some_iff, Prod.mk.injEq] at he
    obtain ⟨vs, hvs, rfl, rfl⟩ := he
    exact fin vs hvs rfl rfl
  | ret =>
    simp only [aend, Option.map_eq_some_iff, Prod.mk.injEq] at he
    obtain ⟨vs, hvs, rfl, rfl⟩ := he
    exact fin vs hvs rfl rfl


theorem gcX_some {n : Nat} {H : AHeap} {x : Option (AVal × AHeap)} {v : AVal} {H1 : AHeap} (h : gcX n H x = some (v, H1)) : ∃ u K, x = some (u, K) ∧ v = (gc n H u K).1 ∧ H1 = (gc n H u K).2 := by
  unfold gcX at h
  split at h
  · cases h
  · rename_i u K
    simp only [Option.some.injEq] at h
    exact ⟨u, K, rfl, by rw [h], by rw [h]⟩

theorem sound_call {A : AProg} : ∀ k w0 B, (∀ w0 B, Sound P w0 B A) → CallSound P w0 B (acall A k) := by
  intro k
  induction k with
  | zero => intro w0 B hA f args H v H' h; simp [acall] at h
  | succ k ih =>
    intro w0 B hA f args H v H' h
    simp only [acall] at h
    split at h
    · rename_i g hg
      have := (hA w0 B).ext f g hg f args H v H' (by simpa using h)
      exact this
    · split at h
      · exact sound_run (fun w0 B => ih w0 B hA) (hA w0 B).mix (hA w0 B).fn ((hA w0 B).fn f) h
      · split at h
        · rename_i hp
          obtain ⟨u, K, h1, rfl, rfl⟩ := gcX_some h
          refine ⟨(sound_run (w0 := w0) (B := B) (fun w0 B => ih w0 B hA) (hA w0 B).mix (hA w0 B).fn ((hA w0 B).fn f) h1).1, gc_up _ _ _ _, ?_⟩
          intro m w args' _ hS hargs
          obtain ⟨_, _, hcall⟩ := sound_run (w0 := w) (B := lowK w.heap.size) (fun w0 B => ih w0 B hA) (hA w0 B).mix (hA w0 B).fn ((hA w0 B).fn f) h1
          have hc := hcall _ _ args' (fun _ => rfl) (srel_none w) (forall2_imp_mem hargs fun x y hx hxy => VRel.plain x y (plains_mem hp hx) hxy)
          refine hc.mono fun e w' ⟨v', m', he, _, hS', hv'⟩ => ?_
          obtain ⟨m1, h2, h3, h4⟩ := gc_sound (n := 0) hS (fun i hi => by omega) (Nat.zero_le _) hS' hv'
          exact ⟨v', m1, he, h2, h3, h4⟩
        · cases h
      · obtain ⟨u, K, h1, rfl, rfl⟩ := gcX_some h
        refine ⟨(sound_run (w0 := w0) (B := B) (fun w0 B => ih w0 B hA) (hA w0 B).mix (hA w0 B).fn ((hA w0 B).fn f) h1).1, gc_up _ _ _ _, ?_⟩
        intro m w args' hfull hS hargs
        obtain ⟨_, _, hcall⟩ := sound_run (w0 := w) (B := lowK w.heap.size) (fun w0 B => ih w0 B hA) (hA w0 B).mix (hA w0 B).fn ((hA w0 B).fn f) h1
        have hc := hcall _ _ args' hfull (srel_frz hS) hargs
        refine hc.mono fun e w' ⟨v', m', he, hm, hS', hv'⟩ => ?_
        have hn := hS.next
        obtain ⟨m1, h2, h3, h4⟩ := gc_sound (n := H.next) hS (fun i hi => ⟨hfull.has (by omega), (hm.2 i (hfull.has (by omega))).2⟩) (by have := hm.1; omega) hS' hv'
        exact ⟨v', m1, he, h2, h3, h4⟩

end Go.Proofs.Ytilhjcnkaelheaa.Am
