/- What the abstract machine answers, the model's machine does: a range over a function. -/
import Derived.Test.YtilhjcnkaelheaaAmDraw2
import Derived.RangeFuncRecord
import Derived.RangeFuncLeaves
set_option linter.unusedSimpArgs false
set_option linter.unusedVariables false
namespace Go.Proofs.Ytilhjcnkaelheaa.Am
open Go Go.RowKit

variable {P : Program} {w0 w : World} {B : Nat → Bool} {m : Inj} {H H' : AHeap} {nt : Nat} {env : Env} {a : Act}

/-! ### Other blocks kept -/
theorem SRel.other (hS : SRel w0 B m H w) {B' : Nat → Bool} (hB : ∀ k, B' k = true → k < w.heap.size ∧ (B k = true ∨ ∀ c e fz, w.heap[k]? ≠ some (.cells c e fz))) : SRel w B' m H w := by
  refine ⟨Keep.refl _ _, fun k hk => (hB k hk).1, hS.next, fun id o ho => ?_, hS.apart⟩
  obtain ⟨h1, h2⟩ := hS.obj id o ho
  refine ⟨h1, ?_⟩
  cases o with
  | cells l own =>
    obtain ⟨c, e, fz, h3, h4, h5⟩ := h2
    refine ⟨c, e, fz, h3, h4, fun h => ?_⟩
    obtain ⟨h6, h7⟩ := h5 h
    refine ⟨?_, h7⟩
    cases hb : B' (m.loc id).block with
    | false => rfl
    | true =>
      rcases (hB _ hb).2 with h | h
      · rw [h6] at h; cases h
      · exact absurd h3 (h _ _ _)
theorem SRel.same (hS : SRel w0 B m H w) : SRel w B m H w :=
  hS.other fun k hk => ⟨Nat.lt_of_lt_of_le (hS.size k hk) hS.below.size, .inl hk⟩
theorem SRel.back {w1 : World} (h0 : SRel w0 B m H w) {K : Nat → Bool} {m1 : Inj} {H1 : AHeap} (h : SRel w K m1 H1 w1) (hK : ∀ k, B k = true → K k = true) : SRel w0 B m1 H1 w1 :=
  SRel.rebase h h0.below hK h0.size

/-- A block that holds no cells becomes something else. -/
theorem Keep.put {K : Nat → Bool} {a w : World} (h : Keep K a w) {l : Nat} (hl : K l = false) (o : Obj) : Keep K a (w.putObj l o) :=
  h.trans ⟨rfl, rfl, rfl, by simp, fun k hk => World.putObj_heap_other (by intro e; rw [e, hl] at hk; cases hk)⟩
theorem SRel.put (hS : SRel w0 B m H w) {l : Nat} {o0 : Obj} (h0 : w.heap[l]? = some o0) (hn : ∀ c e fz, o0 ≠ .cells c e fz) (hl : B l = false) (o : Obj) : SRel w0 B m H (w.putObj l o) := by
  refine ⟨hS.below.put hl o, hS.size, hS.next, fun id o1 ho => ?_, hS.apart⟩
  obtain ⟨h1, h2⟩ := hS.obj id o1 ho
  refine ⟨h1, h2.keep m.le_refl (World.putObj_heap_other ?_)⟩
  intro e
  cases o1 with
  | cells l1 own =>
    obtain ⟨c, e1, fz, h3, _, _⟩ := h2
    rw [e, h0] at h3
    exact hn _ _ _ (Option.some.inj h3)

/-- A number left out. -/
theorem SRel.skip (hS : SRel w0 B m H w) (L : Loc) : SRel w0 B (m.ext L) H.skip w := by
  refine ⟨hS.below, hS.size, by simp [AHeap.skip, Inj.ext, hS.next], fun id o ho => ?_, fun i j o o' hi hj => ?_⟩
  · obtain ⟨h1, h2⟩ := hS.obj id o ho
    refine ⟨((m.le_ext L).2 id h1).1, ?_⟩
    rw [Inj.ext_old m L h1]
    exact h2.mono (m.le_ext L)
  · have h1 := (hS.obj i o hi).1
    have h2 := (hS.obj j o' hj).1
    rw [Inj.ext_old m L h1, Inj.ext_old m L h2]
    exact hS.apart i j o o' hi hj

/-! ### The record -/
def jcode : AExit → Code
  | .normal => .skip
  | .exit id => .exit id
  | .ret => .ret
def RecAt (w : World) (l d : Nat) (R : Loop) (st : APend) : Prop :=
  w.heap[l]? = some (.loop { R with state := if st.isNone then .ready else .done, pending := st.map jcode }) ∧ w.heap[d]? = some (.deferred (some []))
theorem RecAt.lt {l d : Nat} {R : Loop} {st : APend} (h : RecAt w l d R st) : l < w.heap.size ∧ d < w.heap.size ∧ l ≠ d :=
  ⟨(Array.getElem?_eq_some_iff.1 h.1).1, (Array.getElem?_eq_some_iff.1 h.2).1, fun e => by have h1 := h.1; rw [e, h.2] at h1; cases h1⟩
/-- The blocks to be kept between two rounds. -/
def B1 (B : Nat → Bool) (l d : Nat) : Nat → Bool := fun k => B k || k == l || k == d
theorem B1_le (B : Nat → Bool) (l d : Nat) : ∀ k, B k = true → B1 B l d k = true := fun k hk => by simp [B1, hk]
theorem SRel.recd {l d : Nat} {R : Loop} {st : APend} (hS : SRel w0 B m H w) (hR : RecAt w l d R st) : SRel w (B1 B l d) m H w := by
  obtain ⟨h1, h2, _⟩ := hR.lt
  refine hS.other fun k hk => ?_
  simp only [B1, Bool.or_eq_true, beq_iff_eq] at hk
  rcases hk with (hk | rfl) | rfl
  · exact ⟨Nat.lt_of_lt_of_le (hS.size k hk) hS.below.size, .inl hk⟩
  · exact ⟨h1, .inr fun c e fz h => by rw [hR.1] at h; cases h⟩
  · exact ⟨h2, .inr fun c e fz h => by rw [hR.2] at h; cases h⟩
theorem RecAt.keep {w1 : World} {l d : Nat} {R : Loop} {st : APend} (hR : RecAt w l d R st) (h : Keep (B1 B l d) w w1) : RecAt w1 l d R st :=
  ⟨by rw [h.block l (by simp [B1])]; exact hR.1, by rw [h.block d (by simp [B1])]; exact hR.2⟩

/-- What is asked of the rounds. -/
def YSound (P : Program) (B : Nat → Bool) (l d : Nat) (R : Loop) (m0 : Inj) (yl : AYield) : Prop :=
  ∀ st args H b st' H', yl st args H = some (b, st', H') → ∀ nn m w args', m0.le m → SRel w B m H w → RecAt w l d R st → All2 (VRel m) args args' →
    args'.length = R.params.size ∧ RoundIn (FW none) nn P l R.fn ((R.params.zip args'.toArray).foldl (fun tmps (t, a) => tmps.setIfInBounds t a) R.tmps) R.assign R.body w fun e w' =>
      ∃ m', e = .returned (.bool b) ∧ m.le m' ∧ SRel w B m' H' w' ∧ RecAt w' l d R st'

theorem copc_call {o : Oper} {f : AOpd} {as : List AOpd} (h : copc P nt o.op = some (.call f as)) : ∃ fo args ats, o.op = .call ⟨.value fo, args, ats⟩ ∧ copd nt fo = some f ∧ copds nt args.toList = some as := by
  unfold copc at h
  simp only [Option.some.injEq] at h
  unfold copc0 at h
  cases hx : cextern P nt o.op with
  | some x =>
    rw [hx] at h
    simp only [Option.getD_some] at h
    subst h
    exfalso
    unfold cextern at hx
    split at hx
    · simp only [Option.bind_eq_some_iff] at hx
      obtain ⟨fn, _, hx⟩ := hx
      split at hx
      · split at hx
        · simp only [Option.bind_eq_some_iff] at hx
          obtain ⟨x', _, hx⟩ := hx
          split at hx
          · cases hx
          · split at hx
            · cases hx
            · split at hx <;> cases hx
        · cases hx
      · cases hx
    · cases hx
  | none =>
    rw [hx] at h
    simp only at h
    unfold copc1 at h
    split at h
    · rename_i r hr
      unfold ccall at hr
      split at hr
      · rename_i fo args ats hop
        simp only [Option.some.injEq] at hr
        cases hh : ((copd nt fo).bind fun f' => (copds nt args.toList).map fun as => AOp.call f' as) with
        | none => rw [hh] at hr; subst hr; cases h
        | some x =>
          rw [hh] at hr; subst hr
          simp only [Option.getD_some] at h
          subst h
          simp only [Option.bind_eq_some_iff, Option.map_eq_some_iff] at hh
          obtain ⟨f', hf, l, hl, he⟩ := hh
          injection he with e1 e2
          subst e1 e2
          exact ⟨fo, args, ats, hop, hf, hl⟩
      · cases hr
    · cases hc : cop P nt o.op with
      | none => rw [hc] at h; cases h
      | some x =>
        rw [hc] at h
        simp only [Option.bind_some] at h
        split at h
        · cases h
        · rename_i hic
          simp only [Option.getD_some] at h
          subst h
          simp [AOp.isCall] at hic

section
variable {call : ACall} {yl : AYield} {tok l d : Nat} {R : Loop} {m0 : Inj}

/-- An operation of the function's own code. -/
theorem sound_ady (hcs : ∀ w0 B, CallSound P w0 B call) (hy : YSound P B l d R m0 yl) (htok : m0.has tok ∧ (m0.loc tok).block = l) (hm0 : m0.le m) {o : Oper} {ao : AOp} (hc : copc P nt o.op = some ao) (hE : ERel m nt env a) (hS : SRel w B m H w) {st st' : APend} (hR : RecAt w l d R st) {v : AVal}
    (h : ady call tok yl ao (aev env) st H = some (v, st', H')) {next : Act → World → Prop} {Q : Exit → Act → World → Prop}
    (hnext : ∀ v' w' m', m.le m' → SRel w B m' H' w' → RecAt w' l d R st' → VRel m' v v' → next (a.put o.dst v') w') (nn : Nat) : o.wpIn (FW none) nn P a w next Q := by
  -- no call of what was given
  have plain : ado call ao (aev env) H = some (v, H') → st' = st → o.wpIn (FW none) nn P a w next Q := by
    intro hd hst
    subst hst
    refine sound_ado (hcs w (B1 B l d)) hc hE (hS.recd hR) hd (fun v' w' m' hm _ hS' hv => ?_) none nn
    exact hnext v' w' m' hm (hS.back hS' (B1_le _ _ _)) (hR.keep hS'.below) hv
  by_cases hcall : ∃ f args, ao = .call f args
  · obtain ⟨f, as, rfl⟩ := hcall
    simp only [ady] at h
    cases hf : aev env f with
    | yield id =>
      rw [hf] at h
      simp only at h
      split at h
      · rename_i hid
        subst hid
        simp only [Option.map_eq_some_iff] at h
        obtain ⟨⟨b, st2, H2⟩, hyl, he⟩ := h
        simp only [Prod.mk.injEq] at he
        obtain ⟨rfl, rfl, rfl⟩ := he
        obtain ⟨fo, args, ats, hop, hfo, has⟩ := copc_call hc
        have hfr := copd_rel hE hfo
        have har := copds_rel hE has
        rw [hf] at hfr
        generalize hfv : a.eval fo = fv at hfr
        cases hfr with
        | yield _ hhas =>
          have hblk : (m.loc id).block = l := by rw [(hm0.2 id htok.1).2]; exact htok.2
          rw [hblk] at hfv
          obtain ⟨hlen, hround⟩ := hy st (as.map (aev env)) H b st2 H2 hyl (nn - 1) m w (args.toList.map a.eval) hm0 hS hR har
          have hrl : w.heap[l]? = some (.loop { R with state := if st.isNone then .ready else .done, pending := st.map jcode }) := hR.1
          have hrun : (execOp a.eval o).run P w = .ok (.round l R.fn ((R.params.zip (args.toList.map a.eval).toArray).foldl (fun tmps (t, a) => tmps.setIfInBounds t a) R.tmps) R.assign R.body) w := by
            obtain ⟨dst, op, type, pos, after, guard⟩ := o
            simp only at hop
            subst hop
            have ha : args.map a.eval = (args.toList.map a.eval).toArray := by apply Array.ext'; simp
            simp only [execOp, resolve, hfv, Deferred.ofValue, Sem.run_bind, Sem.run_pure, Result.andThen_ok, invoke]
            have := run_yield (P := P) (args := (#[] : Array Value) ++ args.map a.eval) hrl (by simpa using hlen)
            rw [this, ha]
            simp
          refine ⟨fun _ _ => trivial, ?_⟩
          rw [Oper.semAt_eq _ _ _ (run_noDefer hrun), hrun, Oper.uponIn_round]
          refine ⟨fun h => by simp [FW, Fence.wide] at h, hround.mono ?_⟩
          rintro e w' ⟨m', rfl, hm, hS', hR'⟩
          exact hnext _ w' m' hm hS' hR' (.bool _)
      · cases h
    | func g first captured =>
      rw [hf] at h
      simp only [Option.map_eq_some_iff] at h
      obtain ⟨⟨v1, H1⟩, hcl, he⟩ := h
      simp only [Prod.mk.injEq] at he
      obtain ⟨rfl, rfl, rfl⟩ := he
      refine plain ?_ rfl
      simp only [ado, hf]
      exact hcl
    | _ => rw [hf] at h; cases h
  · have h2 : (aop ao (aev env) H).map (fun r => (r.1, st, r.2)) = some (v, st', H') := by
      cases ao <;> first | exact h | exact absurd ⟨_, _, rfl⟩ hcall
    simp only [Option.map_eq_some_iff, Prod.mk.injEq] at h2
    obtain ⟨⟨v1, H1⟩, hx, rfl, rfl, rfl⟩ := h2
    refine plain ?_ rfl
    cases ao <;> first | exact hx | exact absurd ⟨_, _, rfl⟩ hcall

theorem sound_aopsY (hcs : ∀ w0 B, CallSound P w0 B call) (hy : YSound P B l d R m0 yl) (htok : m0.has tok ∧ (m0.loc tok).block = l) {ops : Array Oper} {nn : Nat} {Q : Exit → Act → World → Prop} :
    ∀ (ls : List Oper) (al : List AOper) (i : Nat) (st : APend) (env : Env) (H : AHeap) (m : Inj) (a : Act) (w : World) (r : APend × Env × AHeap), copers P ops nt ls = some al → (∀ j, ls[j]? = ops[i + j]?) → m0.le m → ERel m nt env a → SRel w B m H w → RecAt w l d R st →
      aopsY call tok yl al st env H = some r →
      (∀ a' w' m', m.le m' → SRel w B m' r.2.2 w' → RecAt w' l d R r.1 → ERel m' nt r.2.1 a' → a'.defers = a.defers → Q .normal a' w') → wpOpsIn (FW none) nn P ops Q (List.range' i ls.length) a w
  | [], al, i, st, env, H, m, a, w, r, hc, hl, hm0, hE, hS, hR, h, hQ => by
    simp [copers] at hc; subst hc
    simp [aopsY] at h
    subst h
    exact hQ a w m m.le_refl hS hR hE rfl
  | o :: ls, al, i, st, env, H, m, a, w, r, hc, hl, hm0, hE, hS, hR, h, hQ => by
    simp only [copers, Option.bind_eq_some_iff, Option.map_eq_some_iff] at hc
    obtain ⟨x, hx, rr, hr, rfl⟩ := hc
    obtain ⟨hd, ho, hg, hdx⟩ := coper_spec hx
    have h0 : ops[i]? = some o := by simpa using (hl 0).symm
    have hl' : ∀ j, ls[j]? = ops[i + 1 + j]? := fun j => by have := hl (j + 1); simpa [Nat.add_assoc, Nat.add_comm 1 j] using this
    have hw := wanted_rel hE hg
    simp only [List.length_cons, List.range'_succ, wpOpsIn, h0]
    simp only [aopsY] at h
    cases hag : agd env x.guard with
    | true =>
      rw [hag] at h hw
      simp only [if_true, Option.bind_eq_some_iff] at h
      obtain ⟨⟨v, st1, H1⟩, hv, h⟩ := h
      rw [if_pos hw]
      refine sound_ady hcs hy htok hm0 ho hE hS hR hv (fun v' w' m' hm hS' hR' hvr => ?_) nn
      refine sound_aopsY hcs hy htok ls rr (i + 1) st1 _ H1 m' _ w' r hr hl' (Inj.le_trans hm0 hm) (by rw [hdx]; exact (hE.mono hm).put hd hvr) hS'.same hR' h ?_
      intro a' w'' m'' hm' hS'' hR'' hE' hdf
      exact hQ a' w'' m'' (Inj.le_trans hm hm') (hS'.back hS'' (fun _ h => h)) hR'' hE' (hdf.trans (put_defers _ _))
    | false =>
      rw [hag] at h hw
      simp only [Bool.false_eq_true, if_false] at h
      rw [if_neg (by rw [hw]; simp)]
      refine ⟨fun _ _ => trivial, ?_⟩
      refine sound_aopsY hcs hy htok ls rr (i + 1) st _ H m _ w r hr hl' hm0 (by rw [hdx]; exact hE.put hd (undef_rel m)) hS hR h ?_
      intro a' w'' m'' hm' hS'' hR'' hE' hdf
      exact hQ a' w'' m'' hm' hS'' hR'' hE' (hdf.trans (put_defers _ _))

def cexit : AExit → Exit
  | .normal => .normal
  | .exit id => .exit id
  | .ret => .ret

theorem deadY {n : Nat} {st : APend} {env : Env} {H : AHeap} {r : AExit × APend × Env × AHeap} : ¬ aexecY call tok yl n dead st env H = some r := by
  simp [aexecY, dead, aopsY, agd, ady, aop]

/-- The function's own code. -/
theorem sound_codeY (hcs : ∀ w0 B, CallSound P w0 B call) (hmix : P.follows .mixedOrders = true) (hy : YSound P B l d R m0 yl) (htok : m0.has tok ∧ (m0.loc tok).block = l) {n nn : Nat} {rok : Bool} : ∀ (c : Code) (ac : ACode), ccode P nt rok c = some ac →
    ∀ (st : APend) (env : Env) (H : AHeap) (r : AExit × APend × Env × AHeap), aexecY call tok yl n ac st env H = some r → ∀ (m : Inj) (a : Act) (w : World), m0.le m → ERel m nt env a → SRel w B m H w → RecAt w l d R st →
    ∀ Q, (∀ a' w' m', m.le m' → SRel w B m' r.2.2.2 w' → RecAt w' l d R r.2.1 → ERel m' nt r.2.2.1 a' → a'.defers = a.defers → Q (cexit r.1) a' w') → c.wpIn (FW none) nn P Q a w := by
  intro c
  induction c with
  | skip =>
    intro ac hc st env H r h m a w hm0 hE hS hR Q hQ
    simp [ccode] at hc; subst hc
    simp [aexecY] at h; subst h
    exact wpIn_skip (hQ a w m m.le_refl hS hR hE rfl)
  | region id ops draw =>
    intro ac hc st env H r h m a w hm0 hE hS hR Q hQ
    cases draw with
    | false =>
      simp only [ccode, Option.some.injEq] at hc
      subst hc
      cases hal : copers P ops nt ops.toList with
      | none => rw [hal] at h; exact absurd h deadY
      | some al =>
      rw [hal] at h
      simp only [Option.map_some, Option.getD_some] at h
      simp only [aexecY, Option.map_eq_some_iff] at h
      obtain ⟨x, h, rfl⟩ := h
      refine wpIn_region ?_
      have := sound_aopsY (Q := Q) (nn := nn) hcs hy htok ops.toList al 0 st env H m a w x hal (by intro j; simp) hm0 hE hS hR h (fun a' w' m' h1 h2 h3 h4 h5 => hQ a' w' m' h1 h2 h3 h4 h5)
      rw [List.range_eq_range']
      simpa using this
    | true =>
      simp only [ccode, Option.some.injEq] at hc
      subst hc
      cases hal : copers P ops nt ops.toList with
      | none => rw [hal] at h; exact absurd h deadY
      | some al =>
      rw [hal] at h
      simp only [Option.bind_some] at h
      cases hc : drawOf ops al (CheckFast.beforeF ops).toList with
      | none => rw [hc] at h; exact absurd h deadY
      | some c =>
      rw [hc] at h
      simp only [Option.getD_some] at h
      obtain ⟨al', b, rfl, R1⟩ := region1_of hal hc
      simp only [aexecY, Option.map_eq_some_iff] at h
      obtain ⟨⟨env', H'⟩, h, rfl⟩ := h
      exact sound_draw hcs hmix R1 hE (hS.recd hR) h (fun a' w' m' h1 h2 h3 h4 => hQ a' w' m' h1 (hS.back h2 (B1_le _ _ _)) (hR.keep h2.below) h3 h4) id none nn
  | seq x y ihx ihy =>
    intro ac hc st env H r h m a w hm0 hE hS hR Q hQ
    simp only [ccode, Option.bind_eq_some_iff, Option.map_eq_some_iff] at hc
    obtain ⟨ax, hax, ay, hay, rfl⟩ := hc
    simp only [aexecY, Option.bind_eq_some_iff] at h
    obtain ⟨⟨ex, st1, env1, H1⟩, hx, h⟩ := h
    refine wpIn_seq (ihx ax hax st env H _ hx m a w hm0 hE hS hR _ ?_)
    intro a1 w1 m1 hm1 hS1 hR1 hE1 hd1
    cases ex with
    | normal => exact ihy ay hay st1 env1 H1 r h m1 a1 w1 (Inj.le_trans hm0 hm1) hE1 hS1.same hR1 Q (fun a' w' m' h1 h2 h3 h4 h5 => hQ a' w' m' (Inj.le_trans hm1 h1) (hS1.back h2 (fun _ h => h)) h3 h4 (h5.trans hd1))
    | exit id => simp at h; subst h; exact hQ a1 w1 m1 hm1 hS1 hR1 hE1 hd1
    | ret => simp at h; subst h; exact hQ a1 w1 m1 hm1 hS1 hR1 hE1 hd1
  | cond c x y ihx ihy =>
    intro ac hc st env H r h m a w hm0 hE hS hR Q hQ
    cases hc' : copd nt c with
    | none =>
      simp only [ccode, hc', Option.some.injEq] at hc
      subst hc
      exact absurd h deadY
    | some c' =>
    simp only [ccode, hc', Option.bind_eq_some_iff, Option.map_eq_some_iff] at hc
    obtain ⟨ax, hax, ay, hay, rfl⟩ := hc
    simp only [aexecY] at h
    have hcr := copd_rel hE hc'
    split at h
    · rename_i t ht
      rw [ht] at hcr
      generalize hcv : a.eval c = cv at hcr
      cases hcr
      cases t with
      | true => simp at h; exact wpIn_cond_true hcv (ihx ax hax st env H r h m a w hm0 hE hS hR Q hQ)
      | false => simp at h; exact wpIn_cond_false hcv (ihy ay hay st env H r h m a w hm0 hE hS hR Q hQ)
    · simp at h
  | block id x ih =>
    intro ac hc st env H r h m a w hm0 hE hS hR Q hQ
    simp only [ccode, Option.map_eq_some_iff] at hc
    obtain ⟨ax, hax, rfl⟩ := hc
    simp only [aexecY, Option.map_eq_some_iff] at h
    obtain ⟨⟨ex, st1, env1, H1⟩, hx, h⟩ := h
    refine wpIn_block (ih ax hax st env H _ hx m a w hm0 hE hS hR _ ?_)
    intro a1 w1 m1 hm1 hS1 hR1 hE1 hd1
    cases ex with
    | normal => simp at h; subst h; exact hQ a1 w1 m1 hm1 hS1 hR1 hE1 hd1
    | exit i =>
      simp only at h
      simp only [cexit, Exit.inBlock]
      split at h
      · rename_i hi
        subst h
        rw [if_pos hi]; exact hQ a1 w1 m1 hm1 hS1 hR1 hE1 hd1
      · rename_i hi
        subst h
        rw [if_neg hi]; exact hQ a1 w1 m1 hm1 hS1 hR1 hE1 hd1
    | ret => simp at h; subst h; exact hQ a1 w1 m1 hm1 hS1 hR1 hE1 hd1
  | loop x ih =>
    intro ac hc st env H r h m a w hm0 hE hS hR Q hQ
    simp only [ccode, Option.map_eq_some_iff] at hc
    obtain ⟨ax, hax, rfl⟩ := hc
    simp only [aexecY] at h
    have key : ∀ (k : Nat) (st : APend) (env : Env) (H : AHeap), aiterY (aexecY call tok yl n ax) k st env H = some r → ∀ (m : Inj) (a : Act) (w : World), m0.le m → ERel m nt env a → SRel w B m H w → RecAt w l d R st →
        (∀ a' w' m', m.le m' → SRel w B m' r.2.2.2 w' → RecAt w' l d R r.2.1 → ERel m' nt r.2.2.1 a' → a'.defers = a.defers → Q (cexit r.1) a' w') → Code.roundsIn (FW none) nn P x Q k a w := by
      intro k
      induction k with
      | zero => intro st env H h; simp [aiterY] at h
      | succ k ihk =>
        intro st env H h m a w hm0 hE hS hR hQ
        simp only [aiterY, Option.bind_eq_some_iff] at h
        obtain ⟨⟨ex, st1, env1, H1⟩, hx, h⟩ := h
        rw [roundsIn_succ]
        refine ih ax hax st env H _ hx m a w hm0 hE hS hR _ ?_
        intro a1 w1 m1 hm1 hS1 hR1 hE1 hd1
        cases ex with
        | normal => exact ihk st1 env1 H1 h m1 a1 w1 (Inj.le_trans hm0 hm1) hE1 hS1.same hR1 (fun a' w' m' h1 h2 h3 h4 h5 => hQ a' w' m' (Inj.le_trans hm1 h1) (hS1.back h2 (fun _ h => h)) h3 h4 (h5.trans hd1))
        | exit id => simp at h; subst h; exact hQ a1 w1 m1 hm1 hS1 hR1 hE1 hd1
        | ret => simp at h; subst h; exact hQ a1 w1 m1 hm1 hS1 hR1 hE1 hd1
    exact wpIn_loop_rounds n (key n st env H h m a w hm0 hE hS hR hQ)
  | exit id =>
    intro ac hc st env H r h m a w hm0 hE hS hR Q hQ
    simp [ccode] at hc; subst hc
    simp [aexecY] at h; subst h
    exact wpIn_exit (hQ a w m m.le_refl hS hR hE rfl)
  | ret =>
    intro ac hc st env H r h m a w hm0 hE hS hR Q hQ
    simp [ccode] at hc; subst hc
    simp [aexecY] at h; subst h
    exact wpIn_ret (hQ a w m m.le_refl hS hR hE rfl)
  | rangeFunc g ps x y ihx ihy =>
    intro ac hc st env H r h
    simp only [ccode] at hc
    split at hc
    · split at hc
      · simp only [Option.some.injEq] at hc; subst hc; exact absurd h deadY
      · simp only [Option.bind_eq_some_iff, Option.map_eq_some_iff] at hc
        obtain ⟨_, _, _, _, rfl⟩ := hc
        simp [aexecY] at h
    · simp only [Option.some.injEq] at hc; subst hc; exact absurd h deadY
  | _ =>
    intro ac hc st env H r h
    simp only [ccode, Option.some.injEq] at hc
    subst hc
    exact absurd h deadY
end

end Go.Proofs.Ytilhjcnkaelheaa.Am
