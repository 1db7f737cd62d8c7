/- What the abstract machine answers, the model's machine does: regions that draw their order. -/
import Derived.Test.YtilhjcnkaelheaaAmSound8
set_option linter.unusedSimpArgs false
set_option linter.unusedVariables false
namespace Go.Proofs.Ytilhjcnkaelheaa.Am
open Go Go.RowKit

variable {P : Program} {w0 w : World} {B : Nat → Bool} {m : Inj} {H H' : AHeap} {nt : Nat} {env : Env} {a : Act}

/-! ### The edges -/
theorem one_bit {look : Nat → Nat} {o : Oper} {j : Nat} (h : (CheckFast.one look o).testBit j = true) : ∃ e, e ∈ o.after ∧ Region.binds .any e = true ∧ (e.on = j ∨ (look e.on).testBit j = true) := by
  unfold CheckFast.one at h
  rw [← Array.foldl_toList] at h
  have key : ∀ (l : List Edge) (s : Nat), (l.foldl (fun s e => if Region.binds .any e then s ||| 2 ^ e.on ||| look e.on else s) s).testBit j = true → s.testBit j = true ∨ ∃ e, e ∈ l ∧ Region.binds .any e = true ∧ (e.on = j ∨ (look e.on).testBit j = true) := by
    intro l
    induction l with
    | nil => intro s h; exact .inl h
    | cons e l ih =>
      intro s h
      simp only [List.foldl_cons] at h
      rcases ih _ h with h | ⟨e', h1, h2⟩
      · by_cases hb : Region.binds .any e = true
        · rw [if_pos hb] at h
          simp only [Nat.testBit_or, Bool.or_eq_true, Nat.testBit_two_pow, decide_eq_true_eq] at h
          rcases h with (h | h) | h
          · exact .inl h
          · exact .inr ⟨e, by simp, hb, .inl h⟩
          · exact .inr ⟨e, by simp, hb, .inr h⟩
        · rw [if_neg hb] at h; exact .inl h
      · exact .inr ⟨e', by simp [h1], h2⟩
  rcases key _ _ h with h | ⟨e, h1, h2⟩
  · simp at h
  · exact ⟨e, by simpa using h1, h2⟩

theorem before_fold : ∀ (l : List Oper) (A : Array Nat) (i : Nat) (o : Oper), l[i]? = some o →
    ∃ look, ((l.foldl (fun acc o => acc.push (CheckFast.one (fun i => acc.getD i 0) o)) A)).getD (A.size + i) 0 = CheckFast.one look o ∧
      (∀ k, k < A.size + i → look k = ((l.foldl (fun acc o => acc.push (CheckFast.one (fun i => acc.getD i 0) o)) A)).getD k 0)
  | [], A, i, o, h => by simp at h
  | x :: l, A, i, o, h => by
    have keep : ∀ (l : List Oper) (A : Array Nat) (k : Nat), k < A.size → ((l.foldl (fun acc o => acc.push (CheckFast.one (fun i => acc.getD i 0) o)) A)).getD k 0 = A.getD k 0 := by
      intro l
      induction l with
      | nil => intro A k h; rfl
      | cons y l ih =>
        intro A k h
        rw [List.foldl_cons, ih _ k (by simp; omega)]
        simp [Array.getD_eq_getD_getElem?, Array.getElem?_push, Nat.ne_of_lt h]
    simp only [List.foldl_cons]
    cases i with
    | zero =>
      simp at h; subst h
      refine ⟨fun i => A.getD i 0, ?_, ?_⟩
      · rw [Nat.add_zero, keep _ _ _ (by simp)]
        simp [Array.getD_eq_getD_getElem?]
      · intro k hk
        rw [keep _ _ _ (by simp; omega)]
        simp [Array.getD_eq_getD_getElem?, Array.getElem?_push, Nat.ne_of_lt (show k < A.size by omega)]
    | succ i =>
      obtain ⟨look, h1, h2⟩ := before_fold l (A.push (CheckFast.one (fun i => A.getD i 0) x)) i o (by simpa using h)
      simp only [Array.size_push] at h1 h2
      refine ⟨look, by rw [show A.size + (i + 1) = A.size + 1 + i by omega]; exact h1, fun k hk => h2 k (by omega)⟩

/-- What comes before an operation whatever the order: one of its edges, or what comes before that. -/
theorem before_bit {ops : Array Oper} {b : List Nat} (hb : b = (CheckFast.beforeF ops).toList) (he : edgesOk ops.toList = true) {i j : Nat} {o : Oper} (ho : ops[i]? = some o) (h : (b.getD i 0).testBit j = true) :
    ∃ e, e ∈ o.after ∧ Region.binds .any e = true ∧ e.on < i ∧ (e.on = j ∨ (b.getD e.on 0).testBit j = true) := by
  rw [CheckFast.beforeF_eq] at hb
  have hbe : Region.before ops = ops.toList.foldl (fun acc o => acc.push (CheckFast.one (fun i => acc.getD i 0) o)) #[] := by
    unfold Region.before
    rw [← Array.foldl_toList]
    rfl
  have hget : ∀ k, b.getD k 0 = (Region.before ops).getD k 0 := by intro k; subst hb; simp [Array.getD_eq_getD_getElem?]
  obtain ⟨look, h1, h2⟩ := before_fold ops.toList #[] i o (by simpa using ho)
  simp only [Array.size_empty, Nat.zero_add] at h1 h2
  rw [hget, hbe, h1] at h
  obtain ⟨e, hm, hbind, hor⟩ := one_bit h
  have hlt : e.on < i := by
    unfold edgesOk at he
    rw [List.all_eq_true] at he
    have := he (o, i) (by rw [List.mem_zipIdx_iff_getElem?]; simpa using ho)
    simp only [Array.all_eq_true_iff_forall_mem] at this
    have := this e hm
    simpa [hbind] using this
  refine ⟨e, hm, hbind, hlt, hor.imp id fun h => ?_⟩
  rw [h2 _ hlt] at h
  rw [hget, hbe]; exact h

/-! ### What an operation looks at -/
theorem aop_congr {o : AOp} {ρ ρ' : AOpd → AVal} (h : ∀ y, y ∈ o.opds → ρ y = ρ' y) (call : ACall) (H : AHeap) : ado call o ρ H = ado call o ρ' H := by
  cases o with
  | build z ps =>
    have : ps.map (fun x => match x with | (o, n, x) => (o, n, ρ x)) = ps.map (fun x => match x with | (o, n, x) => (o, n, ρ' x)) := by
      apply List.map_congr_left
      rintro ⟨o, n, x⟩ hx
      simp only [AOp.opds] at h
      have := h x (List.mem_map.2 ⟨_, hx, rfl⟩)
      simp only [this]
    simp only [ado, aop, this]
  | buildS len z ps =>
    have : ps.map (fun x => match x with | (o, n, x) => (o, n, ρ x)) = ps.map (fun x => match x with | (o, n, x) => (o, n, ρ' x)) := by
      apply List.map_congr_left
      rintro ⟨o, n, x⟩ hx
      simp only [AOp.opds] at h
      have := h x (List.mem_map.2 ⟨_, hx, rfl⟩)
      simp only [this]
    simp only [ado, aop, this]
  | mkFn f l k =>
    simp only [AOp.opds] at h
    have h1 : l.map ρ = l.map ρ' := List.map_congr_left fun x hx => h x (by simp [hx])
    have h2 : k.map ρ = k.map ρ' := List.map_congr_left fun x hx => h x (by simp [hx])
    simp only [ado, aop, h1, h2]
  | minmax b l =>
    simp only [AOp.opds] at h
    have h1 : l.map ρ = l.map ρ' := List.map_congr_left fun x hx => h x hx
    simp only [ado, aop, h1]
  | call f l =>
    simp only [AOp.opds] at h
    have h1 : l.map ρ = l.map ρ' := List.map_congr_left fun x hx => h x (by simp [hx])
    simp only [ado, h1, h f (by simp)]
  | slcStr x lo hi =>
    simp only [AOp.opds] at h
    have h1 : lo.map ρ = lo.map ρ' := by cases lo <;> simp at h ⊢; exact h.2.1
    have h2 : hi.map ρ = hi.map ρ' := by cases hi <;> cases lo <;> simp at h ⊢ <;> simp [h]
    simp only [ado, aop, h1, h2, h x (by simp)]
  | slc es x lo hi mx =>
    simp only [AOp.opds] at h
    have h1 : lo.map ρ = lo.map ρ' := by cases lo <;> simp; exact h _ (by simp)
    have h2 : hi.map ρ = hi.map ρ' := by cases hi <;> simp; exact h _ (by simp)
    have h3 : mx.map ρ = mx.map ρ' := by cases mx <;> simp; exact h _ (by simp)
    simp only [ado, aop, h1, h2, h3, h x (by simp)]
  | slcArr n es x lo hi mx =>
    simp only [AOp.opds] at h
    have h1 : lo.map ρ = lo.map ρ' := by cases lo <;> simp; exact h _ (by simp)
    have h2 : hi.map ρ = hi.map ρ' := by cases hi <;> simp; exact h _ (by simp)
    have h3 : mx.map ρ = mx.map ρ' := by cases mx <;> simp; exact h _ (by simp)
    simp only [ado, aop, h1, h2, h3, h x (by simp)]
  | _ => simp only [AOp.opds, List.mem_cons, List.not_mem_nil, or_false, forall_eq_or_imp, forall_eq, false_implies, implies_true] at h; simp only [ado, aop, h]

theorem aop_pure {o : AOp} (he : o.eff = false) (hr : o.reads = false) (call : ACall) (ρ : AOpd → AVal) : ∃ r : Option AVal, ∀ H, ado call o ρ H = r.map fun v => (v, H) := by
  refine ⟨(ado call o ρ ⟨fun _ => none, 0⟩).map (·.1), fun H => ?_⟩
  cases o <;> simp [AOp.eff] at he <;> simp [AOp.reads] at hr <;> simp only [ado, aop] <;> first
    | (simp [Option.map_map, Function.comp_def]; done)
    | (split <;> simp [Option.map_map, Function.comp_def])

theorem aop_still {o : AOp} (he : o.eff = false) {call : ACall} {ρ : AOpd → AVal} {H H' : AHeap} {v : AVal} (h : ado call o ρ H = some (v, H')) : H' = H ∧ (o.reads = false → ∀ H1, ado call o ρ H1 = some (v, H1)) := by
  by_cases hr : o.reads = false
  · obtain ⟨r, hr'⟩ := aop_pure he hr call ρ
    rw [hr'] at h
    simp only [Option.map_eq_some_iff, Prod.mk.injEq] at h
    obtain ⟨u, hu, rfl, rfl⟩ := h
    exact ⟨rfl, fun _ H1 => by rw [hr' H1, hu]; rfl⟩
  · refine ⟨?_, fun h => absurd h hr⟩
    cases o <;> simp [AOp.reads] at hr <;> simp only [ado, aop] at h
    · simp only [Option.map_eq_some_iff, Prod.mk.injEq] at h
      obtain ⟨_, _, _, h⟩ := h
      exact h.symm
    · split at h
      · simp at h
      · simp only [Option.bind_eq_some_iff, Option.map_eq_some_iff, Prod.mk.injEq] at h
        obtain ⟨_, _, _, _, _, _, _, h⟩ := h
        exact h.symm

/-! ### Objects are made, none is taken back -/
def CallUp (call : ACall) : Prop := ∀ f args H v H', call f args H = some (v, H') → Up H H'

theorem ado_up {call : ACall} (hc : CallUp call) {o : AOp} {ρ : AOpd → AVal} {H H' : AHeap} {v : AVal} (h : ado call o ρ H = some (v, H')) : Up H H' := by
  by_cases he : o.eff = false
  · rw [(aop_still he h).1]; exact Up.refl _
  · cases o <;> simp [AOp.eff] at he <;> simp only [ado, aop] at h
    case new => simp at h; obtain ⟨_, rfl⟩ := h; exact Up.new _ _
    case box =>
      split at h
      · cases h
      · simp at h; obtain ⟨_, rfl⟩ := h; exact Up.new _ _
    case buildS =>
      simp only [Option.map_eq_some_iff, Prod.mk.injEq] at h
      obtain ⟨_, _, _, rfl⟩ := h
      exact Up.new _ _
    case store =>
      simp only [Option.map_eq_some_iff, Prod.mk.injEq] at h
      obtain ⟨K, hK, _, rfl⟩ := h
      unfold astore at hK
      repeat' (split at hK)
      all_goals (try cases hK)
      exact Up.set _ _ _
    case sToB =>
      split at h
      · simp at h; obtain ⟨_, rfl⟩ := h; exact Up.new _ _
      · cases h
    case mkS =>
      unfold amkS at h
      repeat' (split at h)
      all_goals (try cases h)
      exact Up.new _ _
    case append =>
      simp only [aappend, Option.bind_eq_some_iff] at h
      obtain ⟨n, _, new, _, h⟩ := h
      split at h
      · split at h
        · simp at h; obtain ⟨_, rfl⟩ := h; exact Up.refl _
        · split at h
          · simp at h; obtain ⟨_, rfl⟩ := h; exact Up.new _ _
          · cases h
      · split at h
        · split at h
          · simp at h; obtain ⟨_, rfl⟩ := h; exact Up.refl _
          · split at h
            · split at h
              · simp at h; obtain ⟨_, rfl⟩ := h; exact Up.set _ _ _
              · cases h
            · cases h
        · simp only [Option.bind_eq_some_iff] at h
          obtain ⟨old, _, h⟩ := h
          split at h
          · split at h
            · simp at h; obtain ⟨_, rfl⟩ := h; exact Up.new _ _
            · split at h
              · split at h
                · simp at h; obtain ⟨_, rfl⟩ := h; exact (Up.del _ _).trans (Up.new _ _)
                · cases h
              · cases h
          · cases h
      · cases h
    case appendZ =>
      unfold aappendZ at h
      split at h
      case h_2 => cases h
      split at h
      case isFalse => cases h
      simp only at h
      split at h
      · split at h
        · simp at h; obtain ⟨_, rfl⟩ := h; exact Up.refl _
        · split at h
          · simp at h; obtain ⟨_, rfl⟩ := h; exact Up.new _ _
          · cases h
      · split at h
        · split at h
          · simp at h; obtain ⟨_, rfl⟩ := h; exact Up.refl _
          · split at h
            · split at h
              · simp at h; obtain ⟨_, rfl⟩ := h; exact Up.set _ _ _
              · cases h
            · cases h
        · simp only [Option.bind_eq_some_iff] at h
          obtain ⟨old, _, h⟩ := h
          split at h
          · split at h
            · simp at h; obtain ⟨_, rfl⟩ := h; exact Up.new _ _
            · split at h
              · split at h
                · simp at h; obtain ⟨_, rfl⟩ := h; exact (Up.del _ _).trans (Up.new _ _)
                · cases h
              · cases h
          · cases h
      · cases h
    case copy =>
      simp only [acopy, Option.bind_eq_some_iff] at h
      obtain ⟨n, _, d, _, new, _, h⟩ := h
      split at h
      · simp at h; obtain ⟨_, rfl⟩ := h; exact Up.refl _
      · split at h
        · simp at h; obtain ⟨_, rfl⟩ := h; exact Up.refl _
        · split at h
          · split at h
            · simp at h; obtain ⟨_, rfl⟩ := h; exact Up.set _ _ _
            · cases h
          · cases h
      · cases h
    case clearS =>
      simp only [Option.map_eq_some_iff, Prod.mk.injEq] at h
      obtain ⟨K, hK, _, rfl⟩ := h
      unfold aclear at hK
      repeat' (split at hK)
      all_goals (try cases hK)
      all_goals first | exact Up.refl _ | exact Up.set _ _ _
    case call =>
      split at h
      · exact hc _ _ _ _ _ h
      · cases h

theorem aops_up {call : ACall} (hc : CallUp call) : ∀ {l : List AOper} {env env' : Env} {H H' : AHeap}, aops call l env H = some (env', H') → Up H H'
  | [], env, env', H, H', h => by simp [aops] at h; rw [h.2]; exact Up.refl _
  | o :: l, env, env', H, H', h => by
    simp only [aops] at h
    split at h
    · simp only [Option.bind_eq_some_iff] at h
      obtain ⟨⟨v, H1⟩, h1, h2⟩ := h
      exact Up.trans (ado_up hc h1) (aops_up hc h2)
    · exact aops_up hc h

theorem adraw_up {call : ACall} (hc : CallUp call) : ∀ {l : List AOper} {env env' : Env} {H H' : AHeap} {st : List AHeap} {rs : List ARead}, adraw call l env H st rs = some (env', H') → Up H H'
  | [], env, env', H, H', st, rs, h => by
    simp only [adraw] at h
    split at h
    · simp at h; rw [h.2]; exact Up.refl _
    · cases h
  | o :: l, env, env', H, H', st, rs, h => by
    simp only [adraw] at h
    split at h
    · simp only [Option.bind_eq_some_iff] at h
      obtain ⟨⟨v, H1⟩, h1, h2⟩ := h
      exact Up.trans (ado_up hc h1) (adraw_up hc h2)
    · exact adraw_up hc h

theorem aiter_up {f : ARun} (hf : ∀ env H r, f env H = some r → Up H r.2.2) : ∀ {n : Nat} {env : Env} {H : AHeap} {r : AExit × Env × AHeap}, aiter f n env H = some r → Up H r.2.2
  | 0, env, H, r, h => by simp [aiter] at h
  | n + 1, env, H, r, h => by
    simp only [aiter, Option.bind_eq_some_iff] at h
    obtain ⟨⟨e, env1, H1⟩, h1, h2⟩ := h
    have := hf _ _ _ h1
    cases e
    · exact Up.trans this (aiter_up hf h2)
    · simp at h2; subst h2; exact this
    · simp at h2; subst h2; exact this

theorem ady_up {call : ACall} (hc : CallUp call) {tok : Nat} {yl : AYield} (hy : ∀ st args H r, yl st args H = some r → Up H r.2.2) {o : AOp} {ρ : AOpd → AVal} {st : APend} {H : AHeap} {r : AVal × APend × AHeap} (h : ady call tok yl o ρ st H = some r) : Up H r.2.2 := by
  by_cases hcall : ∃ f args, o = .call f args
  · obtain ⟨f, args, rfl⟩ := hcall
    simp only [ady] at h
    split at h
    · split at h
      · simp only [Option.map_eq_some_iff] at h
        obtain ⟨x, hx, rfl⟩ := h
        exact hy _ _ _ _ hx
      · cases h
    · simp only [Option.map_eq_some_iff] at h
      obtain ⟨x, hx, rfl⟩ := h
      exact hc _ _ _ _ _ hx
    · cases h
  · have h2 : (aop o ρ H).map (fun r => (r.1, st, r.2)) = some r := by
      cases o <;> first | exact h | exact absurd ⟨_, _, rfl⟩ hcall
    simp only [Option.map_eq_some_iff] at h2
    obtain ⟨⟨v, H1⟩, hx, rfl⟩ := h2
    have h3 : ado call o ρ H = some (v, H1) := by
      cases o <;> first | exact hx | exact absurd ⟨_, _, rfl⟩ hcall
    exact ado_up hc h3
theorem aopsY_up {call : ACall} (hc : CallUp call) {tok : Nat} {yl : AYield} (hy : ∀ st args H r, yl st args H = some r → Up H r.2.2) : ∀ {l : List AOper} {st : APend} {env : Env} {H : AHeap} {r : APend × Env × AHeap}, aopsY call tok yl l st env H = some r → Up H r.2.2
  | [], st, env, H, r, h => by simp [aopsY] at h; subst h; exact Up.refl _
  | o :: l, st, env, H, r, h => by
    simp only [aopsY] at h
    split at h
    · simp only [Option.bind_eq_some_iff] at h
      obtain ⟨x, hx, h⟩ := h
      exact (ady_up hc hy hx).trans (aopsY_up hc hy h)
    · exact aopsY_up hc hy h
theorem aiterY_up {f : ARunY} (hf : ∀ st env H r, f st env H = some r → Up H r.2.2.2) : ∀ {n : Nat} {st : APend} {env : Env} {H : AHeap} {r : AExit × APend × Env × AHeap}, aiterY f n st env H = some r → Up H r.2.2.2
  | 0, _, _, _, _, h => by simp [aiterY] at h
  | n + 1, st, env, H, r, h => by
    simp only [aiterY, Option.bind_eq_some_iff] at h
    obtain ⟨x, hx, h⟩ := h
    split at h
    · exact (hf _ _ _ _ hx).trans (aiterY_up hf h)
    · simp at h; subst h; exact hf _ _ _ _ hx
theorem aexecY_up {call : ACall} (hc : CallUp call) {tok : Nat} {yl : AYield} (hy : ∀ st args H r, yl st args H = some r → Up H r.2.2) {n : Nat} : ∀ (c : ACode) {st : APend} {env : Env} {H : AHeap} {r : AExit × APend × Env × AHeap}, aexecY call tok yl n c st env H = some r → Up H r.2.2.2
  | .skip, _, _, _, _, h => by simp [aexecY] at h; subst h; exact Up.refl _
  | .region ops, _, _, _, _, h => by
    simp only [aexecY, Option.map_eq_some_iff] at h
    obtain ⟨x, hx, rfl⟩ := h
    exact aopsY_up hc hy hx
  | .draw ops, _, _, _, _, h => by
    simp only [aexecY, Option.map_eq_some_iff] at h
    obtain ⟨x, hx, rfl⟩ := h
    exact adraw_up hc hx
  | .seq a b, _, _, _, _, h => by
    simp only [aexecY, Option.bind_eq_some_iff] at h
    obtain ⟨x, hx, h⟩ := h
    have := aexecY_up hc hy a hx
    split at h
    · exact this.trans (aexecY_up hc hy b h)
    · simp at h; subst h; exact this
  | .cond c a b, _, _, _, _, h => by
    simp only [aexecY] at h
    split at h
    · split at h
      · exact aexecY_up hc hy a h
      · exact aexecY_up hc hy b h
    · cases h
  | .block id a, _, _, _, _, h => by
    simp only [aexecY, Option.map_eq_some_iff] at h
    obtain ⟨x, hx, h⟩ := h
    have := aexecY_up hc hy a hx
    split at h
    · split at h <;> (subst h; exact this)
    · subst h; exact this
  | .loop a, _, _, _, _, h => by
    simp only [aexecY] at h
    exact aiterY_up (fun st env H r h => aexecY_up hc hy a h) h
  | .exit id, _, _, _, _, h => by simp [aexecY] at h; subst h; exact Up.refl _
  | .ret, _, _, _, _, h => by simp [aexecY] at h; subst h; exact Up.refl _
  | .range .., _, _, _, _, h => by simp [aexecY] at h
theorem ayield_up {fa fb : ARun} (ha : ∀ env H r, fa env H = some r → Up H r.2.2) (hb : ∀ env H r, fb env H = some r → Up H r.2.2) {ps : List Nat} {env : Env} (st : APend) (args : List AVal) (H : AHeap) (r : Bool × APend × AHeap) (h : ayield fa fb ps env st args H = some r) : Up H r.2.2 := by
  unfold ayield at h
  split at h
  · simp only [Option.bind_eq_some_iff] at h
    obtain ⟨x, hx, h⟩ := h
    split at h
    · simp only [Option.map_eq_some_iff] at h
      obtain ⟨q, hq, h⟩ := h
      have := (ha _ _ _ hx).trans (hb _ _ _ hq)
      split at h <;> (subst h; exact this)
    · cases h
  · cases h
theorem Up.skip (H : AHeap) : Up H H.skip := ⟨Nat.le_succ _, fun id l h => h⟩
theorem arange_up {call : ACall} (hc : CallUp call) {it : FuncId → Option AFn} {n : Nat} {fa fb : ARun} (ha : ∀ env H r, fa env H = some r → Up H r.2.2) (hb : ∀ env H r, fb env H = some r → Up H r.2.2) {ps : List Nat} {env : Env} {H : AHeap} {v : AVal} {r : AExit × Env × AHeap}
    (h : arange call it n fa fb ps env H v = some r) : Up H r.2.2 := by
  unfold arange at h
  split at h
  · simp only [Option.bind_eq_some_iff] at h
    obtain ⟨fn, _, h⟩ := h
    split at h
    · simp only [Option.bind_eq_some_iff] at h
      obtain ⟨x, hx, h⟩ := h
      have := (Up.skip H).trans (aexecY_up hc (ayield_up ha hb) _ hx)
      split at h
      · cases h
      · simp at h; subst h; exact this
    · cases h
  · cases h

theorem aexec_up {call : ACall} (hc : CallUp call) {it : FuncId → Option AFn} {n : Nat} : ∀ (c : ACode) {env : Env} {H : AHeap} {r : AExit × Env × AHeap}, aexec call it n c env H = some r → Up H r.2.2
  | .skip, env, H, r, h => by simp [aexec] at h; subst h; exact Up.refl _
  | .region ops, env, H, r, h => by
    simp only [aexec, Option.map_eq_some_iff] at h
    obtain ⟨⟨env1, H1⟩, h1, rfl⟩ := h
    exact aops_up hc h1
  | .draw ops, env, H, r, h => by
    simp only [aexec, Option.map_eq_some_iff] at h
    obtain ⟨⟨env1, H1⟩, h1, rfl⟩ := h
    exact adraw_up hc h1
  | .seq a b, env, H, r, h => by
    simp only [aexec, Option.bind_eq_some_iff] at h
    obtain ⟨⟨e, env1, H1⟩, h1, h2⟩ := h
    have := aexec_up hc a h1
    cases e
    · exact Up.trans this (aexec_up hc b h2)
    · simp at h2; subst h2; exact this
    · simp at h2; subst h2; exact this
  | .cond c a b, env, H, r, h => by
    simp only [aexec] at h
    split at h
    · split at h
      · exact aexec_up hc a h
      · exact aexec_up hc b h
    · cases h
  | .block id a, env, H, r, h => by
    simp only [aexec, Option.map_eq_some_iff] at h
    obtain ⟨⟨e, env1, H1⟩, h1, rfl⟩ := h
    have := aexec_up hc a h1
    cases e
    · exact this
    · simp only
      split <;> exact this
    · exact this
  | .loop a, env, H, r, h => by
    simp only [aexec] at h
    exact aiter_up (fun env H r h => aexec_up hc a h) h
  | .exit id, env, H, r, h => by simp [aexec] at h; subst h; exact Up.refl _
  | .ret, env, H, r, h => by simp [aexec] at h; subst h; exact Up.refl _
  | .range f ps as bd, env, H, r, h => by
    simp only [aexec] at h
    exact arange_up hc (fun env H r h => aexec_up hc as h) (fun env H r h => aexec_up hc bd h) h

theorem arun_up {call : ACall} (hc : CallUp call) {it : FuncId → Option AFn} {k : Nat} {x : Option AFn} {args : List AVal} {H H' : AHeap} {v : AVal} (h : arun call it k x args H = some (v, H')) : Up H H' := by
  simp only [arun, Option.bind_eq_some_iff] at h
  obtain ⟨fn, _, ⟨e, env, K⟩, h1, h2⟩ := h
  have := aexec_up hc _ h1
  cases e <;> simp [aend] at h2
  · obtain ⟨_, _, _, rfl⟩ := h2; exact this
  · obtain ⟨_, _, _, rfl⟩ := h2; exact this

theorem gc_up (n : Nat) (H : AHeap) (v : AVal) (K : AHeap) : Up H (gc n H v K).2 := by
  have key : ∀ (σ : Nat → Nat) (L : List Nat) (H : AHeap), (∀ i, i ∈ L → ∃ l, K.obj i = some (.cells l true)) → Up H (L.foldl (fun J i => addObj σ J (K.obj i)) H) := by
    intro σ L
    induction L with
    | nil => intro H _; exact Up.refl _
    | cons i L ih =>
      intro H hL
      obtain ⟨l, hl⟩ := hL i (by simp)
      refine Up.trans ?_ (ih _ (fun j hj => hL j (by simp [hj])))
      simp only [hl]
      exact Up.new _ _
  simp only [gc]
  split
  · rename_i hok
    exact key _ _ _ fun i hi => let ⟨l, h1, _⟩ := okObj_inv (List.all_eq_true.1 hok i hi); ⟨l, h1⟩
  · split
    · rename_i hok
      exact key _ _ _ fun i hi => let ⟨l, h1, _⟩ := okObj_inv (List.all_eq_true.1 hok i hi); ⟨l, h1⟩
    · refine ⟨Nat.le_add_right _ _, fun id l h => ?_⟩
      simp only [keepAll] at h
      split at h
      · exact h
      · unfold keepObj at h
        split at h
        · cases h
        · cases h

theorem callSound_up {call : ACall} (h : CallSound P w0 B call) : CallUp call := fun f args H v H' hc => (h f args H v H' hc).2.1

/-! ### The run in the order of the text, taken apart -/
structure Trace (call : ACall) (al : List AOper) (E : Nat → Env) (G : Nat → AHeap) (V : Nat → AVal) : Prop where
  step : ∀ i x, al[i]? = some x → E (i + 1) = setd (E i) x.dst (V i) ∧ (agd (E i) x.guard = true → ado call x.op (aev (E i)) (G i) = some (V i, G (i + 1))) ∧ (agd (E i) x.guard = false → V i = aundef ∧ G (i + 1) = G i)

def effc (al : List AOper) (n : Nat) : Nat := ((al.take n).filter (·.op.eff)).length

def HasTrace (call : ACall) (al : List AOper) (env : Env) (H : AHeap) (st : List AHeap) (rs : List ARead) (env' : Env) (H' : AHeap) : Prop :=
    ∃ E G V st', E 0 = env ∧ G 0 = H ∧ E al.length = env' ∧ G al.length = H' ∧ Trace call al E G V ∧ (∀ k, k < st.length → st'[k]? = st[k]?) ∧
      (∀ i x, al[i]? = some x → x.op.eff = true → st'[st.length + effc al i]? = some (G (i + 1))) ∧ (∀ r, r ∈ rs → r.ok st' = true) ∧
      (∀ i x lo hi, al[i]? = some x → x.rd = some (lo, hi) → agd (E i) x.guard = true → (⟨x.op, E i, V i, lo, hi⟩ : ARead).ok st' = true)

theorem adraw_trace {call : ACall} : ∀ (al : List AOper) (env : Env) (H : AHeap) (st : List AHeap) (rs : List ARead) (env' : Env) (H' : AHeap), adraw call al env H st rs = some (env', H') → HasTrace call al env H st rs env' H'
  | [], env, H, st, rs, env', H', h => by
    simp only [adraw] at h
    split at h
    · rename_i hr
      simp at h
      obtain ⟨rfl, rfl⟩ := h
      refine ⟨fun _ => env, fun _ => H, fun _ => aundef, st, rfl, rfl, rfl, rfl, ⟨by simp⟩, fun _ _ => rfl, by simp, ?_, by simp⟩
      intro r hr'
      exact List.all_eq_true.1 hr r hr'
    · simp at h
  | o :: l, env, H, st, rs, env', H', h => by
    simp only [adraw] at h
    have build : ∀ (v : AVal) (H1 : AHeap) (rs1 : List ARead), (agd env o.guard = true → ado call o.op (aev env) H = some (v, H1)) → (agd env o.guard = false → v = aundef ∧ H1 = H) →
        adraw call l (setd env o.dst v) H1 (if o.op.eff then st ++ [H1] else st) rs1 = some (env', H') → (∀ r, r ∈ rs → r ∈ rs1) → (∀ lo hi, o.rd = some (lo, hi) → agd env o.guard = true → (⟨o.op, env, v, lo, hi⟩ : ARead) ∈ rs1) → HasTrace call (o :: l) env H st rs env' H' := by
      intro v H1 rs1 h1 h2 h3 h4 h5
      obtain ⟨E, G, V, st', e0, g0, e1, g1, htr, hst, hsteff, hrs, hrd⟩ := adraw_trace l _ H1 _ rs1 env' H' h3
      refine ⟨fun i => if i = 0 then env else E (i - 1), fun i => if i = 0 then H else G (i - 1), fun i => if i = 0 then v else V (i - 1), st', rfl, rfl, by simpa using e1, by simpa using g1, ⟨?_⟩, ?_, ?_, fun r hr => hrs r (h4 r hr), ?_⟩
      · intro i x hx
        cases i with
        | zero =>
          simp at hx; subst hx
          simp [e0, g0]
          exact ⟨h1, h2⟩
        | succ i =>
          have hx' : l[i]? = some x := hx
          exact htr.step i x hx'
      · intro k hk
        by_cases ho : o.op.eff = true
        · have := hst k (by rw [if_pos ho]; simp; omega)
          rw [this, if_pos ho, List.getElem?_append_left hk]
        · have := hst k (by rw [if_neg ho]; exact hk)
          rw [this, if_neg ho]
      · intro i x hx hxe
        cases i with
        | zero =>
          simp at hx; subst hx
          have := hst st.length (by rw [if_pos hxe]; simp)
          rw [if_pos hxe] at this
          simp [effc, this, g0]
        | succ i =>
          have hx' : l[i]? = some x := hx
          have := hsteff i x hx' hxe
          show st'[st.length + effc (o :: l) (i + 1)]? = some (G (i + 1))
          rw [← this]
          congr 1
          by_cases ho : o.op.eff = true
          · simp [effc, ho, List.filter_cons]; omega
          · simp [effc, ho, List.filter_cons]
      · intro i x lo hi hx hxr hg
        cases i with
        | zero =>
          simp at hx; subst hx
          exact hrs _ (h5 lo hi hxr (by simpa using hg))
        | succ i =>
          have hx' : l[i]? = some x := hx
          exact hrd i x lo hi hx' hxr hg
    cases hag : agd env o.guard with
    | true =>
      rw [hag] at h
      simp only [if_true, Option.bind_eq_some_iff] at h
      obtain ⟨⟨v, H1⟩, hv, h⟩ := h
      refine build v H1 _ (fun _ => hv) (by simp [hag]) h ?_ ?_
      · intro r hr
        split
        · exact hr
        · simp [hr]
      · intro lo hi hrd _
        rw [hrd]; simp
    | false =>
      rw [hag] at h
      simp only [Bool.false_eq_true, if_false] at h
      exact build aundef H rs (by simp [hag]) (fun _ => ⟨rfl, rfl⟩) h (fun _ hr => hr) (by simp [hag])

/-! ### Counting -/
theorem countP_congr' {p q : Nat → Bool} {n : Nat} (h : ∀ i, i < n → p i = q i) : (List.range n).countP p = (List.range n).countP q :=
  List.countP_congr fun i hi => by rw [h i (List.mem_range.1 hi)]

theorem countP_le' {p q : Nat → Bool} {n : Nat} (h : ∀ i, i < n → p i = true → q i = true) : (List.range n).countP p ≤ (List.range n).countP q :=
  List.countP_mono_left fun i hi => h i (List.mem_range.1 hi)

/-- How many of the first i operations may change the memory. -/
def effn (al : List AOper) (i : Nat) : Nat := (List.range al.length).countP fun j => effb al j && decide (j < i)

theorem countP_lt (p : Nat → Bool) : ∀ (n i : Nat), i ≤ n → (List.range n).countP (fun j => p j && decide (j < i)) = (List.range i).countP p
  | n, i, h => by
    induction n with
    | zero => have : i = 0 := by omega
              subst this; rfl
    | succ n ih =>
      by_cases hi : i ≤ n
      · rw [List.range_succ, List.countP_append, ih hi]
        simp [show ¬ n < i by omega]
      · have : i = n + 1 := by omega
        subst this
        exact countP_congr' fun j hj => by simp [hj]

theorem effn_succ {al : List AOper} {i : Nat} (hi : i < al.length) : effn al (i + 1) = effn al i + if effb al i then 1 else 0 := by
  unfold effn
  rw [countP_lt _ _ _ (by omega), countP_lt _ _ _ (by omega), List.range_succ, List.countP_append]
  simp [List.countP_cons]

theorem effc_eq {al : List AOper} : ∀ {i : Nat}, i ≤ al.length → effc al i = effn al i := by
  intro i hi
  induction i with
  | zero => simp [effc, effn]
  | succ i ih =>
    have hlt : i < al.length := by omega
    rw [effn_succ hlt, ← ih (by omega)]
    simp only [effc, List.take_add_one, List.getElem?_eq_getElem hlt, Option.toList_some, List.filter_append, List.length_append]
    congr 1
    simp [effb, List.getElem?_eq_getElem hlt, List.filter_cons]
    split <;> rfl

/-! ### The temporaries, at a set of operations carried out -/
/-- The frame behind those operations of the first n that are in S, in the order of the text. -/
def curE (al : List AOper) (env : Env) (V : Nat → AVal) (S : Nat → Bool) : Nat → Env
  | 0 => env
  | n + 1 => if S n then setd (curE al env V S n) ((al[n]?).bind (·.dst)) (V n) else curE al env V S n

theorem setd_other {env : Env} {d : Option Nat} {v : AVal} {t : Nat} (h : d ≠ some t) : setd env d v t = env t := by
  cases d with
  | none => rfl
  | some d => simp only [setd, Env.set]; rw [if_neg (by intro he; exact h (by rw [he]))]

/-- Where just the writers ahead of i have been carried out, the temporary reads as it did in the order of the text. -/
theorem curE_at {al : List AOper} {env : Env} {V : Nat → AVal} {S : Nat → Bool} {E : Nat → Env} {call : ACall} {G : Nat → AHeap} (h0 : E 0 = env) (htr : Trace call al E G V) {t i : Nat} (hi : i ≤ al.length)
    (hw : ∀ j x, al[j]? = some x → x.dst = some t → (j < i → S j = true) ∧ (i ≤ j → S j = false)) : curE al env V S al.length t = E i t := by
  have h1 : ∀ k, k ≤ i → curE al env V S k t = E k t := by
    intro k
    induction k with
    | zero => intro _; rw [h0]; rfl
    | succ k ih =>
      intro hk
      have hlt : k < al.length := by omega
      have hx := List.getElem?_eq_getElem hlt
      obtain ⟨hE, _⟩ := htr.step k _ hx
      rw [hE]
      simp only [curE, hx, Option.bind_some]
      by_cases hd : (al[k]).dst = some t
      · rw [if_pos ((hw k _ hx hd).1 (by omega)), hd]
        simp [setd, Env.set]
      · rw [setd_other hd]
        split
        · rw [setd_other hd]; exact ih (by omega)
        · exact ih (by omega)
  have h2 : ∀ k, i ≤ k → k ≤ al.length → curE al env V S k t = curE al env V S i t := by
    intro k hik
    induction k with
    | zero => intro _; have : i = 0 := by omega
              rw [this]
    | succ k ih =>
      intro hk
      by_cases hki : i = k + 1
      · rw [hki]
      · have hlt : k < al.length := by omega
        have hx := List.getElem?_eq_getElem hlt
        simp only [curE, hx, Option.bind_some]
        by_cases hd : (al[k]).dst = some t
        · rw [if_neg (by rw [(hw k _ hx hd).2 (by omega)]; simp)]; exact ih (by omega) (by omega)
        · split
          · rw [setd_other hd]; exact ih (by omega) (by omega)
          · exact ih (by omega) (by omega)
  rw [h2 _ hi (Nat.le_refl _), h1 i (Nat.le_refl _)]

/-- One operation more. -/
theorem curE_insert {al : List AOper} {env : Env} {V : Nat → AVal} {S S' : Nat → Bool} {i : Nat} {x : AOper} (hx : al[i]? = some x) (hS : S i = false) (hS' : ∀ j, S' j = (S j || j == i)) {t : Nat}
    (hl : ∀ j y, al[j]? = some y → x.dst = some t → y.dst = some t → i < j → S j = false) :
    curE al env V S' al.length t = if x.dst = some t then V i else curE al env V S al.length t := by
  have hi : i < al.length := by
    rcases Nat.lt_or_ge i al.length with h | h
    · exact h
    · rw [List.getElem?_eq_none h] at hx; cases hx
  have h1 : ∀ k, k ≤ i → curE al env V S' k t = curE al env V S k t := by
    intro k
    induction k with
    | zero => intro _; rfl
    | succ k ih =>
      intro hk
      simp only [curE]
      have : S' k = S k := by rw [hS' k]; simp [show k ≠ i by omega]
      rw [this]
      split
      · cases hd : (al[k]?).bind (·.dst) with
        | none => simp only [setd]; exact ih (by omega)
        | some d => simp only [setd, Env.set]; rw [ih (by omega)]
      · exact ih (by omega)
  have h2 : ∀ k, i < k → k ≤ al.length → curE al env V S' k t = if x.dst = some t then V i else curE al env V S k t := by
    intro k hik
    induction k with
    | zero => omega
    | succ k ih =>
      intro hk
      by_cases hki : k = i
      · subst hki
        simp only [curE, hx, Option.bind_some, hS, Bool.false_eq_true, if_false]
        rw [if_pos (by rw [hS' k]; simp)]
        by_cases hd : x.dst = some t
        · rw [if_pos hd, hd]; simp [setd, Env.set]
        · rw [if_neg hd, setd_other hd]; exact h1 k (Nat.le_refl _)
      · have ih' := ih (by omega) (by omega)
        have hlt : k < al.length := by omega
        have hxk := List.getElem?_eq_getElem hlt
        have : S' k = S k := by rw [hS' k]; simp [hki]
        simp only [curE, this, hxk, Option.bind_some]
        by_cases hd : (al[k]).dst = some t
        · by_cases hdx : x.dst = some t
          · rw [if_pos hdx] at ih' ⊢
            rw [if_neg (by rw [hl k _ hxk hdx hd (by omega)]; simp)]
            exact ih'
          · rw [if_neg hdx] at ih' ⊢
            split
            · rw [hd]; simp [setd, Env.set]
            · exact ih'
        · split
          · rw [setd_other hd, setd_other hd]; exact ih'
          · exact ih'
  exact h2 _ hi (Nat.le_refl _)

end Go.Proofs.Ytilhjcnkaelheaa.Am
