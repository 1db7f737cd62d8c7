/- Calls that only look, and calls on plain values: what they answer, whatever else they make. Slices: reading, growing. Runs that end so. -/
import Derived.Test.YtilhjcnkaelheaaAmExt
set_option linter.unusedSimpArgs false
set_option linter.unusedVariables false
namespace Go.Proofs.Ytilhjcnkaelheaa.Am
open Go Go.RowKit

theorem frz_next (H : AHeap) : (frz H).next = H.next := hid rfl
theorem frz_obj {H : AHeap} {i : Nat} {l : List AVal} {own : Bool} (h : H.obj i = some (.cells l own)) : (frz H).obj i = some (.cells l false) := by simp [frz, h]

/-! ### Values that name old objects alone -/
theorem ids_old {n : Nat} : ∀ (v : AVal), v.old n = true → ∀ i, i ∈ v.ids → i < n
  | .bool _, _, i, h => by simp [AVal.ids] at h
  | .int .., _, i, h => by simp [AVal.ids] at h
  | .flt .., _, i, h => by simp [AVal.ids] at h
  | .str _, _, i, h => by simp [AVal.ids] at h
  | .nilp, _, i, h => by simp [AVal.ids] at h
  | .nils, _, i, h => by simp [AVal.ids] at h
  | .nilm, _, i, h => by simp [AVal.ids] at h
  | .nilFunc, _, i, h => by simp [AVal.ids] at h
  | .nilIface, _, i, h => by simp [AVal.ids] at h
  | .junk, _, i, h => by simp [AVal.ids] at h
  | .any, _, i, h => by simp [AVal.ids] at h
  | .ptr id _, h, i, hi => by simp [AVal.ids] at hi; subst hi; simpa [AVal.old] using h
  | .slice id .., h, i, hi => by simp [AVal.ids] at hi; subst hi; simpa [AVal.old] using h
  | .map id, h, i, hi => by simp [AVal.ids] at hi; subst hi; simpa [AVal.old] using h
  | .yield id, h, i, hi => by simp [AVal.ids] at hi; subst hi; simpa [AVal.old] using h
  | .func _ f c, h, i, hi => by
    simp only [AVal.old, Bool.and_eq_true] at h
    simp only [AVal.ids, List.mem_append] at hi
    rcases hi with hi | hi
    · exact idsl_old f h.1 i hi
    · exact idsl_old c h.2 i hi
  | .iface _ v, h, i, hi => ids_old v (by simpa [AVal.old] using h) i (by simpa [AVal.ids] using hi)
  | .agg l, h, i, hi => idsl_old l (by simpa [AVal.old] using h) i (by simpa [AVal.ids] using hi)
  | .tuple l, h, i, hi => idsl_old l (by simpa [AVal.old] using h) i (by simpa [AVal.ids] using hi)
where
  idsl_old {n : Nat} : ∀ (l : List AVal), oldl n l = true → ∀ i, i ∈ idsl l → i < n
    | [], _, i, h => by simp [idsl] at h
    | v :: l, h, i, hi => by
      simp only [oldl, Bool.and_eq_true] at h
      simp only [idsl, List.mem_append] at hi
      rcases hi with hi | hi
      · exact ids_old v h.1 i hi
      · exact idsl_old l h.2 i hi

theorem ren_same {σ : Nat → Nat} : ∀ (v : AVal), (∀ i, i ∈ v.ids → σ i = i) → v.ren σ = v
  | .bool _, _ | .int .., _ | .flt .., _ | .str _, _ | .nilp, _ | .nils, _ | .nilm, _ | .nilFunc, _ | .nilIface, _ | .junk, _ | .any, _ => rfl
  | .ptr id _, h => by simp [AVal.ren, h id (by simp [AVal.ids])]
  | .slice id .., h => by simp [AVal.ren, h id (by simp [AVal.ids])]
  | .map id, h => by simp [AVal.ren, h id (by simp [AVal.ids])]
  | .yield id, h => by simp [AVal.ren, h id (by simp [AVal.ids])]
  | .func _ f c, h => by
    simp only [AVal.ids, List.mem_append] at h
    simp only [AVal.ren]
    rw [renl_same f (fun i hi => h i (.inl hi)), renl_same c (fun i hi => h i (.inr hi))]
  | .iface _ v, h => by
    simp only [AVal.ids] at h
    simp only [AVal.ren, ren_same v h]
  | .agg l, h => by
    simp only [AVal.ids] at h
    simp only [AVal.ren, renl_same l h]
  | .tuple l, h => by
    simp only [AVal.ids] at h
    simp only [AVal.ren, renl_same l h]
where
  renl_same {σ : Nat → Nat} : ∀ (l : List AVal), (∀ i, i ∈ idsl l → σ i = i) → renl σ l = l
    | [], _ => rfl
    | v :: l, h => by
      simp only [idsl, List.mem_append] at h
      simp only [renl]
      rw [ren_same v (fun i hi => h i (.inl hi)), renl_same l (fun i hi => h i (.inr hi))]

theorem sig_old {n b : Nat} {L : List Nat} {i : Nat} (h : i < n) : sig n b L i = i := by simp [sig, h]

theorem old_plain {n : Nat} : ∀ (v : AVal), plain v = true → v.old n = true
  | .bool _, _ | .int .., _ | .flt .., _ | .str _, _ | .nilp, _ | .nils, _ | .nilm, _ | .nilFunc, _ | .nilIface, _ => rfl
  | .func _ f c, h => by
    simp only [plain, Bool.and_eq_true] at h
    simp only [AVal.old, Bool.and_eq_true]
    exact ⟨oldl_plain f h.1, oldl_plain c h.2⟩
  | .iface _ v, h => by
    simp only [plain] at h
    exact old_plain v h
  | .agg l, h => by
    simp only [plain] at h
    exact oldl_plain l h
  | .tuple l, h => by
    simp only [plain] at h
    exact oldl_plain l h
  | .ptr .., h | .slice .., h | .map _, h | .yield _, h | .junk, h | .any, h => by simp [plain] at h
where
  oldl_plain {n : Nat} : ∀ (l : List AVal), plains l = true → oldl n l = true
    | [], _ => rfl
    | v :: l, h => by
      simp only [plains, Bool.and_eq_true] at h
      simp only [oldl, Bool.and_eq_true]
      exact ⟨old_plain v h.1, oldl_plain l h.2⟩

theorem filter_old {n : Nat} {v : AVal} (h : v.old n = true) : (v.ids.filter fun j => decide (n ≤ j)) = [] := by
  rw [List.filter_eq_nil_iff]
  intro j hj
  have := ids_old v h j hj
  simp; omega

theorem gc_old {n : Nat} {H H' : AHeap} {v : AVal} (h : v.old n = true) : gc n H v H' = (v, H) := by
  simp only [gc, filter_old h, nub, List.all_nil, if_true, pack, List.foldl_nil]
  rw [ren_same v (fun i hi => sig_old (ids_old v h i hi))]

theorem oldl_ids {n : Nat} {l : List AVal} (h : oldl n l = true) : ∀ i, i ∈ idsl l → i < n := ids_old.idsl_old l h

/-- One new object, of which the cells name old ones alone. -/
theorem gc_one {n id : Nat} {H K : AHeap} {v : AVal} {cs : List AVal} (hv : nub [] (v.ids.filter fun j => decide (n ≤ j)) = [id]) (ho : K.obj id = some (.cells cs true)) (hc : oldl n cs = true) :
    gc n H v K = (v.ren (sig n H.next [id]), H.new (.cells cs true)) := by
  have h1 : okObj n [id] (K.obj id) = true := by
    rw [ho]
    simp only [okObj, List.all_eq_true]
    intro j hj
    have := oldl_ids hc j hj
    simp [this]
  rw [ho] at h1
  have e : pack n H v K [id] = (v.ren (sig n H.next [id]), H.new (.cells cs true)) := by
    simp only [pack, List.foldl_cons, List.foldl_nil, ho, addObj, AObj.ren]
    rw [ren_same.renl_same cs (fun i hi => sig_old (oldl_ids hc i hi))]
  simp only [gc, hv, List.all_cons, List.all_nil, ho, h1, Bool.and_true, if_true, e]

/-- Two new objects, of which the cells name old ones alone. -/
theorem gc_two {n a b : Nat} {H K : AHeap} {v : AVal} {cs ds : List AVal} (hv : nub [] (v.ids.filter fun j => decide (n ≤ j)) = [a, b]) (ha : K.obj a = some (.cells cs true)) (hb : K.obj b = some (.cells ds true)) (hc : oldl n cs = true) (hd : oldl n ds = true) :
    gc n H v K = (v.ren (sig n H.next [a, b]), (H.new (.cells cs true)).new (.cells ds true)) := by
  have h1 : okObj n [a, b] (K.obj a) = true := by
    rw [ha]
    simp only [okObj, List.all_eq_true]
    intro j hj
    have := oldl_ids hc j hj
    simp [this]
  have h2 : okObj n [a, b] (K.obj b) = true := by
    rw [hb]
    simp only [okObj, List.all_eq_true]
    intro j hj
    have := oldl_ids hd j hj
    simp [this]
  rw [ha] at h1
  rw [hb] at h2
  have e : pack n H v K [a, b] = (v.ren (sig n H.next [a, b]), (H.new (.cells cs true)).new (.cells ds true)) := by
    simp only [pack, List.foldl_cons, List.foldl_nil, ha, hb, addObj, AObj.ren]
    rw [ren_same.renl_same cs (fun i hi => sig_old (oldl_ids hc i hi)), ren_same.renl_same ds (fun i hi => sig_old (oldl_ids hd i hi))]
  simp only [gc, hv, List.all_cons, List.all_nil, ha, hb, h1, h2, Bool.and_true, if_true, e]

theorem sig_new {n b id : Nat} (L : List Nat) (h : n ≤ id) : sig n b (id :: L) id = b := by
  simp [sig, Nat.not_lt.2 h]

variable {A : AProg}

/-- What a run answers, and what is so of the memory then. -/
def Rets (x : Option (AVal × AHeap)) (Φ : AVal → AHeap → Prop) : Prop := ∃ v H, x = some (v, H) ∧ Φ v H
theorem rets_some (v : AVal) (H : AHeap) (Φ : AVal → AHeap → Prop) : Rets (some (v, H)) Φ ↔ Φ v H := ⟨fun ⟨_, _, h1, h2⟩ => by cases h1; exact h2, fun h => ⟨_, _, rfl, h⟩⟩
theorem rets_cnd {b : Bool} {x y : Option (AVal × AHeap)} {Φ : AVal → AHeap → Prop} (h1 : b = true → Rets x Φ) (h0 : b = false → Rets y Φ) : Rets (cnd b x y) Φ := by
  cases b
  · exact h0 rfl
  · exact h1 rfl
theorem Rets.mono {x : Option (AVal × AHeap)} {Φ Ψ : AVal → AHeap → Prop} (h : Rets x Φ) (k : ∀ v H, Φ v H → Ψ v H) : Rets x Ψ := by
  obtain ⟨v, H, h1, h2⟩ := h
  exact ⟨v, H, h1, k v H h2⟩
theorem Rets.of {x : Option (AVal × AHeap)} {v : AVal} (h : Ans x v) : Rets x fun u _ => u = v := by
  obtain ⟨H, h⟩ := h
  exact ⟨v, H, h, rfl⟩

/-- How code ends. -/
def Outs (x : Option (AExit × Env × AHeap)) (Φ : AExit → Env → AHeap → Prop) : Prop := ∃ e env H, x = some (e, env, H) ∧ Φ e env H
theorem outs_some (e : AExit) (env : Env) (H : AHeap) (Φ : AExit → Env → AHeap → Prop) : Outs (some (e, env, H)) Φ ↔ Φ e env H := ⟨fun ⟨_, _, _, h1, h2⟩ => by cases h1; exact h2, fun h => ⟨_, _, _, rfl, h⟩⟩
theorem outs_cnd {b : Bool} {x y : Option (AExit × Env × AHeap)} {Φ : AExit → Env → AHeap → Prop} (h1 : b = true → Outs x Φ) (h0 : b = false → Outs y Φ) : Outs (cnd b x y) Φ := by
  cases b
  · exact h0 rfl
  · exact h1 rfl
theorem Outs.mono {x : Option (AExit × Env × AHeap)} {Φ Ψ : AExit → Env → AHeap → Prop} (h : Outs x Φ) (k : ∀ e env H, Φ e env H → Ψ e env H) : Outs x Ψ := by
  obtain ⟨e, env, H, h1, h2⟩ := h
  exact ⟨e, env, H, h1, k e env H h2⟩

/-- Behind code that ends so. -/
theorem rets_after {F : Option (AExit × Env × AHeap) → Option (AVal × AHeap)} {X : Option (AExit × Env × AHeap)} {Φ : AVal → AHeap → Prop} {Ψ : AExit → Env → AHeap → Prop} (h : Outs X Ψ) (k : ∀ e env H, Ψ e env H → Rets (F (some (e, env, H))) Φ) : Rets (F X) Φ := by
  obtain ⟨e, env, H, rfl, hp⟩ := h
  exact k e env H hp
theorem outs_after {F : Option (AExit × Env × AHeap) → Option (AExit × Env × AHeap)} {X : Option (AExit × Env × AHeap)} {Φ : AExit → Env → AHeap → Prop} {Ψ : AExit → Env → AHeap → Prop} (h : Outs X Ψ) (k : ∀ e env H, Ψ e env H → Outs (F (some (e, env, H))) Φ) : Outs (F X) Φ := by
  obtain ⟨e, env, H, rfl, hp⟩ := h
  exact k e env H hp
theorem ans_after {F : Option (AExit × Env × AHeap) → Option (AVal × AHeap)} {X : Option (AExit × Env × AHeap)} {v : AVal} {Ψ : AExit → Env → AHeap → Prop} (h : Outs X Ψ) (k : ∀ e env H, Ψ e env H → Ans (F (some (e, env, H))) v) : Ans (F X) v := by
  obtain ⟨e, env, H, rfl, hp⟩ := h
  exact k e env H hp
/-- Behind a call that answers so. -/
theorem rets_call {F : Option (AVal × AHeap) → Option (AVal × AHeap)} {X : Option (AVal × AHeap)} {Φ Ψ : AVal → AHeap → Prop} (h : Rets X Ψ) (k : ∀ v H, Ψ v H → Rets (F (some (v, H))) Φ) : Rets (F X) Φ := by
  obtain ⟨v, H, rfl, hp⟩ := h
  exact k v H hp
theorem outs_call {F : Option (AVal × AHeap) → Option (AExit × Env × AHeap)} {X : Option (AVal × AHeap)} {Φ : AExit → Env → AHeap → Prop} {Ψ : AVal → AHeap → Prop} (h : Rets X Ψ) (k : ∀ v H, Ψ v H → Outs (F (some (v, H))) Φ) : Outs (F X) Φ := by
  obtain ⟨v, H, rfl, hp⟩ := h
  exact k v H hp
theorem ans_call {F : Option (AVal × AHeap) → Option (AVal × AHeap)} {X : Option (AVal × AHeap)} {u : AVal} {Ψ : AVal → AHeap → Prop} (h : Rets X Ψ) (k : ∀ v H, Ψ v H → Ans (F (some (v, H))) u) : Ans (F X) u := by
  obtain ⟨v, H, rfl, hp⟩ := h
  exact k v H hp

/-! Frames taken off, one after another -/
theorem outs_seq {b : ACode} {X : Option (AExit × Env × AHeap)} {Φ : AExit → Env → AHeap → Prop} (h : Outs X fun e env H => Outs (seqX A b (some (e, env, H))) Φ) : Outs (seqX A b X) Φ := by
  obtain ⟨e, env, H, rfl, hp⟩ := h
  exact hp
theorem outs_block {id : Nat} {X : Option (AExit × Env × AHeap)} {Φ : AExit → Env → AHeap → Prop} (h : Outs X fun e env H => Outs (blockX id (some (e, env, H))) Φ) : Outs (blockX id X) Φ := by
  obtain ⟨e, env, H, rfl, hp⟩ := h
  exact hp
theorem outs_step {call : ACall} {l : List AOper} {d : Option Nat} {env : Env} {X : Option (AVal × AHeap)} {Φ : AExit → Env → AHeap → Prop} (h : Rets X fun v H => Outs (outX (stepO call l d env (some (v, H)))) Φ) : Outs (outX (stepO call l d env X)) Φ := by
  obtain ⟨v, H, rfl, hp⟩ := h
  exact hp
theorem outs_stepD {call : ACall} {l : List AOper} {d : Option Nat} {env : Env} {eff : Bool} {st : List AHeap} {rs : AVal → List ARead} {X : Option (AVal × AHeap)} {Φ : AExit → Env → AHeap → Prop} (h : Rets X fun v H => Outs (outX (stepD call l d env eff st rs (some (v, H)))) Φ) : Outs (outX (stepD call l d env eff st rs X)) Φ := by
  obtain ⟨v, H, rfl, hp⟩ := h
  exact hp
theorem rets_end {rs : List ARes} {X : Option (AExit × Env × AHeap)} {Φ : AVal → AHeap → Prop} (h : Outs X fun e env H => Rets (endX rs (some (e, env, H))) Φ) : Rets (endX rs X) Φ := by
  obtain ⟨e, env, H, rfl, hp⟩ := h
  exact hp
theorem ans_end {rs : List ARes} {X : Option (AExit × Env × AHeap)} {v : AVal} (h : Outs X fun e env H => Ans (endX rs (some (e, env, H))) v) : Ans (endX rs X) v := by
  obtain ⟨e, env, H, rfl, hp⟩ := h
  exact hp

/-- A loop: rounds that go on have less before them. -/
theorem loop_ends {α : Type} {b : ACode} {I : α → Env → AHeap → Prop} {Q : AExit → Env → AHeap → Prop} (μ : α → Nat)
    (h : ∀ a env H, I a env H → Outs (AX A b env H) fun e env' H' => (e = .normal ∧ ∃ a', μ a' < μ a ∧ I a' env' H') ∨ (e ≠ .normal ∧ Q e env' H')) :
    ∀ a env H, I a env H → Outs (AX A (.loop b) env H) Q := by
  have key : ∀ k a env H, μ a < k → I a env H → Outs (AX A (.loop b) env H) Q := by
    intro k
    induction k with
    | zero => intro a env H hk; omega
    | succ k ih =>
      intro a env H hk hI
      obtain ⟨e, env', H', h1, h2⟩ := h a env H hI
      rw [s_loop, h1]
      rcases h2 with ⟨rfl, a', hlt, hI'⟩ | ⟨hne, hQ⟩
      · rw [seqX_normal]
        exact ih a' env' H' (by omega) hI'
      · cases e with
        | normal => exact absurd rfl hne
        | exit i => rw [seqX_exit]; exact ⟨_, _, _, rfl, hQ⟩
        | ret => rw [seqX_ret]; exact ⟨_, _, _, rfl, hQ⟩
  intro a env H hI
  exact key _ a env H (Nat.lt_succ_self _) hI

/-! ### Calls on plain values; calls that look -/
theorem one_val {f : FuncId} {x : AFn} {args : List AVal} {v : AVal} (he : A.ext f = none) (hm : A.mode f = 1) (h : A.fn f = some x) (hp : plains args = true) (hv : plain v = true) (hr : Ans (endX x.results (AX A x.body (ainit args) noH)) v) (H : AHeap) :
    AC A f args H = some (v, H) := by
  obtain ⟨H', hr⟩ := hr
  rw [AC_one he hm h args hp, s_body, hr]
  simp only [gcX, gc_old (old_plain v hv)]

theorem one_closed {f : FuncId} {x : AFn} {args : List AVal} {v : AVal} (he : A.ext f = none) (hm : A.mode f = 1) (h : A.fn f = some x) (hp : plains args = true) (hv : plain v = true) {k : Nat} (hr : (arun (acall A k) A.fn k (some x) args noH).map (·.1) = some v) (H : AHeap) :
    AC A f args H = some (v, H) := by
  simp only [Option.map_eq_some_iff] at hr
  obtain ⟨⟨v1, H1⟩, h1, h2⟩ := hr
  simp only at h2
  subst h2
  rw [AC_one he hm h args hp, AB_iff.2 ⟨k, h1⟩]
  simp only [gcX, gc_old (old_plain v1 hv)]

theorem look_val {f : FuncId} {x : AFn} {args : List AVal} {v : AVal} {H : AHeap} (he : A.ext f = none) (hm : A.mode f = 2) (h : A.fn f = some x) (hv : v.old H.next = true) (hr : Ans (endX x.results (AX A x.body (ainit args) (frz H))) v) :
    AC A f args H = some (v, H) := by
  obtain ⟨H', hr⟩ := hr
  rw [AC_two he hm h args, s_body, hr]
  simp only [gcX, gc_old hv]

/-- A call that makes one object besides what it leaves behind. -/
def One (n : Nat) (v : AVal) (K : AHeap) (u : AVal) (b : Nat) (cs : List AVal) : Prop :=
  ∃ id, nub [] (v.ids.filter fun j => decide (n ≤ j)) = [id] ∧ K.obj id = some (.cells cs true) ∧ oldl n cs = true ∧ v.ren (sig n b [id]) = u

theorem one_new {f : FuncId} {x : AFn} {args : List AVal} {u : AVal} {cs : List AVal} {H : AHeap} (he : A.ext f = none) (hm : A.mode f = 1) (h : A.fn f = some x) (hp : plains args = true)
    (hr : Rets (endX x.results (AX A x.body (ainit args) noH)) fun v K => One 0 v K u H.next cs) : AC A f args H = some (u, H.new (.cells cs true)) := by
  obtain ⟨v, K, hr, id, h1, h2, h3, h4⟩ := hr
  rw [AC_one he hm h args hp, s_body, hr]
  simp only [gcX, gc_one h1 h2 h3, h4]

theorem look_new {f : FuncId} {x : AFn} {args : List AVal} {u : AVal} {cs : List AVal} {H : AHeap} (he : A.ext f = none) (hm : A.mode f = 2) (h : A.fn f = some x)
    (hr : Rets (endX x.results (AX A x.body (ainit args) (frz H))) fun v K => One H.next v K u H.next cs) : AC A f args H = some (u, H.new (.cells cs true)) := by
  obtain ⟨v, K, hr, id, h1, h2, h3, h4⟩ := hr
  rw [AC_two he hm h args, s_body, hr]
  simp only [gcX, gc_one h1 h2 h3, h4]

theorem nub_one (i : Nat) : nub [] [i] = [i] := by simp [nub]

theorem one_slice {n id off len cap b : Nat} {g : Option Nat} {K : AHeap} {cs : List AVal} (h : n ≤ id) (ho : K.obj id = some (.cells cs true)) (hc : oldl n cs = true) : One n (.slice id off len cap g) K (.slice b off len cap g) b cs :=
  ⟨id, by simp [AVal.ids, h, nub], ho, hc, by simp [AVal.ren, sig_new [] h]⟩

/-! ### Slices -/
/-- A slice (nil, or not) holds these cells: es for each element. -/
def Sl (H : AHeap) (es : Nat) (s : AVal) (cs : List AVal) : Prop :=
  (s = .nils ∧ cs = []) ∨ ∃ id off n cap g, s = .slice id off n cap g ∧ cs.length = n * es ∧ (n = 0 ∨ ∃ l own, H.obj id = some (.cells l own) ∧ off + n * es ≤ l.length ∧ (l.drop off).take (n * es) = cs)

/-- How many elements a slice has. -/
def slen : AVal → Nat
  | .slice _ _ n _ _ => n
  | _ => 0

theorem Sl.length {H : AHeap} {es : Nat} {s : AVal} {cs : List AVal} (h : Sl H es s cs) : cs.length = slen s * es := by
  rcases h with ⟨rfl, rfl⟩ | ⟨id, off, n, cap, g, rfl, h, _⟩
  · simp [slen]
  · exact h

theorem Sl.alen {H : AHeap} {es : Nat} {s : AVal} {cs : List AVal} (h : Sl H es s cs) : alenT false s = some (slen s) := by
  rcases h with ⟨rfl, rfl⟩ | ⟨id, off, n, cap, g, rfl, h, _⟩ <;> rfl

theorem Sl.len1 {H : AHeap} {s : AVal} {cs : List AVal} (h : Sl H 1 s cs) : alenT false s = some cs.length := by
  rw [h.alen, h.length, Nat.mul_one]

theorem Sl.frz {H : AHeap} {es : Nat} {s : AVal} {cs : List AVal} (h : Sl H es s cs) : Sl (frz H) es s cs := by
  rcases h with h | ⟨id, off, n, cap, g, rfl, h, h0⟩
  · exact .inl h
  · refine .inr ⟨id, off, n, cap, g, rfl, h, h0.imp (fun h => h) fun ⟨l, own, h1, h2⟩ => ⟨l, false, frz_obj h1, h2⟩⟩

theorem Sl.keeps {H H' : AHeap} {es : Nat} {s : AVal} {cs : List AVal} (h : Sl H es s cs) (hk : ∀ id, id ∈ s.ids → H'.obj id = H.obj id) : Sl H' es s cs := by
  rcases h with h | ⟨id, off, n, cap, g, rfl, h, h0⟩
  · exact .inl h
  · refine .inr ⟨id, off, n, cap, g, rfl, h, h0.imp (fun h => h) fun ⟨l, own, h1, h2⟩ => ⟨l, own, by rw [hk id (by simp [AVal.ids])]; exact h1, h2⟩⟩

/-- An element is there: where, and what its cells are. -/
theorem Sl.at {H : AHeap} {es : Nat} {s : AVal} {cs : List AVal} (h : Sl H es s cs) {i : Nat} (hi : i < slen s) :
    ∃ id off cap g l own, s = .slice id off (slen s) cap g ∧ H.obj id = some (.cells l own) ∧ off + slen s * es ≤ l.length ∧ (∀ j, j < es → l[off + i * es + j]? = cs[i * es + j]?) ∧ (l.drop (off + i * es)).take es = (cs.drop (i * es)).take es := by
  rcases h with ⟨rfl, rfl⟩ | ⟨id, off, n, cap, g, rfl, h, h0⟩
  · simp [slen] at hi
  · simp only [slen] at hi ⊢
    rcases h0 with h0 | ⟨l, own, h1, h2, h3⟩
    · omega
    · have hb : i * es + es ≤ n * es := by
        have := Nat.mul_le_mul_right es (show i + 1 ≤ n by omega)
        rw [Nat.add_mul] at this
        omega
      refine ⟨id, off, cap, g, l, own, rfl, h1, h2, ?_, ?_⟩
      · intro j hj
        rw [← h3, List.getElem?_take]
        rw [if_pos (by omega), List.getElem?_drop]
        congr 1
        omega
      · rw [← h3, List.drop_take, List.drop_drop, List.take_take, Nat.min_eq_left (by omega)]

/-- A slice that grew by append alone (or nil). -/
def Ow (H : AHeap) (es : Nat) (s : AVal) (cs : List AVal) : Prop :=
  (s = .nils ∧ cs = []) ∨ ∃ id n, s = .slice id 0 n n (some es) ∧ cs.length = n * es ∧ id < H.next ∧ H.obj id = some (.cells cs true) ∧ 0 < n

def delS (H : AHeap) : AVal → AHeap
  | .slice id _ _ _ _ => H.del id
  | _ => H

theorem Ow.sl {H : AHeap} {es : Nat} {s : AVal} {cs : List AVal} (h : Ow H es s cs) : Sl H es s cs := by
  rcases h with h | ⟨id, n, rfl, h, _, h0, _⟩
  · exact .inl h
  · exact .inr ⟨id, 0, n, n, some es, rfl, h, .inr ⟨cs, true, h0, by omega, by simp [← h]⟩⟩

theorem Ow.nil (H : AHeap) (es : Nat) : Ow H es .nils [] := .inl ⟨rfl, rfl⟩

theorem delS_next (H : AHeap) (s : AVal) : (delS H s).next = H.next := by cases s <;> rfl
theorem delS_obj (H : AHeap) (s : AVal) {i : Nat} (h : i ∉ s.ids) : (delS H s).obj i = H.obj i := by
  cases s <;> try rfl
  simp [AVal.ids] at h
  simp [delS, AHeap.del, h]

/-- Elements put behind such a slice. -/
theorem Ow.append {H : AHeap} {es by' n : Nat} {s x : AVal} {cs new : List AVal} (h : Ow H es s cs) (hes : 0 < es) (hx : alen x = some n) (hnew : acells H es n x = some new) (hn : 0 < n) (hb : (slen s + n) * by' ≤ 140737488355328 ∧ slen s + n ≤ 9223372036854775807) :
    aappend H es by' s x = some (.slice H.next 0 (slen s + n) (slen s + n) (some es), (delS H s).new (.cells (cs ++ new) true)) := by
  rcases h with ⟨rfl, rfl⟩ | ⟨id, m, rfl, hl, _, ho, _⟩
  · simp only [slen, Nat.zero_add] at hb
    have hn0 : n ≠ 0 := by omega
    simp only [aappend, hx, Option.bind_some, hnew, hn0, if_false, slen, delS, Nat.zero_add, hb, and_self, if_true, List.nil_append]
  · simp only [slen] at hb
    have hold : acells H es m (.slice id 0 m m (some es)) = some cs := by
      simp only [acells]
      split
      · rename_i h0
        rw [h0] at hl
        rw [List.length_eq_zero_iff.1 hl]
      · simp [ho, hl]
        rw [← hl, List.take_length]
    have hlt : ¬ m + n ≤ m := by omega
    simp only [aappend, hx, Option.bind_some, hnew, hlt, if_false, hold, hb, hes, and_self, if_true, ho, slen, delS]

theorem Ow.grown {H : AHeap} {es n : Nat} {s : AVal} {cs new : List AVal} (hn : 0 < n) (h : cs.length = slen s * es) (hnew : new.length = n * es) : Ow ((delS H s).new (.cells (cs ++ new) true)) es (.slice H.next 0 (slen s + n) (slen s + n) (some es)) (cs ++ new) := by
  refine .inr ⟨H.next, slen s + n, rfl, ?_, ?_, ?_, by omega⟩
  · rw [List.length_append, h, hnew, Nat.add_mul]
  · simp [new_next, delS_next]
  · simp [AHeap.new, delS_next]

theorem Ow.keeps {H H' : AHeap} {es : Nat} {s : AVal} {cs : List AVal} (h : Ow H es s cs) (hn : H.next ≤ H'.next) (hk : ∀ id, id ∈ s.ids → H'.obj id = H.obj id) : Ow H' es s cs := by
  rcases h with h | ⟨id, n, rfl, h1, h2, h3, h4⟩
  · exact .inl h
  · exact .inr ⟨id, n, rfl, h1, by omega, by rw [hk id (by simp [AVal.ids])]; exact h3, h4⟩

theorem Ow.lt {H : AHeap} {es : Nat} {s : AVal} {cs : List AVal} (h : Ow H es s cs) : ∀ i, i ∈ s.ids → i < H.next := by
  rcases h with ⟨rfl, rfl⟩ | ⟨id, n, rfl, _, h2, _, _⟩
  · simp [AVal.ids]
  · simp [AVal.ids]; exact h2

/-- One element behind a slice, out of a literal of one element. -/
theorem Ow.push {H : AHeap} {by' : Nat} {s : AVal} {cs : List AVal} (h : Ow H 1 s cs) (v : AVal) (hb : (cs.length + 1) * by' ≤ 140737488355328 ∧ cs.length + 1 ≤ 9223372036854775807) :
    aappend (H.new (.cells [v] true)) 1 by' s (.slice H.next 0 1 1 none) = some (.slice (H.next + 1) 0 (cs.length + 1) (cs.length + 1) (some 1), (delS (H.new (.cells [v] true)) s).new (.cells (cs ++ [v]) true)) := by
  have hs : slen s = cs.length := by have := h.sl.length; omega
  have hk : Ow (H.new (.cells [v] true)) 1 s cs := h.keeps (by simp [AHeap.new]) (fun id hid => by
    have := h.lt id hid
    simp [AHeap.new]; intro; omega)
  have := hk.append (by' := by') (n := 1) (x := .slice H.next 0 1 1 none) (new := [v]) (by decide) rfl (by simp [acells, AHeap.new]) (by decide) (by rw [hs]; exact hb)
  rw [this, hs]
  rfl

/-! Slices in a memory that turned elsewhere -/
theorem Ow_set {H : AHeap} {es : Nat} {s : AVal} {cs : List AVal} {p : Nat} {o : AObj} (h : p ∉ s.ids) : Ow (H.set p o) es s cs ↔ Ow H es s cs := by
  have hk : ∀ id, id ∈ s.ids → (H.set p o).obj id = H.obj id := fun id hid => by
    have : id ≠ p := fun h' => h (h' ▸ hid)
    simp [AHeap.set, this]
  exact ⟨fun h' => h'.keeps (Nat.le_refl _) (fun id hid => (hk id hid).symm), fun h' => h'.keeps (Nat.le_refl _) hk⟩
theorem Ow_new {H : AHeap} {es : Nat} {s : AVal} {cs : List AVal} {o : AObj} (h : H.next ∉ s.ids) : Ow (H.new o) es s cs ↔ Ow H es s cs := by
  have hk : ∀ id, id ∈ s.ids → (H.new o).obj id = H.obj id := fun id hid => by
    have : id ≠ H.next := fun h' => h (h' ▸ hid)
    simp [AHeap.new, this]
  constructor
  · rintro (h' | ⟨id, n, rfl, h1, h2, h3, h4⟩)
    · exact .inl h'
    · have hne : id ≠ H.next := fun h' => h (by simp [AVal.ids, h'])
      rw [hk id (by simp [AVal.ids])] at h3
      rw [new_next] at h2
      exact .inr ⟨id, n, rfl, h1, by omega, h3, h4⟩
  · exact fun h' => h'.keeps (Nat.le_succ _) hk
/-- Two values name no object both. -/
def Apart (s t : AVal) : Prop := ∀ x, x ∈ s.ids → x ∉ t.ids

theorem Ow_del {H : AHeap} {es : Nat} {s t : AVal} {cs : List AVal} (h : Apart s t) : Ow (delS H t) es s cs ↔ Ow H es s cs := by
  have hk : ∀ id, id ∈ s.ids → (delS H t).obj id = H.obj id := fun id hid => delS_obj H t (h id hid)
  exact ⟨fun h' => h'.keeps (by rw [delS_next]; exact Nat.le_refl _) (fun id hid => (hk id hid).symm), fun h' => h'.keeps (by rw [delS_next]; exact Nat.le_refl _) hk⟩
theorem Sl_set {H : AHeap} {es : Nat} {s : AVal} {cs : List AVal} {p : Nat} {o : AObj} (h : p ∉ s.ids) : Sl (H.set p o) es s cs ↔ Sl H es s cs := by
  have hk : ∀ id, id ∈ s.ids → (H.set p o).obj id = H.obj id := fun id hid => by
    have : id ≠ p := fun h' => h (h' ▸ hid)
    simp [AHeap.set, this]
  exact ⟨fun h' => h'.keeps (fun id hid => (hk id hid).symm), fun h' => h'.keeps hk⟩
theorem Sl_new {H : AHeap} {es : Nat} {s : AVal} {cs : List AVal} {o : AObj} (h : H.next ∉ s.ids) : Sl (H.new o) es s cs ↔ Sl H es s cs := by
  have hk : ∀ id, id ∈ s.ids → (H.new o).obj id = H.obj id := fun id hid => by
    have : id ≠ H.next := fun h' => h (h' ▸ hid)
    simp [AHeap.new, this]
  exact ⟨fun h' => h'.keeps (fun id hid => (hk id hid).symm), fun h' => h'.keeps hk⟩
theorem Sl_del {H : AHeap} {es : Nat} {s t : AVal} {cs : List AVal} (h : Apart s t) : Sl (delS H t) es s cs ↔ Sl H es s cs := by
  have hk : ∀ id, id ∈ s.ids → (delS H t).obj id = H.obj id := fun id hid => delS_obj H t (h id hid)
  exact ⟨fun h' => h'.keeps (fun id hid => (hk id hid).symm), fun h' => h'.keeps hk⟩

theorem Ow.push' {H : AHeap} {by' N : Nat} {s : AVal} {cs : List AVal} (h : Ow H 1 s cs) (hN : H.next = N) (v : AVal) (hb : (cs.length + 1) * by' ≤ 140737488355328 ∧ cs.length + 1 ≤ 9223372036854775807) :
    aappend (H.new (.cells [v] true)) 1 by' s (.slice N 0 1 1 none) = some (.slice (N + 1) 0 (cs.length + 1) (cs.length + 1) (some 1), (delS (H.new (.cells [v] true)) s).new (.cells (cs ++ [v]) true)) := by
  subst hN
  exact h.push v hb

theorem Ow.made {K : AHeap} {es n : Nat} {cs : List AVal} (hn : 0 < n) (h : cs.length = n * es) : Ow (K.new (.cells cs true)) es (.slice K.next 0 n n (some es)) cs :=
  .inr ⟨K.next, n, rfl, h, by simp [AHeap.new], by simp [AHeap.new], hn⟩

theorem Ow.empty {H : AHeap} {es : Nat} {s : AVal} (hes : 0 < es) (h : Ow H es s []) : s = .nils := by
  rcases h with ⟨h, _⟩ | ⟨id, n, rfl, h, _, _, hn⟩
  · exact h
  · have hp := Nat.mul_pos hn hes
    rw [List.length_nil] at h
    omega

theorem Sl.cells {H : AHeap} {es : Nat} {s : AVal} {cs : List AVal} (h : Sl H es s cs) : Am.alen s = some (slen s) ∧ acells H es (slen s) s = some cs := by
  rcases h with ⟨rfl, rfl⟩ | ⟨id, off, n, cap, g, rfl, h, h0⟩
  · exact ⟨rfl, rfl⟩
  · refine ⟨rfl, ?_⟩
    show acells H es n _ = some cs
    simp only [acells]
    by_cases h1 : n * es = 0
    · rw [if_pos h1]
      rw [h1] at h
      rw [List.length_eq_zero_iff.1 h]
    · rw [if_neg h1]
      rcases h0 with rfl | ⟨l, own, ho, h2, h3⟩
      · simp at h1
      · simp only [ho, h3, Nat.le_refl, h2, and_self, if_true]

/-- Elements put behind a slice whose capacity is known, and too small. -/
theorem app_known {H : AHeap} {es by' id off len cap n : Nat} {x : AVal} {old new : List AVal} (hes : 0 < es) (hx : alen x = some n) (hnew : acells H es n x = some new) (hold : acells H es len (.slice id off len cap none) = some old) (hlt : cap < len + n)
    (hb : (len + n) * by' ≤ 140737488355328 ∧ len + n ≤ 9223372036854775807) :
    aappend H es by' (.slice id off len cap none) x = some (.slice H.next 0 (len + n) (len + n) (some es), H.new (.cells (old ++ new) true)) := by
  simp only [aappend, hx, Option.bind_some, hnew, Nat.not_le.2 hlt, if_false, hold, hb, hes, and_self, if_true]

/-- Nothing put behind a slice. -/
theorem app_none_nils {H : AHeap} {es by' : Nat} {x : AVal} (hx : alen x = some 0) (hc : acells H es 0 x = some []) : aappend H es by' .nils x = some (.nils, H) := by
  simp only [aappend, hx, Option.bind_some, hc, if_true]
theorem app_none {H : AHeap} {es by' id off n cap : Nat} {g : Option Nat} {x : AVal} (hle : n ≤ cap) (hx : alen x = some 0) (hc : acells H es 0 x = some []) : aappend H es by' (.slice id off n cap g) x = some (.slice id off n cap g, H) := by
  simp only [aappend, hx, Option.bind_some, hc, Nat.add_zero, hle, if_true]

/-! ### A law's slices -/
theorem arg_slice {P : Program} {H : AHeap} {t e : TypeId} {v : AVal} {d : Dat} (hu : P.underlying t = some (.slice e)) (h : AArg P H t v d) :
    ∃ (f : Nat) (ds : List Dat) (cs : List AVal), Sl H (P.cellsOf e) v cs ∧ slen v = ds.length ∧ cs.length = ds.length * P.cellsOf e ∧ (∀ i, i ∈ v.ids → i < H.next) ∧ ds.length ≤ maxLen ∧ ds.length * P.bytesOf e ≤ reachBytes ∧
      ∀ (i : Nat) (x : Dat), ds[i]? = some x → AReads P H f e ((cs.drop (i * P.cellsOf e)).take (P.cellsOf e)) x := by
  obtain ⟨fuel, cs, hr, hc⟩ := h
  rw [hu] at hc
  simp only at hc
  cases fuel with
  | zero => simp [AReads] at hr
  | succ f =>
    simp only [AReads, hu] at hr
    rcases hr with ⟨rfl, rfl⟩ | ⟨id, cap, l, ds, hid, rfl, rfl, h1, h2, h3, h4, h5, h6⟩
    · simp at hc
      subst hc
      exact ⟨f, [], [], .inl ⟨rfl, rfl⟩, rfl, by simp, by simp [AVal.ids], by simp [maxLen], by simp [reachBytes], by simp⟩
    · simp at hc
      subst hc
      have hle : ds.length * P.cellsOf e ≤ cap * P.cellsOf e := Nat.mul_le_mul_right _ h1
      refine ⟨f, ds, l.take (ds.length * P.cellsOf e), .inr ⟨id, 0, ds.length, cap, none, rfl, ?_, ?_⟩, rfl, ?_, ?_, by omega, Nat.le_trans (Nat.mul_le_mul_right _ h1) h3, ?_⟩
      · rw [List.length_take]; omega
      · rcases Nat.eq_zero_or_pos ds.length with h0 | h0
        · exact .inl h0
        · exact .inr ⟨l, false, h4 (by omega), by omega, by simp⟩
      · rw [List.length_take]; omega
      · simp [AVal.ids]; exact hid
      · intro i x hx
        have hi : i < ds.length := (List.getElem?_eq_some_iff.1 hx).1
        have := h6 i x hx
        have hb : i * P.cellsOf e + P.cellsOf e ≤ ds.length * P.cellsOf e := by
          have := Nat.mul_le_mul_right (P.cellsOf e) (show i + 1 ≤ ds.length by omega)
          rw [Nat.add_mul] at this
          omega
        rw [List.drop_take, List.take_take, Nat.min_eq_left (by omega)]
        exact this

/-- A list of elements that all read so. -/
theorem cells_of {α : Type} {enc : α → List AVal} {n : Nat} : ∀ (k : Nat) (cs : List AVal), cs.length = k * n → (∀ i, i < k → ∃ a, (cs.drop (i * n)).take n = enc a) → ∃ l : List α, l.length = k ∧ cs = l.flatMap enc
  | 0, cs, hl, _ => ⟨[], rfl, by simp at hl; subst hl; rfl⟩
  | k + 1, cs, hl, h => by
    obtain ⟨a, ha⟩ := h 0 (by omega)
    obtain ⟨l, h1, h2⟩ := cells_of (enc := enc) (n := n) k (cs.drop n) (by simp [hl, Nat.add_mul]) (fun i hi => by
      obtain ⟨b, hb⟩ := h (i + 1) (by omega)
      refine ⟨b, ?_⟩
      rw [List.drop_drop, ← hb, Nat.add_mul, Nat.one_mul, Nat.add_comm])
    refine ⟨a :: l, by simp [h1], ?_⟩
    simp only [Nat.zero_mul, List.drop_zero] at ha
    rw [List.flatMap_cons, ← h2, ← ha, List.take_append_drop]

theorem flatMap_one {α : Type} (f : α → AVal) (l : List α) : (l.flatMap fun a => [f a]) = l.map f := by
  induction l with
  | nil => rfl
  | cons a l ih => simp [ih]

theorem arg_bools {P : Program} {H : AHeap} {t e : TypeId} {v : AVal} {d : Dat} (hu : P.underlying t = some (.slice e)) (he : P.underlying e = some .bool) (hc : P.cellsOf e = 1) (h : AArg P H t v d) :
    ∃ l : List Bool, Sl H 1 v (l.map .bool) ∧ (∀ i, i ∈ v.ids → i < H.next) ∧ l.length ≤ maxLen := by
  obtain ⟨f, ds, cs, h1, h2, h3, h4, h5, _, h6⟩ := arg_slice hu h
  rw [hc] at h1 h3 h6
  obtain ⟨l, hl, rfl⟩ := cells_of (enc := fun b => [AVal.bool b]) ds.length cs h3 (fun i hi => by
    have := h6 i ds[i] (List.getElem?_eq_getElem hi)
    cases f with
    | zero => simp [AReads] at this
    | succ f =>
      simp only [AReads, he] at this
      obtain ⟨b, hb, _⟩ := this
      exact ⟨b, hb⟩)
  rw [flatMap_one] at h1
  exact ⟨l, h1, h4, by omega⟩

theorem arg_ints {P : Program} {H : AHeap} {t e : TypeId} {k : IntKind} {v : AVal} {d : Dat} (hu : P.underlying t = some (.slice e)) (he : P.underlying e = some (.int k)) (hc : P.cellsOf e = 1) (h : AArg P H t v d) :
    ∃ l : List Int, Sl H 1 v (l.map (AVal.int k)) ∧ (∀ i, i ∈ v.ids → i < H.next) ∧ l.length ≤ maxLen ∧ l.length * P.bytesOf e ≤ reachBytes ∧ ∀ x, x ∈ l → k.min ≤ x ∧ x ≤ k.max := by
  obtain ⟨f, ds, cs, h1, h2, h3, h4, h5, h7, h6⟩ := arg_slice hu h
  rw [hc] at h1 h3 h6
  obtain ⟨l, hl, rfl⟩ := cells_of (α := { x : Int // k.min ≤ x ∧ x ≤ k.max }) (enc := fun b => [AVal.int k b.1]) ds.length cs h3 (fun i hi => by
    have := h6 i ds[i] (List.getElem?_eq_getElem hi)
    obtain ⟨n, hn, hb⟩ := reads_int he this
    exact ⟨⟨n, hb⟩, hn⟩)
  rw [flatMap_one] at h1
  refine ⟨l.map (·.1), by rw [List.map_map]; exact h1, h4, by simp; omega, by simp [hl]; exact h7, ?_⟩
  intro x hx
  obtain ⟨y, _, rfl⟩ := List.mem_map.1 hx
  exact y.2

/-- What stood is as it was. -/
def Keeps (H H' : AHeap) : Prop := H.next ≤ H'.next ∧ ∀ i, i < H.next → H'.obj i = H.obj i
theorem Keeps.refl (H : AHeap) : Keeps H H := ⟨Nat.le_refl _, fun _ _ => rfl⟩
theorem Keeps.trans {a b c : AHeap} (h : Keeps a b) (k : Keeps b c) : Keeps a c := ⟨Nat.le_trans h.1 k.1, fun i hi => (k.2 i (Nat.lt_of_lt_of_le hi h.1)).trans (h.2 i hi)⟩
theorem Keeps.new (H : AHeap) (o : AObj) : Keeps H (H.new o) := ⟨Nat.le_succ _, fun i hi => by simp [AHeap.new]; omega⟩
theorem Sl.keep {H H' : AHeap} {es : Nat} {s : AVal} {cs : List AVal} (h : Sl H es s cs) (hid : ∀ i, i ∈ s.ids → i < H.next) (k : Keeps H H') : Sl H' es s cs := h.keeps fun i hi => k.2 i (hid i hi)

theorem arg_pairs {P : Program} {H : AHeap} {t e : TypeId} {f0 f1 : Field} {j k : IntKind} {v : AVal} {d : Dat} (hu : P.underlying t = some (.slice e)) (he : P.underlying e = some (.struct #[f0, f1])) (h0 : P.underlying f0.type = some (.int j)) (h1 : P.underlying f1.type = some (.int k))
    (o0 : f0.offset = 0) (o1 : f1.offset = 1) (c0 : P.cellsOf f0.type = 1) (c1 : P.cellsOf f1.type = 1) (hc : P.cellsOf e = 2) (h : AArg P H t v d) :
    ∃ l : List (Int × Int), Sl H 2 v (l.flatMap fun a => [.int j a.1, .int k a.2]) ∧ (∀ i, i ∈ v.ids → i < H.next) ∧ l.length ≤ maxLen ∧ l.length * P.bytesOf e ≤ reachBytes ∧ ∀ x, x ∈ l → (j.min ≤ x.1 ∧ x.1 ≤ j.max) ∧ k.min ≤ x.2 ∧ x.2 ≤ k.max := by
  obtain ⟨f, ds, cs, h1', h2, h3, h4, h5, h7, h6⟩ := arg_slice hu h
  rw [hc] at h1' h3 h6
  obtain ⟨l, hl, rfl⟩ := cells_of (α := { x : Int × Int // (j.min ≤ x.1 ∧ x.1 ≤ j.max) ∧ k.min ≤ x.2 ∧ x.2 ≤ k.max }) (enc := fun b => [AVal.int j b.1.1, AVal.int k b.1.2]) ds.length cs h3 (fun i hi => by
    have hr := h6 i ds[i] (List.getElem?_eq_getElem hi)
    have ha : AArg P H e (.agg ((cs.drop (i * 2)).take 2)) ds[i] := ⟨f, _, hr, by rw [he]⟩
    obtain ⟨n, m, e1, b0, b1⟩ := arg_pair he h0 h1 o0 o1 c0 c1 hc ha
    simp only [AVal.agg.injEq] at e1
    exact ⟨⟨(n, m), b0, b1⟩, e1⟩)
  refine ⟨l.map (·.1), by rw [List.flatMap_map]; exact h1', h4, by simp; omega, by simp [hl]; exact h7, ?_⟩
  intro x hx
  obtain ⟨y, _, rfl⟩ := List.mem_map.1 hx
  exact y.2

theorem flat2_len {α : Type} (f g : α → AVal) : ∀ (l : List α), (l.flatMap fun a => [f a, g a]).length = l.length * 2
  | [] => rfl
  | a :: l => by
    rw [List.flatMap_cons, List.length_append, flat2_len f g l, List.length_cons, List.length_cons, List.length_cons, List.length_nil]
    omega
theorem flat2_get {α : Type} (f g : α → AVal) : ∀ (l : List α) (i : Nat) (h : i < l.length), ((l.flatMap fun a => [f a, g a]).drop (i * 2)).take 2 = [f l[i], g l[i]]
  | [], i, h => by simp at h
  | a :: l, 0, _ => by simp
  | a :: l, i + 1, h => by
    have := flat2_get f g l i (by simpa using h)
    simp only [List.flatMap_cons, List.getElem_cons_succ]
    rw [show (i + 1) * 2 = 2 + i * 2 by omega, ← List.drop_drop]
    simpa using this

/-- The memory behind one element put behind an append-made slice. -/
def pushH (K : AHeap) (s v : AVal) (c : List AVal) : AHeap := (delS (K.new (.cells [v] true)) s).new (.cells c true)
theorem pushH_next (K : AHeap) (s v : AVal) (c : List AVal) : (pushH K s v c).next = K.next + 2 := by simp [pushH, new_next, delS_next]
theorem pushH_obj {K : AHeap} {s v : AVal} {c : List AVal} {i : Nat} (h : i < K.next) (hs : i ∉ s.ids) : (pushH K s v c).obj i = K.obj i := by
  simp only [pushH, new_obj, delS_next, new_next]
  rw [if_neg (by omega), delS_obj _ _ hs, new_obj, if_neg (by omega)]
theorem Ow.push2 {K : AHeap} {by' : Nat} {s : AVal} {cs : List AVal} (h : Ow K 1 s cs) (v : AVal) (hb : (cs.length + 1) * by' ≤ 140737488355328 ∧ cs.length + 1 ≤ 9223372036854775807) :
    aappend (K.new (.cells [v] true)) 1 by' s (.slice K.next 0 1 1 none) = some (.slice (K.next + 1) 0 (cs.length + 1) (cs.length + 1) (some 1), pushH K s v (cs ++ [v])) := h.push v hb
theorem Ow_pushed (K : AHeap) (s v : AVal) (cs : List AVal) : Ow (pushH K s v (cs ++ [v])) 1 (.slice (K.next + 1) 0 (cs.length + 1) (cs.length + 1) (some 1)) (cs ++ [v]) := by
  have := Ow.made (K := delS (K.new (.cells [v] true)) s) (es := 1) (n := cs.length + 1) (cs := cs ++ [v]) (Nat.succ_pos _) (by simp)
  rw [delS_next, new_next] at this
  exact this
theorem Ow.over {K : AHeap} {s t v : AVal} {es : Nat} {c cs : List AVal} (h : Ow K es t cs) (ha : Apart t s) : Ow (pushH K s v c) es t cs :=
  h.keeps (by rw [pushH_next]; omega) fun i hi => pushH_obj (h.lt i hi) (ha i hi)
theorem Sl.over {K : AHeap} {s t v : AVal} {es : Nat} {c cs : List AVal} (h : Sl K es t cs) (ha : Apart t s) (hid : ∀ i, i ∈ t.ids → i < K.next) : Sl (pushH K s v c) es t cs :=
  h.keeps fun i hi => pushH_obj (hid i hi) (ha i hi)

/-- A byte, as a slice of bytes holds it. -/
def by8 (b : UInt8) : AVal := .int .u8 (b.toNat : Int)
theorem bToS_sl {H : AHeap} {v : AVal} {s : List UInt8} (h : Sl H 1 v (s.map by8)) : bToSX H v = some (.str s, H) := by
  rcases h with ⟨rfl, h⟩ | ⟨id, off, n, cap, g, rfl, h, h0⟩
  · have : s = [] := by simpa using h
    subst this; rfl
  · have hc := (show Sl H 1 (.slice id off n cap g) (s.map by8) from .inr ⟨id, off, n, cap, g, rfl, h, h0⟩).cells.2
    have hc : acells H 1 n (.slice id off n cap g) = some (s.map by8) := hc
    have hb : aop.abytes (s.map by8) = some s := bytes_back s
    simp only [bToSX, hc, Option.bind_some, hb, Option.map_some]

theorem arg_str {P : Program} {H : AHeap} {t : TypeId} {v : AVal} {d : Dat} (hu : P.underlying t = some .string) (h : AArg P H t v d) : ∃ s : List UInt8, v = .str s ∧ s.length ≤ reachBytes := by
  obtain ⟨fuel, cs, hr, hc⟩ := h
  rw [hu] at hc
  simp only at hc
  cases fuel with
  | zero => simp [AReads] at hr
  | succ f =>
    simp only [AReads, hu] at hr
    obtain ⟨s, h1, h2, h3⟩ := hr
    rw [hc] at h1
    simp at h1
    exact ⟨s, h1, h3⟩
theorem b_cat (a b : List UInt8) (h : a.length + b.length ≤ 9223372036854775807) : abin .add (.str a) (.str b) = some (.str (a ++ b)) := by
  simp [abin, astr, h]
theorem by8_fun : (fun b : UInt8 => AVal.int .u8 (b.toNat : Int)) = by8 := hid rfl

/-- A slice of which the capacity is as the machine may cut it. -/
def Cuts (es : Nat) (s : AVal) : Prop := ∀ id off n cap g, s = .slice id off n cap g → n ≤ cap ∧ (g = none ∨ g = some es)

theorem Cuts.nils (es : Nat) : Cuts es .nils := by intro _ _ _ _ _ e; cases e
theorem Ow.cuts {H : AHeap} {es : Nat} {s : AVal} {cs : List AVal} (h : Ow H es s cs) : Cuts es s := by
  rcases h with ⟨rfl, _⟩ | ⟨id, n, rfl, _⟩
  · exact Cuts.nils es
  · intro _ _ _ _ _ e
    cases e
    exact ⟨Nat.le_refl _, .inr rfl⟩

theorem arg_cuts {P : Program} {H : AHeap} {t e : TypeId} {v : AVal} {d : Dat} (es : Nat) (hu : P.underlying t = some (.slice e)) (h : AArg P H t v d) : Cuts es v := by
  obtain ⟨fuel, cs, hr, hc⟩ := h
  rw [hu] at hc
  simp only at hc
  cases fuel with
  | zero => simp [AReads] at hr
  | succ f =>
    simp only [AReads, hu] at hr
    rcases hr with ⟨rfl, rfl⟩ | ⟨id, cap, l, ds, hid, rfl, rfl, h1, _⟩
    · simp at hc
      subst hc
      exact Cuts.nils es
    · simp at hc
      subst hc
      intro _ _ _ _ _ e
      cases e
      exact ⟨h1, .inl rfl⟩

/-- A part of a slice. -/
theorem Sl.cut {H : AHeap} {es : Nat} {s : AVal} {cs : List AVal} (h : Sl H es s cs) (hes : 0 < es) (hc : Cuts es s) {lo hi : Nat} (h1 : lo ≤ hi) (h2 : hi ≤ slen s) {lv hv : Option AVal}
    (hl : (lv = none ∧ lo = 0) ∨ ∃ k, lv = some (.int k (lo : Int))) (hh : (hv = none ∧ hi = slen s) ∨ ∃ k, hv = some (.int k (hi : Int))) :
    ∃ s', aslc es s lv hv none = some s' ∧ Sl H es s' ((cs.take (hi * es)).drop (lo * es)) ∧ (∀ i, i ∈ s'.ids → i ∈ s.ids) ∧ Cuts es s' ∧ slen s' = hi - lo := by
  have ab : ∀ cap, slen s ≤ cap → abounds (slen s) cap lv hv none = some (lo, hi, cap) := by
    intro cap hcap
    have e1 : abound hv (slen s) cap = some hi := by
      rcases hh with ⟨rfl, rfl⟩ | ⟨k, rfl⟩
      · rfl
      · simp only [abound]
        rw [if_pos ⟨by omega, by omega⟩, Int.toNat_natCast]
    have e2 : abound lv 0 hi = some lo := by
      rcases hl with ⟨rfl, rfl⟩ | ⟨k, rfl⟩
      · rfl
      · simp only [abound]
        rw [if_pos ⟨by omega, by omega⟩, Int.toNat_natCast]
    have e3 : abound none cap cap = some cap := rfl
    simp only [abounds, e3, Option.bind_some, Option.isSome_none, Bool.false_eq_true, if_false, e1, e2, false_and]
  rcases h with ⟨rfl, rfl⟩ | ⟨id, off, n, cap, g, rfl, hlen, h0⟩
  · have := ab 0 (Nat.le_refl _)
    refine ⟨.nils, ?_, .inl ⟨rfl, by simp⟩, fun i hi => hi, Cuts.nils es, by simp [slen] at h2 ⊢; omega⟩
    simp only [slen] at this
    simp only [aslc, this, Option.map_some]
  · obtain ⟨hle, hg⟩ := hc _ _ _ _ _ rfl
    have := ab cap hle
    simp only [slen] at this h2
    refine ⟨.slice id (if g = none ∧ cap = lo then off else off + lo * es) (hi - lo) (cap - lo) g, ?_, ?_, fun i hi => hi, ?_, rfl⟩
    · simp only [aslc, slen, this, Option.bind_some]
      rcases hg with rfl | rfl
      · simp
      · simp [hes]
    · have hm : hi * es ≤ n * es := Nat.mul_le_mul_right es h2
      have hlm : lo * es ≤ hi * es := Nat.mul_le_mul_right es h1
      refine .inr ⟨id, _, hi - lo, cap - lo, g, rfl, ?_, ?_⟩
      · rw [List.length_drop, List.length_take, hlen, Nat.min_eq_left hm, Nat.sub_mul]
      · rcases Nat.eq_or_lt_of_le h1 with h3 | h3
        · exact .inl (by omega)
        · rcases h0 with h0 | ⟨l, own, ho, h4, h5⟩
          · omega
          · refine .inr ⟨l, own, ho, ?_, ?_⟩
            · rw [if_neg (by omega), Nat.sub_mul]
              omega
            · rw [if_neg (by omega), ← h5, List.take_take, Nat.min_eq_left hm, List.drop_take, List.drop_drop, Nat.sub_mul]
    · intro _ _ _ _ _ e
      simp only [AVal.slice.injEq] at e
      obtain ⟨_, _, rfl, rfl, rfl⟩ := e
      exact ⟨by omega, hg⟩

theorem Keeps.new' {H K : AHeap} {o : AObj} (h : Keeps H K) : Keeps H (K.new o) := h.trans (Keeps.new _ _)
theorem Keeps.set' {H K : AHeap} {p : Nat} {o : AObj} (hp : H.next ≤ p) (h : Keeps H K) : Keeps H (K.set p o) :=
  ⟨h.1, fun i hi => by rw [set_obj, if_neg (by omega)]; exact h.2 i hi⟩
theorem Keeps.del' {H K : AHeap} {s : AVal} (hs : ∀ i, i ∈ s.ids → H.next ≤ i) (h : Keeps H K) : Keeps H (delS K s) :=
  ⟨by rw [delS_next]; exact h.1, fun i hi => by rw [delS_obj _ _ (fun hx => by have := hs i hx; omega)]; exact h.2 i hi⟩
theorem Keeps.push' {H K : AHeap} {s v : AVal} {c : List AVal} (hs : ∀ i, i ∈ s.ids → H.next ≤ i) (h : Keeps H K) : Keeps H (pushH K s v c) := Keeps.new' (Keeps.del' hs (Keeps.new' h))

/-! ### Go's library by its contracts -/
theorem lib_sound {P : Program} {f : FuncId} (he : Enters P f) {g : List AVal → Option AVal}
    (h : ∀ args v, g args = some v → plain v = true ∧ ∀ (m : Inj) (args' : List Value) (w : World), All2 (VRel m) args args' → Calls P f args'.toArray w fun e w' => ∃ v', e = .returned v' ∧ VRel m v v' ∧ Below w.heap.size w w') (w0 : World) (B : Nat → Bool) :
    CallSound P w0 B (fun f' args H => if f' = f then extOf g args H else none) := by
  intro f' args H v H1 hg
  by_cases hf : f' = f
  · subst hf
    simp only [if_true, extOf, Option.map_eq_some_iff, Prod.mk.injEq] at hg
    obtain ⟨v1, hv, rfl, rfl⟩ := hg
    obtain ⟨_, hc⟩ := h _ _ hv
    refine ⟨he, Up.refl _, fun m w args' _ hS hargs => ?_⟩
    refine (hc m args' w hargs).mono fun e w' ⟨v', h1, h2, h3⟩ => ?_
    exact ⟨v', m, h1, m.le_refl, hS.stays h3, h2⟩
  · simp [hf] at hg

theorem vrel_str {m : Inj} {s : List UInt8} {v : Value} (h : VRel m (.str s) v) : v = .string ⟨s.toArray⟩ := by cases h; rfl
theorem vrel_int {m : Inj} {k : IntKind} {n : Int} {v : Value} (h : VRel m (.int k n) v) : v = .int k n := by cases h; rfl
theorem AC_ext_of {A : AProg} {f : FuncId} {g : List AVal → Option AVal} (h : A.ext f = some (extOf g)) {args : List AVal} {v : AVal} (hg : g args = some v) (H : AHeap) : AC A f args H = some (v, H) := by
  rw [AC_ext h, extOf, hg]
  rfl

end Go.Proofs.Ytilhjcnkaelheaa.Am
