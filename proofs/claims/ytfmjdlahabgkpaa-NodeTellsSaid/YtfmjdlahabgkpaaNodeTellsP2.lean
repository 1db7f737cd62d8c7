/- Texts put together by program: YtfmjdlahabgkpaaNob, YtfmjdlahabgkpaaNoc, YtfmjdlahabgkpaaNod, YtfmjdlahabgkpaaNoe, YtfmjdlahabgkpaaNof, YtfmjdlahabgkpaaNog, YtfmjdlahabgkpaaNoh, YtfmjdlahabgkpaaNoi, YtfmjdlahabgkpaaNoj, YtfmjdlahabgkpaaNok, YtfmjdlahabgkpaaNol, YtfmjdlahabgkpaaNom, YtfmjdlahabgkpaaNon, YtfmjdlahabgkpaaNoo. -/
import Derived.Test.YtfmjdlahabgkpaaNodeTellsP1
section
/- Nodes: which may be. -/
set_option maxRecDepth 100000
set_option linter.unusedSimpArgs false
set_option linter.unusedVariables false
set_option maxHeartbeats 4000000
namespace Go.Proofs.Ytfmjdlahabgkpaa.Sd
open Go Go.Proofs.Ytfmjdlahabgkpaa.Am SdFns Go.RowKit

theorem U87 {H : AHeap} {s q : AVal} {k : List Int} {x : It} (hq : Ki H q k) (hx : wt (lf k) x < 1000000000) : AC A 87 [.agg [s, q], .agg [.str x.1, .str x.2]] H = some (.int .i64 ((wt (lf k) x : Nat) : Int), H) := by
  refine look_val (x := SdFns.c87) rfl rfl rfl rfl ?_
  obtain ⟨K, eK⟩ : ∃ K, ((frz H).new (.cells [s, q] true)).new (.cells [.str x.1, .str x.2] true) = K := ⟨_, rfl⟩
  have o0 : K.obj H.next = some (.cells [s, q] true) := by rw [← eK]; simp [AHeap.new, frz]
  have o1 : K.obj (H.next + 1) = some (.cells [.str x.1, .str x.2] true) := by rw [← eK]; simp [AHeap.new, frz]
  have ll := hq.frz.len
  cases hl : lf k
  · have e := wt_f (x := x) hl
    rw [hl] at hx e
    have hd : decide ((k.length : Int) = 0) = false := hl
    have w1 : IntKind.i64.wrap (3 + (x.1.length : Int)) = ((3 + x.1.length : Nat) : Int) := by rw [wrap_i64]; omega
    simp only [c87, frz_next, eK, ll, hd, o0, o1, w1, e, rwA, rwB, Nat.reduceAdd, Nat.reduceMul, Nat.reduceLeDiff, Int.reduceEq, Int.reduceLT, Int.reduceLE, Int.reduceAdd, Int.reduceSub, Int.reduceMul, ↓reduceIte, Nat.reduceEqDiff, reduceCtorEq, ↓cnd_true, ↓cnd_false]
  · have e := wt_t (x := x) hl
    rw [hl] at hx e
    have hd : decide ((k.length : Int) = 0) = true := hl
    have w1 : IntKind.i64.wrap (2 + (x.1.length : Int)) = ((2 + x.1.length : Nat) : Int) := by rw [wrap_i64]; omega
    have w2 : IntKind.i64.wrap (((2 + x.1.length : Nat) : Int) + (x.2.length : Int)) = ((2 + x.1.length + x.2.length : Nat) : Int) := by rw [wrap_i64]; omega
    simp only [c87, frz_next, eK, ll, hd, o0, o1, w1, w2, e, rwA, rwB, Nat.reduceAdd, Nat.reduceMul, Nat.reduceLeDiff, Int.reduceEq, Int.reduceLT, Int.reduceLE, Int.reduceAdd, Int.reduceSub, Int.reduceMul, ↓reduceIte, Nat.reduceEqDiff, reduceCtorEq, ↓cnd_true, ↓cnd_false]

def b65 : ACode := (.seq (.seq (.region [⟨(some 7), (.mv (.tmp 6)), none, none⟩, ⟨(some 8), (.mv (.tmp 1)), none, none⟩, ⟨(some 9), (.bin .lss (.tmp 7) (.tmp 8)), none, none⟩]) (.cond (.tmp 9) .skip (.exit 0))) (.seq (.block 1 (.draw [⟨(some 12), (.mv (.tmp 5)), none, none⟩, ⟨(some 13), (.load true 2 (.tmp 2)), none, none⟩, ⟨(some 14), (.fieldA 0 (.tmp 2)), none, none⟩, ⟨(some 15), (.load false 1 (.tmp 14)), none, none⟩, ⟨(some 16), (.mv (.tmp 6)), none, none⟩, ⟨(some 17), (.idxASl 2 (.tmp 15) (.tmp 16)), none, none⟩, ⟨(some 18), (.load true 2 (.tmp 17)), none, none⟩, ⟨(some 19), (.call (.con (.func 87 [] [])) [(.tmp 13), (.tmp 18)]), none, none⟩, ⟨(some 20), (.bin .add (.tmp 12) (.tmp 19)), none, none⟩, ⟨(some 5), (.mv (.tmp 20)), none, none⟩])) (.region [⟨(some 10), (.mv (.tmp 6)), none, none⟩, ⟨(some 11), (.bin .add (.tmp 10) (.con (.int .i64 1))), none, none⟩, ⟨(some 6), (.mv (.tmp 11)), none, none⟩])))
theorem loop65 {H : AHeap} {s q : AVal} {k : List Int} {l : List It} (hq : Ki H q k) (hl : Li H s l) (hn : l.length < 1000000000) (hb : wts (lf k) l < 1000000000) {m : Nat} (hm : m ≤ l.length) {p : Nat} (ho : H.obj p = some (.cells [s, q] true)) (hp : p < H.next) {env : Env}
    (h1 : env 1 = .int .i64 (m : Int)) (h2 : env 2 = .ptr p 0) (h5 : env 5 = .int .i64 0) (h6 : env 6 = .int .i64 0) :
    Outs (AX A (.loop b65) env H) fun e env' K => e = .exit 0 ∧ env' 5 = .int .i64 ((wts (lf k) (l.take m) : Nat) : Int) := by
  refine loop_ends (I := fun (i : Nat) env' K => i ≤ m ∧ env' 1 = .int .i64 (m : Int) ∧ env' 2 = .ptr p 0 ∧ env' 6 = .int .i64 (i : Int) ∧ env' 5 = .int .i64 ((wts (lf k) (l.take i) : Nat) : Int) ∧ Keeps H K) (fun i => m - i) ?_ 0 env H
    ⟨Nat.zero_le _, h1, h2, h6, by simpa [wts] using h5, Keeps.refl _⟩
  rintro i env1 K ⟨hi, h1, h2, h6, h5, hK⟩
  by_cases c : i < m
  · have c1 : decide ((i : Int) < (m : Int)) = true := by simp; omega
    have cl : i < l.length := by omega
    have w1 : IntKind.i64.wrap ((i : Int) + 1) = ((i + 1 : Nat) : Int) := by rw [wrap_i64]; omega
    obtain ⟨id, off, cp, g, kk, own, rfl, hob, ld, _, _⟩ := (hl.keeps hK).at cl
    have ha := aidx_in cl
    have ht := wts_take (lf k) l cl
    have hle := wts_le (lf k) l (i + 1)
    have hwt : wt (lf k) l[i] < 1000000000 := by omega
    have w2 : IntKind.i64.wrap (((wts (lf k) (l.take i) : Nat) : Int) + ((wt (lf k) l[i] : Nat) : Int)) = ((wts (lf k) (l.take (i + 1)) : Nat) : Int) := by rw [wrap_i64]; omega
    obtain ⟨x, ex⟩ : ∃ x, l[i] = x := ⟨_, rfl⟩
    rw [ex] at ld hwt w2
    have oP : K.obj p = some (.cells [.slice id off l.length cp g, q] true) := by rw [hK.2 p hp]; exact ho
    have u := U87 (s := .slice id off l.length cp g) (x := x) (hq.keeps hK) hwt
    simp only [b65, h1, h2, h5, h6, c1, ha, hob, ld, oP, u, w1, w2, rwA, rwB, Nat.reduceAdd, Nat.reduceMul, Nat.reduceLeDiff, Int.reduceEq, Int.reduceLT, Int.reduceLE, Int.reduceAdd, Int.reduceSub, Int.reduceMul, ↓reduceIte, Nat.reduceEqDiff, reduceCtorEq, ↓cnd_true, ↓cnd_false]
    rw [outs_some]
    exact .inl ⟨rfl, i + 1, by omega, by omega, by simp [Env.set, h1], by simp [Env.set, h2], by simp [Env.set], by simp [Env.set], hK⟩
  · have e : i = m := by omega
    subst e
    have c1 : decide ((i : Int) < (i : Int)) = false := by simp
    simp only [b65, h1, h6, c1, rwA, rwB, Nat.reduceAdd, Nat.reduceMul, Nat.reduceLeDiff, Int.reduceEq, Int.reduceLT, Int.reduceLE, Int.reduceAdd, Int.reduceSub, Int.reduceMul, ↓reduceIte, Nat.reduceEqDiff, reduceCtorEq, ↓cnd_true, ↓cnd_false]
    rw [outs_some]
    exact .inr ⟨by simp, rfl, h5⟩

theorem U65 {H : AHeap} {s q : AVal} {k : List Int} {l : List It} {m : Nat} (hq : Ki H q k) (hl : Li H s l) (hn : l.length < 1000000000) (hb : wts (lf k) l < 1000000000) (hm : m ≤ l.length) : AC A 65 [.agg [s, q], .int .i64 (m : Int)] H = some (.int .i64 ((wts (lf k) (l.take m) : Nat) : Int), H) := by
  refine look_val (x := SdFns.c65) rfl rfl rfl rfl ?_
  obtain ⟨K, eK⟩ : ∃ K, (frz H).new (.cells [s, q] true) = K := ⟨_, rfl⟩
  have kK : Keeps (frz H) K := by rw [← eK]; exact Keeps.new' (Keeps.refl _)
  have o0 : K.obj H.next = some (.cells [s, q] true) := by rw [← eK]; simp [AHeap.new, frz]
  have nK : H.next < K.next := by rw [← eK]; simp [AHeap.new, frz]
  simp only [c65, frz_next, eK, rwA, rwB, Nat.reduceAdd, Nat.reduceMul, Nat.reduceLeDiff, Int.reduceEq, Int.reduceLT, Int.reduceLE, Int.reduceAdd, Int.reduceSub, Int.reduceMul, ↓reduceIte, Nat.reduceEqDiff, reduceCtorEq, ↓cnd_true, ↓cnd_false]
  repeat (first | refine outs_seq ?_ | refine outs_block ?_ | refine outs_step ?_ | refine outs_stepD ?_ | refine rets_end ?_ | refine ans_end ?_)
  refine (loop65 (hq.frz.keeps kK) (hl.frz.keeps kK) hn hb hm o0 nK ?_ ?_ ?_ ?_).mono ?_
  · simp [Env.set, ainit]
  · simp [Env.set]
  · simp [Env.set]
  · simp [Env.set]
  rintro e env K' ⟨rfl, h5⟩
  simp only [outs_some, h5, rwA, rwB, Nat.reduceAdd, Nat.reduceMul, Nat.reduceLeDiff, Int.reduceEq, Int.reduceLT, Int.reduceLE, Int.reduceAdd, Int.reduceSub, Int.reduceMul, ↓reduceIte, Nat.reduceEqDiff, reduceCtorEq, ↓cnd_true, ↓cnd_false]

theorem U32 {H : AHeap} {s q : AVal} {k : List Int} {l : List It} (hq : Ki H q k) (hl : Li H s l) (hn : l.length < 1000000000) (hb : wts (lf k) l < 1000000000) : AC A 32 [.agg [s, q]] H = some (.int .i64 ((sz k l : Nat) : Int), H) := by
  refine look_val (x := SdFns.c32) rfl rfl rfl rfl ?_
  obtain ⟨K, eK⟩ : ∃ K, (frz H).new (.cells [s, q] true) = K := ⟨_, rfl⟩
  have kK : Keeps (frz H) K := by rw [← eK]; exact Keeps.new' (Keeps.refl _)
  have u2 := U65 (s := s) (hq.frz.keeps kK) (hl.frz.keeps kK) hn hb (Nat.le_refl _)
  rw [List.take_length] at u2
  have o0 : K.obj H.next = some (.cells [s, q] true) := by rw [← eK]; simp [AHeap.new, frz]
  have lq := hq.frz.len
  have ls := hl.frz.len
  have w1 : IntKind.i64.wrap (2 + ((wts (lf k) l : Nat) : Int)) = ((2 + wts (lf k) l : Nat) : Int) := by rw [wrap_i64]; omega
  have w2 : IntKind.i64.wrap (4 + ((wts (lf k) l : Nat) : Int)) = ((4 + wts (lf k) l : Nat) : Int) := by rw [wrap_i64]; omega
  unfold sz
  cases hf : lf k
  · have hd : decide ((k.length : Int) = 0) = false := hf
    rw [hf] at u2 w1 w2
    simp only [c32, frz_next, eK, u2, hd, o0, lq, ls, w1, w2, rwA, rwB, Nat.reduceAdd, Nat.reduceMul, Nat.reduceLeDiff, Int.reduceEq, Int.reduceLT, Int.reduceLE, Int.reduceAdd, Int.reduceSub, Int.reduceMul, ↓reduceIte, Nat.reduceEqDiff, reduceCtorEq, ↓cnd_true, ↓cnd_false]
    try simp
  · have hd : decide ((k.length : Int) = 0) = true := hf
    rw [hf] at u2 w1 w2
    simp only [c32, frz_next, eK, u2, hd, o0, lq, ls, w1, w2, rwA, rwB, Nat.reduceAdd, Nat.reduceMul, Nat.reduceLeDiff, Int.reduceEq, Int.reduceLT, Int.reduceLE, Int.reduceAdd, Int.reduceSub, Int.reduceMul, ↓reduceIte, Nat.reduceEqDiff, reduceCtorEq, ↓cnd_true, ↓cnd_false]
    try simp

/-! ### Keys rise -/
def kof (l : List It) (n : Nat) : List UInt8 := (l[n]?.map (·.1)).getD []
theorem kof_at {l : List It} {n : Nat} (h : n < l.length) : kof l n = l[n].1 := by unfold kof; rw [List.getElem?_eq_getElem h]; rfl
def step (l : List It) (n : Nat) : Bool := decide (n = 0) || Op.bytesLess (kof l (n - 1)) (kof l n)
def risesN (l : List It) : Nat → Bool
  | 0 => true
  | n + 1 => risesN l n && step l n
def rises (l : List It) : Bool := risesN l l.length
theorem risesN_false (l : List It) {i : Nat} (h : risesN l i = false) : ∀ j, i ≤ j → risesN l j = false := by
  intro j hj
  induction j with
  | zero => have : i = 0 := by omega
            rw [this] at h; exact h
  | succ j ih =>
    by_cases hij : i = j + 1
    · rw [← hij]; exact h
    · rw [risesN, ih (by omega)]; rfl

def b34 : ACode := (.seq (.seq (.region [⟨(some 4), (.mv (.tmp 3)), none, none⟩, ⟨(some 5), (.mv (.tmp 0)), none, none⟩, ⟨(some 6), (.len false (.tmp 5)), none, none⟩, ⟨(some 7), (.bin .lss (.tmp 4) (.tmp 6)), none, none⟩]) (.cond (.tmp 7) .skip (.exit 0))) (.seq (.block 1 (.seq (.draw [⟨(some 10), (.mv (.tmp 0)), none, none⟩, ⟨(some 11), (.mv (.tmp 3)), none, none⟩, ⟨(some 12), (.bin .sub (.tmp 11) (.con (.int .i64 1))), none, none⟩, ⟨(some 13), (.idxASl 2 (.tmp 10) (.tmp 12)), none, none⟩, ⟨(some 14), (.fieldA 0 (.tmp 13)), none, none⟩, ⟨(some 15), (.load false 1 (.tmp 14)), none, none⟩, ⟨(some 16), (.mv (.tmp 0)), none, none⟩, ⟨(some 17), (.mv (.tmp 3)), none, none⟩, ⟨(some 18), (.idxASl 2 (.tmp 16) (.tmp 17)), none, none⟩, ⟨(some 19), (.fieldA 0 (.tmp 18)), none, none⟩, ⟨(some 20), (.load false 1 (.tmp 19)), none, none⟩, ⟨(some 21), (.bin .geq (.tmp 15) (.tmp 20)), none, none⟩]) (.cond (.tmp 21) (.seq (.region [⟨(some 2), (.mv (.con (.bool false))), none, none⟩]) .ret) .skip))) (.region [⟨(some 8), (.mv (.tmp 3)), none, none⟩, ⟨(some 9), (.bin .add (.tmp 8) (.con (.int .i64 1))), none, none⟩, ⟨(some 3), (.mv (.tmp 9)), none, none⟩])))
theorem loop34 {H : AHeap} {s : AVal} {l : List It} (hl : Li H s l) (hn : l.length < 1000000000) {env : Env} (h0 : env 0 = s) (h3 : env 3 = .int .i64 1) :
    Outs (AX A (.loop b34) env H) fun e env' K => (e = .exit 0 ∧ rises l = true) ∨ (e = .ret ∧ env' 2 = .bool false ∧ rises l = false) := by
  have ll := hl.len
  refine loop_ends (I := fun (i : Nat) env' K => (i = 0 ∨ i + 1 ≤ l.length) ∧ env' 0 = s ∧ env' 3 = .int .i64 ((i + 1 : Nat) : Int) ∧ K = H ∧ risesN l (i + 1) = true) (fun i => l.length - i) ?_ 0 env H
    ⟨.inl rfl, h0, h3, rfl, by simp [risesN, step]⟩
  rintro i env1 K ⟨hi, h0, h3, rfl, hr⟩
  by_cases c : i + 1 < l.length
  · have c1 : decide (((i + 1 : Nat) : Int) < (l.length : Int)) = true := by simp; omega
    have w1 : IntKind.i64.wrap (((i + 1 : Nat) : Int) + 1) = ((i + 1 + 1 : Nat) : Int) := by rw [wrap_i64]; omega
    have w2 : IntKind.i64.wrap (((i + 1 : Nat) : Int) - 1) = (i : Int) := by rw [wrap_i64]; omega
    obtain ⟨id, off, cp, g, kk, own, rfl, hob, _, k1, _⟩ := hl.at c
    obtain ⟨id', off', cp', g', kk', own', e, hob', _, k0, _⟩ := hl.at (show i < l.length by omega)
    cases e
    rw [hob] at hob'
    cases hob'
    have ha := aidx_in c
    have ha0 := aidx_in (show i < l.length by omega)
    have hs : step l (i + 1) = Op.bytesLess l[i].1 l[i + 1].1 := by
      unfold step
      rw [kof_at c, Nat.add_sub_cancel, kof_at (by omega)]
      simp
    cases hb : Op.bytesLess l[i].1 l[i + 1].1
    · simp only [b34, h0, h3, ll, c1, ha, ha0, hob, k0, k1, hb, w1, w2, rwA, rwB, Nat.reduceAdd, Nat.reduceMul, Nat.reduceLeDiff, Int.reduceEq, Int.reduceLT, Int.reduceLE, Int.reduceAdd, Int.reduceSub, Int.reduceMul, ↓reduceIte, Nat.reduceEqDiff, reduceCtorEq, ↓cnd_true, ↓cnd_false]
      rw [outs_some]
      refine .inr ⟨by simp, .inr ⟨rfl, by simp [Env.set], risesN_false l (i := i + 2) ?_ _ (by omega)⟩⟩
      rw [risesN, hs, hb, Bool.and_false]
    · simp only [b34, h0, h3, ll, c1, ha, ha0, hob, k0, k1, hb, w1, w2, rwA, rwB, Nat.reduceAdd, Nat.reduceMul, Nat.reduceLeDiff, Int.reduceEq, Int.reduceLT, Int.reduceLE, Int.reduceAdd, Int.reduceSub, Int.reduceMul, ↓reduceIte, Nat.reduceEqDiff, reduceCtorEq, ↓cnd_true, ↓cnd_false]
      rw [outs_some]
      refine .inl ⟨rfl, i + 1, by omega, .inr (by omega), by simp [Env.set, h0], by simp [Env.set]; omega, rfl, ?_⟩
      rw [risesN, hs, hb, hr]; rfl
  · have c1 : decide (((i + 1 : Nat) : Int) < (l.length : Int)) = false := by simp; omega
    simp only [b34, h0, h3, ll, c1, rwA, rwB, Nat.reduceAdd, Nat.reduceMul, Nat.reduceLeDiff, Int.reduceEq, Int.reduceLT, Int.reduceLE, Int.reduceAdd, Int.reduceSub, Int.reduceMul, ↓reduceIte, Nat.reduceEqDiff, reduceCtorEq, ↓cnd_true, ↓cnd_false]
    rw [outs_some]
    refine .inr ⟨by simp, .inl ⟨rfl, ?_⟩⟩
    unfold rises
    by_cases hz : l.length = 0
    · rw [hz]; rfl
    · rw [show l.length = i + 1 by omega]; exact hr

theorem U34 {H : AHeap} {s : AVal} {l : List It} (hl : Li H s l) (hn : l.length < 1000000000) : AC A 34 [s] H = some (.bool (rises l), H) := by
  refine look_val (x := SdFns.c34) rfl rfl rfl rfl ?_
  simp only [c34, rwA, rwB, Nat.reduceAdd, Nat.reduceMul, Nat.reduceLeDiff, Int.reduceEq, Int.reduceLT, Int.reduceLE, Int.reduceAdd, Int.reduceSub, Int.reduceMul, ↓reduceIte, Nat.reduceEqDiff, reduceCtorEq, ↓cnd_true, ↓cnd_false]
  repeat (first | refine outs_seq ?_ | refine outs_block ?_ | refine outs_step ?_ | refine outs_stepD ?_ | refine rets_end ?_ | refine ans_end ?_)
  refine (loop34 hl.frz hn ?_ ?_).mono ?_
  · simp [Env.set, ainit]
  · simp [Env.set]
  rintro e env K' (⟨rfl, hr⟩ | ⟨rfl, h2, hr⟩)
  · simp only [outs_some, hr, rwA, rwB, Nat.reduceAdd, Nat.reduceMul, Nat.reduceLeDiff, Int.reduceEq, Int.reduceLT, Int.reduceLE, Int.reduceAdd, Int.reduceSub, Int.reduceMul, ↓reduceIte, Nat.reduceEqDiff, reduceCtorEq, ↓cnd_true, ↓cnd_false]
  · simp only [outs_some, hr, h2, rwA, rwB, Nat.reduceAdd, Nat.reduceMul, Nat.reduceLeDiff, Int.reduceEq, Int.reduceLT, Int.reduceLE, Int.reduceAdd, Int.reduceSub, Int.reduceMul, ↓reduceIte, Nat.reduceEqDiff, reduceCtorEq, ↓cnd_true, ↓cnd_false]

end Go.Proofs.Ytfmjdlahabgkpaa.Sd
end

section
/- Nodes: Check, and the reference's Right. -/
set_option maxRecDepth 100000
set_option linter.unusedSimpArgs false
set_option linter.unusedVariables false
set_option maxHeartbeats 4000000
namespace Go.Proofs.Ytfmjdlahabgkpaa.Sd
open Go Go.Proofs.Ytfmjdlahabgkpaa.Am SdFns Go.RowKit

theorem all_take {α : Type} (f : α → Bool) (l : List α) {i : Nat} (h : i < l.length) : (l.take (i + 1)).all f = ((l.take i).all f && f l[i]) := by
  rw [List.take_add_one, List.getElem?_eq_getElem h, Option.toList_some, List.all_append]
  simp
theorem all_false {α : Type} (f : α → Bool) (l : List α) {i : Nat} (h : (l.take i).all f = false) : l.all f = false := by
  rw [← List.take_append_drop i l, List.all_append, h]; rfl
def kok (x : Int) : Bool := decide (2 ≤ x) && decide (x < 3840)
def fit (k : List Int) (l : List It) : Bool := if lf k then decide (0 < l.length) else decide ((l.length : Int) = (k.length : Int) - 1)
def rgt (k : List Int) (l : List It) : Bool := rises l && decide (sz k l ≤ 480) && l.all (okx (lf k)) && k.all kok && fit k l

def b33a : ACode := (.seq (.seq (.region [⟨(some 15), (.mv (.tmp 3)), none, none⟩, ⟨(some 16), (.fieldA 0 (.tmp 1)), none, none⟩, ⟨(some 17), (.load false 1 (.tmp 16)), none, none⟩, ⟨(some 18), (.len false (.tmp 17)), none, none⟩, ⟨(some 19), (.bin .lss (.tmp 15) (.tmp 18)), none, none⟩]) (.cond (.tmp 19) .skip (.exit 0))) (.seq (.block 1 (.seq (.region [⟨(some 22), (.fieldA 0 (.tmp 1)), none, none⟩, ⟨(some 23), (.load false 1 (.tmp 22)), none, none⟩, ⟨(some 24), (.mv (.tmp 3)), none, none⟩, ⟨(some 25), (.idxASl 2 (.tmp 23) (.tmp 24)), none, none⟩, ⟨(some 26), (.load true 2 (.tmp 25)), none, none⟩, ⟨(some 4), (.new [(.str []), (.str [])]), none, none⟩, ⟨none, (.store 2 (.tmp 4) (.tmp 26)), none, none⟩]) (.seq (.region [⟨(some 27), (.fieldA 0 (.tmp 4)), none, none⟩, ⟨(some 28), (.load false 1 (.tmp 27)), none, none⟩, ⟨(some 29), (.len true (.tmp 28)), none, none⟩, ⟨(some 30), (.bin .lss (.tmp 29) (.con (.int .i64 1))), none, none⟩, ⟨(some 31), (.mv (.tmp 30)), none, none⟩, ⟨(some 32), (.fieldA 0 (.tmp 4)), (some (31, false)), none⟩, ⟨(some 33), (.load false 1 (.tmp 32)), (some (31, false)), none⟩, ⟨(some 34), (.len true (.tmp 33)), (some (31, false)), none⟩, ⟨(some 35), (.bin .gtr (.tmp 34) (.con (.int .i64 64))), (some (31, false)), none⟩, ⟨(some 36), (.pick (.tmp 31) (.con (.bool true)) (.tmp 35)), none, none⟩, ⟨(some 37), (.mv (.tmp 36)), none, none⟩, ⟨(some 38), (.fieldA 1 (.tmp 4)), (some (37, false)), none⟩, ⟨(some 39), (.load false 1 (.tmp 38)), (some (37, false)), none⟩, ⟨(some 40), (.len true (.tmp 39)), (some (37, false)), none⟩, ⟨(some 41), (.bin .gtr (.tmp 40) (.con (.int .i64 64))), (some (37, false)), none⟩, ⟨(some 42), (.pick (.tmp 37) (.con (.bool true)) (.tmp 41)), none, none⟩, ⟨(some 43), (.mv (.tmp 42)), none, none⟩, ⟨(some 44), (.fieldA 1 (.tmp 1)), (some (43, false)), none⟩, ⟨(some 45), (.load false 1 (.tmp 44)), (some (43, false)), none⟩, ⟨(some 46), (.len false (.tmp 45)), (some (43, false)), none⟩, ⟨(some 47), (.bin .gtr (.tmp 46) (.con (.int .i64 0))), (some (43, false)), none⟩, ⟨(some 48), (.mv (.tmp 47)), (some (43, false)), none⟩, ⟨(some 49), (.fieldA 1 (.tmp 4)), (some (48, true)), none⟩, ⟨(some 50), (.load false 1 (.tmp 49)), (some (48, true)), none⟩, ⟨(some 51), (.len true (.tmp 50)), (some (48, true)), none⟩, ⟨(some 52), (.bin .gtr (.tmp 51) (.con (.int .i64 0))), (some (48, true)), none⟩, ⟨(some 53), (.pick (.tmp 48) (.tmp 52) (.con (.bool false))), (some (43, false)), none⟩, ⟨(some 54), (.pick (.tmp 43) (.con (.bool true)) (.tmp 53)), none, none⟩]) (.cond (.tmp 54) (.seq (.region [⟨(some 2), (.mv (.con (.bool false))), none, none⟩]) .ret) .skip)))) (.region [⟨(some 20), (.mv (.tmp 3)), none, none⟩, ⟨(some 21), (.bin .add (.tmp 20) (.con (.int .i64 1))), none, none⟩, ⟨(some 3), (.mv (.tmp 21)), none, none⟩])))
def b33b : ACode := (.seq (.seq (.region [⟨(some 55), (.mv (.tmp 5)), none, none⟩, ⟨(some 56), (.fieldA 1 (.tmp 1)), none, none⟩, ⟨(some 57), (.load false 1 (.tmp 56)), none, none⟩, ⟨(some 58), (.len false (.tmp 57)), none, none⟩, ⟨(some 59), (.bin .lss (.tmp 55) (.tmp 58)), none, none⟩]) (.cond (.tmp 59) .skip (.exit 2))) (.seq (.block 3 (.seq (.region [⟨(some 62), (.fieldA 1 (.tmp 1)), none, none⟩, ⟨(some 63), (.load false 1 (.tmp 62)), none, none⟩, ⟨(some 64), (.mv (.tmp 5)), none, none⟩, ⟨(some 65), (.idxASl 1 (.tmp 63) (.tmp 64)), none, none⟩, ⟨(some 66), (.load false 1 (.tmp 65)), none, none⟩, ⟨(some 67), (.bin .lss (.tmp 66) (.con (.int .i64 2))), none, none⟩, ⟨(some 68), (.mv (.tmp 67)), none, none⟩, ⟨(some 69), (.fieldA 1 (.tmp 1)), (some (68, false)), none⟩, ⟨(some 70), (.load false 1 (.tmp 69)), (some (68, false)), none⟩, ⟨(some 71), (.mv (.tmp 5)), (some (68, false)), none⟩, ⟨(some 72), (.idxASl 1 (.tmp 70) (.tmp 71)), (some (68, false)), none⟩, ⟨(some 73), (.load false 1 (.tmp 72)), (some (68, false)), none⟩, ⟨(some 74), (.bin .gtr (.tmp 73) (.con (.int .i64 3839))), (some (68, false)), none⟩, ⟨(some 75), (.pick (.tmp 68) (.con (.bool true)) (.tmp 74)), none, none⟩]) (.cond (.tmp 75) (.seq (.region [⟨(some 2), (.mv (.con (.bool false))), none, none⟩]) .ret) .skip))) (.region [⟨(some 60), (.mv (.tmp 5)), none, none⟩, ⟨(some 61), (.bin .add (.tmp 60) (.con (.int .i64 1))), none, none⟩, ⟨(some 5), (.mv (.tmp 61)), none, none⟩])))
theorem loop33a {H : AHeap} {s q : AVal} {k : List Int} {l : List It} (hq : Ki H q k) (hl : Li H s l) (hn : l.length < 1000000000) {p : Nat} (ho : H.obj p = some (.cells [s, q] true)) (hp : p < H.next) {env : Env}
    (h1 : env 1 = .ptr p 0) (h3 : env 3 = .int .i64 0) :
    Outs (AX A (.loop b33a) env H) fun e env' K => Keeps H K ∧ ((e = .exit 0 ∧ env' 1 = .ptr p 0 ∧ l.all (okx (lf k)) = true) ∨ (e = .ret ∧ env' 2 = .bool false ∧ l.all (okx (lf k)) = false)) := by
  refine loop_ends (I := fun (i : Nat) env' K => i ≤ l.length ∧ env' 1 = .ptr p 0 ∧ env' 3 = .int .i64 (i : Int) ∧ (l.take i).all (okx (lf k)) = true ∧ Keeps H K) (fun i => l.length - i) ?_ 0 env H
    ⟨Nat.zero_le _, h1, h3, rfl, Keeps.refl _⟩
  rintro i env1 K ⟨hi, h1, h3, hr, hK⟩
  have oP : K.obj p = some (.cells [s, q] true) := by rw [hK.2 p hp]; exact ho
  have ll := (hl.keeps hK).len
  have lq := (hq.keeps hK).len
  by_cases c : i < l.length
  · have c1 : decide ((i : Int) < (l.length : Int)) = true := by simp; omega
    have w1 : IntKind.i64.wrap ((i : Int) + 1) = ((i + 1 : Nat) : Int) := by rw [wrap_i64]; omega
    obtain ⟨id, off, cp, g, kk, own, rfl, hob, ld, _, _⟩ := (hl.keeps hK).at c
    have ha := aidx_in c
    have hs := all_take (okx (lf k)) l c
    rw [hr, Bool.true_and] at hs
    obtain ⟨x, ex⟩ : ∃ x, l[i] = x := ⟨_, rfl⟩
    rw [ex] at ld hs
    obtain ⟨K1, eK1⟩ : ∃ K1, (K.new (.cells [.str [], .str []] true)).set K.next (.cells [.str x.1, .str x.2] true) = K1 := ⟨_, rfl⟩
    have k1 : Keeps K K1 := by rw [← eK1]; exact Keeps.set' (Nat.le_refl _) (Keeps.new' (Keeps.refl _))
    have oN : K1.obj K.next = some (.cells [.str x.1, .str x.2] true) := by rw [← eK1, set_obj, if_pos rfl]
    have oP1 : K1.obj p = some (.cells [.slice id off l.length cp g, q] true) := by rw [k1.2 p (Nat.lt_of_lt_of_le hp hK.1)]; exact oP
    have hx : okx (lf k) x = (!decide ((x.1.length : Int) < 1) && !decide ((64 : Int) < (x.1.length : Int)) && !decide ((64 : Int) < (x.2.length : Int)) && !(decide ((0 : Int) < (k.length : Int)) && decide ((0 : Int) < (x.2.length : Int)))) := by
      unfold okx lf
      rw [Bool.eq_iff_iff]
      by_cases hk : k.length = 0
      · have : decide ((k.length : Int) = 0) = true := by simp [hk]
        simp [this, hk]; omega
      · have : decide ((k.length : Int) = 0) = false := by simp; exact fun h => hk (by rw [h]; rfl)
        simp only [this, Bool.false_eq_true, if_false]
        have e0 : decide (x.2 = []) = decide (x.2.length = 0) := by cases x.2 <;> simp
        rw [e0]
        simp only [Bool.and_eq_true, Bool.not_eq_true', decide_eq_true_eq, decide_eq_false_iff_not, Bool.and_eq_false_iff]
        omega
    obtain ⟨b1, e1⟩ : ∃ b, decide ((x.1.length : Int) < 1) = b := ⟨_, rfl⟩
    obtain ⟨b2, e2⟩ : ∃ b, decide ((64 : Int) < (x.1.length : Int)) = b := ⟨_, rfl⟩
    obtain ⟨b3, e3⟩ : ∃ b, decide ((64 : Int) < (x.2.length : Int)) = b := ⟨_, rfl⟩
    obtain ⟨b4, e4⟩ : ∃ b, decide ((0 : Int) < (k.length : Int)) = b := ⟨_, rfl⟩
    obtain ⟨b5, e5⟩ : ∃ b, decide ((0 : Int) < (x.2.length : Int)) = b := ⟨_, rfl⟩
    rw [e1, e2, e3, e4, e5] at hx
    have good : okx (lf k) x = true → (l.take (i + 1)).all (okx (lf k)) = true := fun h => by rw [hs, h]
    have bad : okx (lf k) x = false → l.all (okx (lf k)) = false := fun h => all_false _ _ (by rw [hs, h])
    have lq1 := (hq.keeps (hK.trans k1)).len
    cases b1 <;> cases b2 <;> cases b3 <;> cases b4 <;> cases b5 <;> simp only [Bool.not_true, Bool.not_false, Bool.and_true, Bool.and_false, Bool.true_and, Bool.false_and] at hx <;>
      simp only [b33a, h1, h3, oP, ll, c1, ha, hob, ld, eK1, oN, oP1, lq, lq1, e1, e2, e3, e4, e5, w1, rwA, rwB, Nat.reduceAdd, Nat.reduceMul, Nat.reduceLeDiff, Int.reduceEq, Int.reduceLT, Int.reduceLE, Int.reduceAdd, Int.reduceSub, Int.reduceMul, ↓reduceIte, Nat.reduceEqDiff, reduceCtorEq, ↓cnd_true, ↓cnd_false] <;> rw [outs_some] <;>
      first
        | exact .inl ⟨rfl, i + 1, by omega, by omega, by simp [Env.set, h1], by simp [Env.set], good hx, hK.trans k1⟩
        | exact .inr ⟨by simp, hK.trans k1, .inr ⟨rfl, by simp [Env.set], bad hx⟩⟩
  · have e : i = l.length := by omega
    subst e
    have c1 : decide ((l.length : Int) < (l.length : Int)) = false := by simp
    simp only [b33a, h1, h3, oP, ll, c1, rwA, rwB, Nat.reduceAdd, Nat.reduceMul, Nat.reduceLeDiff, Int.reduceEq, Int.reduceLT, Int.reduceLE, Int.reduceAdd, Int.reduceSub, Int.reduceMul, ↓reduceIte, Nat.reduceEqDiff, reduceCtorEq, ↓cnd_true, ↓cnd_false]
    rw [outs_some]
    rw [List.take_length] at hr
    exact .inr ⟨by simp, hK, .inl ⟨rfl, by simp [Env.set, h1], hr⟩⟩

theorem loop33b {H : AHeap} {s q : AVal} {k : List Int} (hq : Ki H q k) (hn : k.length < 1000000000) {p : Nat} (ho : H.obj p = some (.cells [s, q] true)) {env : Env}
    (h1 : env 1 = .ptr p 0) (h5 : env 5 = .int .i64 0) :
    Outs (AX A (.loop b33b) env H) fun e env' K => K = H ∧ ((e = .exit 2 ∧ env' 1 = .ptr p 0 ∧ k.all kok = true) ∨ (e = .ret ∧ env' 2 = .bool false ∧ k.all kok = false)) := by
  have lq := hq.len
  refine loop_ends (I := fun (i : Nat) env' K => i ≤ k.length ∧ env' 1 = .ptr p 0 ∧ env' 5 = .int .i64 (i : Int) ∧ (k.take i).all kok = true ∧ K = H) (fun i => k.length - i) ?_ 0 env H
    ⟨Nat.zero_le _, h1, h5, rfl, rfl⟩
  rintro i env1 K ⟨hi, h1, h5, hr, rfl⟩
  by_cases c : i < k.length
  · have c1 : decide ((i : Int) < (k.length : Int)) = true := by simp; omega
    have w1 : IntKind.i64.wrap ((i : Int) + 1) = ((i + 1 : Nat) : Int) := by rw [wrap_i64]; omega
    obtain ⟨id, off, cp, g, kk, own, rfl, hob, ld⟩ := hq.at c
    have ha := aidx_in c
    have hs := all_take kok k c
    rw [hr, Bool.true_and] at hs
    obtain ⟨x, ex⟩ : ∃ x, k[i] = x := ⟨_, rfl⟩
    rw [ex] at ld hs
    have hx : kok x = (!decide (x < 2) && !decide ((3839 : Int) < x)) := by
      unfold kok
      rw [Bool.eq_iff_iff]
      simp; omega
    obtain ⟨b1, e1⟩ : ∃ b, decide (x < 2) = b := ⟨_, rfl⟩
    obtain ⟨b2, e2⟩ : ∃ b, decide ((3839 : Int) < x) = b := ⟨_, rfl⟩
    rw [e1, e2] at hx
    have good : kok x = true → (k.take (i + 1)).all kok = true := fun h => by rw [hs, h]
    have bad : kok x = false → k.all kok = false := fun h => all_false _ _ (by rw [hs, h])
    cases b1 <;> cases b2 <;> simp only [Bool.not_true, Bool.not_false, Bool.and_true, Bool.and_false, Bool.true_and, Bool.false_and] at hx <;>
      simp only [b33b, h1, h5, ho, lq, c1, ha, hob, ld, e1, e2, w1, rwA, rwB, Nat.reduceAdd, Nat.reduceMul, Nat.reduceLeDiff, Int.reduceEq, Int.reduceLT, Int.reduceLE, Int.reduceAdd, Int.reduceSub, Int.reduceMul, ↓reduceIte, Nat.reduceEqDiff, reduceCtorEq, ↓cnd_true, ↓cnd_false] <;> rw [outs_some] <;>
      first
        | exact .inl ⟨rfl, i + 1, by omega, by omega, by simp [Env.set, h1], by simp [Env.set], good hx, rfl⟩
        | exact .inr ⟨by simp, rfl, .inr ⟨rfl, by simp [Env.set], bad hx⟩⟩
  · have e : i = k.length := by omega
    subst e
    have c1 : decide ((k.length : Int) < (k.length : Int)) = false := by simp
    simp only [b33b, h1, h5, ho, lq, c1, rwA, rwB, Nat.reduceAdd, Nat.reduceMul, Nat.reduceLeDiff, Int.reduceEq, Int.reduceLT, Int.reduceLE, Int.reduceAdd, Int.reduceSub, Int.reduceMul, ↓reduceIte, Nat.reduceEqDiff, reduceCtorEq, ↓cnd_true, ↓cnd_false]
    rw [outs_some]
    rw [List.take_length] at hr
    exact .inr ⟨by simp, rfl, .inl ⟨rfl, by simp [Env.set, h1], hr⟩⟩

theorem U33 {H : AHeap} {s q : AVal} {k : List Int} {l : List It} (hq : Ki H q k) (hl : Li H s l) (hn : l.length < 1000000000) (hk : k.length < 1000000000) (hb : wts (lf k) l < 1000000000) : AC A 33 [.agg [s, q]] H = some (.bool (rgt k l), H) := by
  refine look_val (x := SdFns.c33) rfl rfl rfl rfl ?_
  obtain ⟨K, eK⟩ : ∃ K, (frz H).new (.cells [s, q] true) = K := ⟨_, rfl⟩
  have kK : Keeps (frz H) K := by rw [← eK]; exact Keeps.new' (Keeps.refl _)
  have o0 : K.obj H.next = some (.cells [s, q] true) := by rw [← eK]; simp [AHeap.new, frz]
  have nK : H.next < K.next := by rw [← eK]; simp [AHeap.new, frz]
  have u34 := U34 (hl.frz.keeps kK) hn
  have u32 := U32 (hq.frz.keeps kK) (hl.frz.keeps kK) hn hb
  unfold rgt
  cases hr : rises l
  · rw [hr] at u34
    simp only [c33, frz_next, eK, o0, u34, rwA, rwB, Nat.reduceAdd, Nat.reduceMul, Nat.reduceLeDiff, Int.reduceEq, Int.reduceLT, Int.reduceLE, Int.reduceAdd, Int.reduceSub, Int.reduceMul, ↓reduceIte, Nat.reduceEqDiff, reduceCtorEq, ↓cnd_true, ↓cnd_false]
    simp
  rw [hr] at u34
  cases hz : decide ((480 : Int) < ((sz k l : Nat) : Int))
  rotate_left
  · have : decide (sz k l ≤ 480) = false := by simp at hz ⊢; omega
    simp only [c33, frz_next, eK, o0, u34, u32, hz, this, rwA, rwB, Nat.reduceAdd, Nat.reduceMul, Nat.reduceLeDiff, Int.reduceEq, Int.reduceLT, Int.reduceLE, Int.reduceAdd, Int.reduceSub, Int.reduceMul, ↓reduceIte, Nat.reduceEqDiff, reduceCtorEq, ↓cnd_true, ↓cnd_false]
    simp
  have hz2 : decide (sz k l ≤ 480) = true := by simp at hz ⊢; omega
  simp only [c33, frz_next, eK, o0, u34, u32, hz, rwA, rwB, Nat.reduceAdd, Nat.reduceMul, Nat.reduceLeDiff, Int.reduceEq, Int.reduceLT, Int.reduceLE, Int.reduceAdd, Int.reduceSub, Int.reduceMul, ↓reduceIte, Nat.reduceEqDiff, reduceCtorEq, ↓cnd_true, ↓cnd_false]
  repeat (first | refine outs_seq ?_ | refine outs_block ?_ | refine outs_step ?_ | refine outs_stepD ?_ | refine rets_end ?_ | refine ans_end ?_)
  refine (loop33a (hq.frz.keeps kK) (hl.frz.keeps kK) hn o0 nK ?_ ?_).mono ?_
  · simp [Env.set]
  · simp [Env.set]
  rintro e env K' ⟨kK', ⟨rfl, h1, ha⟩ | ⟨rfl, h2, ha⟩⟩
  rotate_left
  · simp only [outs_some, h2, ha, hz2, rwA, rwB, Nat.reduceAdd, Nat.reduceMul, Nat.reduceLeDiff, Int.reduceEq, Int.reduceLT, Int.reduceLE, Int.reduceAdd, Int.reduceSub, Int.reduceMul, ↓reduceIte, Nat.reduceEqDiff, reduceCtorEq, ↓cnd_true, ↓cnd_false]
    simp
  simp only [outs_some, rwA, rwB, Nat.reduceAdd, Nat.reduceMul, Nat.reduceLeDiff, Int.reduceEq, Int.reduceLT, Int.reduceLE, Int.reduceAdd, Int.reduceSub, Int.reduceMul, ↓reduceIte, Nat.reduceEqDiff, reduceCtorEq, ↓cnd_true, ↓cnd_false]
  have oP : K'.obj H.next = some (.cells [s, q] true) := by rw [kK'.2 _ nK]; exact o0
  repeat (first | refine outs_seq ?_ | refine outs_block ?_ | refine outs_step ?_ | refine outs_stepD ?_ | refine rets_end ?_ | refine ans_end ?_)
  refine (loop33b (hq.frz.keeps (kK.trans kK')) hk oP ?_ ?_).mono ?_
  · simp [Env.set, h1]
  · simp [Env.set]
  rintro e env2 K2 ⟨rfl, ⟨rfl, h1, hb⟩ | ⟨rfl, h2, hb⟩⟩
  rotate_left
  · simp only [outs_some, h2, ha, hb, hz2, rwA, rwB, Nat.reduceAdd, Nat.reduceMul, Nat.reduceLeDiff, Int.reduceEq, Int.reduceLT, Int.reduceLE, Int.reduceAdd, Int.reduceSub, Int.reduceMul, ↓reduceIte, Nat.reduceEqDiff, reduceCtorEq, ↓cnd_true, ↓cnd_false]
    simp
  have lq := (hq.frz.keeps (kK.trans kK')).len
  have ls := (hl.frz.keeps (kK.trans kK')).len
  have w1 : IntKind.i64.wrap ((k.length : Int) - 1) = (k.length : Int) - 1 := by rw [wrap_i64]; omega
  unfold fit
  cases hf : lf k
  · have hd : decide ((k.length : Int) = 0) = false := hf
    simp only [outs_some, h1, oP, lq, ls, hd, w1, rwA, rwB, Nat.reduceAdd, Nat.reduceMul, Nat.reduceLeDiff, Int.reduceEq, Int.reduceLT, Int.reduceLE, Int.reduceAdd, Int.reduceSub, Int.reduceMul, ↓reduceIte, Nat.reduceEqDiff, reduceCtorEq, ↓cnd_true, ↓cnd_false]
    simp [ha, hb, hz2, hf] <;> try (rw [hf] at ha; simp_all)
  · have hd : decide ((k.length : Int) = 0) = true := hf
    simp only [outs_some, h1, oP, lq, ls, hd, w1, rwA, rwB, Nat.reduceAdd, Nat.reduceMul, Nat.reduceLeDiff, Int.reduceEq, Int.reduceLT, Int.reduceLE, Int.reduceAdd, Int.reduceSub, Int.reduceMul, ↓reduceIte, Nat.reduceEqDiff, reduceCtorEq, ↓cnd_true, ↓cnd_false]
    simp [ha, hb, hz2, hf] <;> try (rw [hf] at ha; simp_all)

end Go.Proofs.Ytfmjdlahabgkpaa.Sd
end

section
/- Nodes: Check. -/
set_option maxRecDepth 100000
set_option linter.unusedSimpArgs false
set_option linter.unusedVariables false
set_option maxHeartbeats 4000000
namespace Go.Proofs.Ytfmjdlahabgkpaa.Sd
open Go Go.Proofs.Ytfmjdlahabgkpaa.Am SdFns Go.RowKit

def acc (b : Bool) (k : List Int) (l : List It) (i : Nat) : Bool := b && ((l.take i).all (okx (lf k)) && risesN l i)
theorem acc_succ (b : Bool) (k : List Int) (l : List It) {i : Nat} (h : i < l.length) : acc b k l (i + 1) = (acc b k l i && okx (lf k) l[i] && step l i) := by
  unfold acc
  rw [all_take _ _ h, risesN]
  cases b <;> cases (l.take i).all (okx (lf k)) <;> cases risesN l i <;> cases okx (lf k) l[i] <;> cases step l i <;> rfl

def b29a : ACode := (.seq (.region [⟨(some 35), (.bin .lss (.tmp 34) (.tmp 33)), none, none⟩]) (.seq (.cond (.tmp 35) .skip (.exit 0)) (.seq (.block 1 (.seq (.region [⟨(some 36), (.mv (.tmp 34)), none, none⟩, ⟨(some 37), (.idxASl 2 (.tmp 32) (.tmp 34)), none, none⟩, ⟨(some 38), (.load true 2 (.tmp 37)), none, none⟩, ⟨(some 5), (.new [(.str []), (.str [])]), none, none⟩, ⟨(some 4), (.mv (.tmp 36)), none, none⟩, ⟨none, (.store 2 (.tmp 5) (.tmp 38)), none, none⟩]) (.draw [⟨(some 39), (.mv (.tmp 3)), none, none⟩, ⟨(some 40), (.mv (.tmp 39)), none, none⟩, ⟨(some 41), (.load true 2 (.tmp 1)), (some (40, true)), none⟩, ⟨(some 42), (.load true 2 (.tmp 5)), (some (40, true)), none⟩, ⟨(some 43), (.call (.con (.func 62 [] [])) [(.tmp 41), (.tmp 42)]), (some (40, true)), none⟩, ⟨(some 44), (.pick (.tmp 40) (.tmp 43) (.con (.bool false))), none, none⟩, ⟨(some 45), (.mv (.tmp 44)), none, none⟩, ⟨(some 46), (.mv (.tmp 4)), (some (45, true)), none⟩, ⟨(some 47), (.bin .eql (.tmp 46) (.con (.int .i64 0))), (some (45, true)), none⟩, ⟨(some 48), (.mv (.tmp 47)), (some (45, true)), none⟩, ⟨(some 49), (.fieldA 0 (.tmp 1)), (some (48, false)), none⟩, ⟨(some 50), (.load false 1 (.tmp 49)), (some (48, false)), none⟩, ⟨(some 51), (.mv (.tmp 4)), (some (48, false)), none⟩, ⟨(some 52), (.bin .sub (.tmp 51) (.con (.int .i64 1))), (some (48, false)), none⟩, ⟨(some 53), (.idxASl 2 (.tmp 50) (.tmp 52)), (some (48, false)), none⟩, ⟨(some 54), (.fieldA 0 (.tmp 53)), (some (48, false)), none⟩, ⟨(some 55), (.load false 1 (.tmp 54)), (some (48, false)), none⟩, ⟨(some 56), (.fieldA 0 (.tmp 5)), (some (48, false)), none⟩, ⟨(some 57), (.load false 1 (.tmp 56)), (some (48, false)), none⟩, ⟨(some 58), (.bin .lss (.tmp 55) (.tmp 57)), (some (48, false)), none⟩, ⟨(some 59), (.pick (.tmp 48) (.con (.bool true)) (.tmp 58)), (some (45, true)), none⟩, ⟨(some 60), (.pick (.tmp 45) (.tmp 59) (.con (.bool false))), none, none⟩, ⟨(some 3), (.mv (.tmp 60)), none, none⟩]))) (.region [⟨(some 61), (.bin .add (.tmp 34) (.con (.int .i64 1))), none, none⟩, ⟨(some 34), (.mv (.tmp 61)), none, none⟩]))))
def b29b : ACode := (.seq (.region [⟨(some 66), (.bin .lss (.tmp 65) (.tmp 64)), none, none⟩]) (.seq (.cond (.tmp 66) .skip (.exit 2)) (.seq (.block 3 (.seq (.region [⟨(some 67), (.idxASl 1 (.tmp 63) (.tmp 65)), none, none⟩, ⟨(some 68), (.load false 1 (.tmp 67)), none, none⟩, ⟨(some 7), (.mv (.tmp 68)), none, none⟩]) (.region [⟨(some 69), (.mv (.tmp 3)), none, none⟩, ⟨(some 70), (.mv (.tmp 69)), none, none⟩, ⟨(some 71), (.mv (.tmp 7)), (some (70, true)), none⟩, ⟨(some 72), (.bin .geq (.tmp 71) (.con (.int .i64 2))), (some (70, true)), none⟩, ⟨(some 73), (.pick (.tmp 70) (.tmp 72) (.con (.bool false))), none, none⟩, ⟨(some 74), (.mv (.tmp 73)), none, none⟩, ⟨(some 75), (.mv (.tmp 7)), (some (74, true)), none⟩, ⟨(some 76), (.bin .lss (.tmp 75) (.con (.int .i64 3840))), (some (74, true)), none⟩, ⟨(some 77), (.pick (.tmp 74) (.tmp 76) (.con (.bool false))), none, none⟩, ⟨(some 3), (.mv (.tmp 77)), none, none⟩]))) (.region [⟨(some 78), (.bin .add (.tmp 65) (.con (.int .i64 1))), none, none⟩, ⟨(some 65), (.mv (.tmp 78)), none, none⟩]))))
theorem loop29a {H : AHeap} {s q : AVal} {k : List Int} {l : List It} (b : Bool) (hq : Ki H q k) (hl : Li H s l) (hn : l.length < 1000000000) {p : Nat} (ho : H.obj p = some (.cells [s, q] true)) (hp : p < H.next) {env : Env}
    (h1 : env 1 = .ptr p 0) (h3 : env 3 = .bool b) (h32 : env 32 = s) (h33 : env 33 = .int .i64 (l.length : Int)) (h34 : env 34 = .int .i64 0) :
    Outs (AX A (.loop b29a) env H) fun e env' K => Keeps H K ∧ e = .exit 0 ∧ env' 1 = .ptr p 0 ∧ env' 3 = .bool (acc b k l l.length) := by
  refine loop_ends (I := fun (i : Nat) env' K => i ≤ l.length ∧ env' 1 = .ptr p 0 ∧ env' 32 = s ∧ env' 33 = .int .i64 (l.length : Int) ∧ env' 34 = .int .i64 (i : Int) ∧ env' 3 = .bool (acc b k l i) ∧ Keeps H K) (fun i => l.length - i) ?_ 0 env H
    ⟨Nat.zero_le _, h1, h32, h33, h34, by simpa [acc, risesN] using h3, Keeps.refl _⟩
  rintro i env1 K ⟨hi, h1, h32, h33, h34, h3, hK⟩
  by_cases c : i < l.length
  · have c1 : decide ((i : Int) < (l.length : Int)) = true := by simp; omega
    have w1 : IntKind.i64.wrap ((i : Int) + 1) = ((i + 1 : Nat) : Int) := by rw [wrap_i64]; omega
    have oP : K.obj p = some (.cells [s, q] true) := by rw [hK.2 p hp]; exact ho
    obtain ⟨id, off, cp, g, kk, own, rfl, hob, ld, _, _⟩ := (hl.keeps hK).at c
    have ha := aidx_in c
    have hs := acc_succ b k l c
    have hstep : step l i = (decide (i = 0) || Op.bytesLess (kof l (i - 1)) l[i].1) := by unfold step; rw [kof_at c]
    obtain ⟨x, ex⟩ : ∃ x, l[i] = x := ⟨_, rfl⟩
    rw [ex] at ld hs hstep
    obtain ⟨K1, eK1⟩ : ∃ K1, (K.new (.cells [.str [], .str []] true)).set K.next (.cells [.str x.1, .str x.2] true) = K1 := ⟨_, rfl⟩
    have k1 : Keeps K K1 := by rw [← eK1]; exact Keeps.set' (Nat.le_refl _) (Keeps.new' (Keeps.refl _))
    have oN : K1.obj K.next = some (.cells [.str x.1, .str x.2] true) := by rw [← eK1, set_obj, if_pos rfl]
    have oP1 : K1.obj p = some (.cells [.slice id off l.length cp g, q] true) := by rw [k1.2 p (Nat.lt_of_lt_of_le hp hK.1)]; exact oP
    have hid : id < K.next := (hl.keeps hK).old id (by simp [AVal.ids])
    have hob1 : K1.obj id = some (.cells kk own) := by rw [k1.2 id hid]; exact hob
    have u := U62 (s := .slice id off l.length cp g) (x := x) (hq.keeps (hK.trans k1))
    obtain ⟨a0, ea0⟩ : ∃ a, acc b k l i = a := ⟨_, rfl⟩
    obtain ⟨y0, ey0⟩ : ∃ a, okx (lf k) x = a := ⟨_, rfl⟩
    rw [ea0] at h3 hs
    rw [ey0] at u hs
    cases a0
    · have hs' : acc b k l (i + 1) = false := by rw [hs]; rfl
      simp only [b29a, h1, h3, h32, h33, h34, c1, ha, hob, ld, eK1, oN, oP1, w1, rwA, rwB, Nat.reduceAdd, Nat.reduceMul, Nat.reduceLeDiff, Int.reduceEq, Int.reduceLT, Int.reduceLE, Int.reduceAdd, Int.reduceSub, Int.reduceMul, ↓reduceIte, Nat.reduceEqDiff, reduceCtorEq, ↓cnd_true, ↓cnd_false]
      rw [outs_some]
      exact .inl ⟨rfl, i + 1, by omega, by omega, by simp [Env.set, h1], by simp [Env.set, h32], by simp [Env.set, h33], by simp [Env.set], by simp [Env.set, hs'], hK.trans k1⟩
    cases y0
    · have hs' : acc b k l (i + 1) = false := by rw [hs]; rfl
      simp only [b29a, h1, h3, h32, h33, h34, c1, ha, hob, ld, eK1, oN, oP1, u, w1, rwA, rwB, Nat.reduceAdd, Nat.reduceMul, Nat.reduceLeDiff, Int.reduceEq, Int.reduceLT, Int.reduceLE, Int.reduceAdd, Int.reduceSub, Int.reduceMul, ↓reduceIte, Nat.reduceEqDiff, reduceCtorEq, ↓cnd_true, ↓cnd_false]
      rw [outs_some]
      exact .inl ⟨rfl, i + 1, by omega, by omega, by simp [Env.set, h1], by simp [Env.set, h32], by simp [Env.set, h33], by simp [Env.set], by simp [Env.set, hs'], hK.trans k1⟩
    have hs' : acc b k l (i + 1) = step l i := by rw [hs]; rfl
    by_cases hz : i = 0
    · have hs2 : acc b k l (i + 1) = true := by rw [hs', hstep, decide_eq_true hz]; rfl
      have c2 : decide ((i : Int) = 0) = true := by simp [hz]
      simp only [b29a, h1, h3, h32, h33, h34, c1, c2, ha, hob, ld, eK1, oN, oP1, u, w1, rwA, rwB, Nat.reduceAdd, Nat.reduceMul, Nat.reduceLeDiff, Int.reduceEq, Int.reduceLT, Int.reduceLE, Int.reduceAdd, Int.reduceSub, Int.reduceMul, ↓reduceIte, Nat.reduceEqDiff, reduceCtorEq, ↓cnd_true, ↓cnd_false]
      rw [outs_some]
      exact .inl ⟨rfl, i + 1, by omega, by omega, by simp [Env.set, h1], by simp [Env.set, h32], by simp [Env.set, h33], by simp [Env.set], by simp [Env.set, hs2], hK.trans k1⟩
    · have c2 : decide ((i : Int) = 0) = false := by simp [hz]
      have w2 : IntKind.i64.wrap ((i : Int) - 1) = ((i - 1 : Nat) : Int) := by rw [wrap_i64]; omega
      have cj : i - 1 < l.length := by omega
      obtain ⟨id', off', cp', g', kk', own', e, hob', _, k0, _⟩ := (hl.keeps hK).at cj
      cases e
      rw [hob] at hob'
      cases hob'
      have haj := aidx_in cj
      have hs2 : acc b k l (i + 1) = Op.bytesLess l[i - 1].1 x.1 := by rw [hs', hstep, kof_at cj, decide_eq_false hz, Bool.false_or]
      simp only [b29a, h1, h3, h32, h33, h34, c1, c2, ha, haj, hob, hob1, k0, ld, eK1, oN, oP1, u, w1, w2, rwA, rwB, Nat.reduceAdd, Nat.reduceMul, Nat.reduceLeDiff, Int.reduceEq, Int.reduceLT, Int.reduceLE, Int.reduceAdd, Int.reduceSub, Int.reduceMul, ↓reduceIte, Nat.reduceEqDiff, reduceCtorEq, ↓cnd_true, ↓cnd_false]
      rw [outs_some]
      exact .inl ⟨rfl, i + 1, by omega, by omega, by simp [Env.set, h1], by simp [Env.set, h32], by simp [Env.set, h33], by simp [Env.set], by simp [Env.set, hs2], hK.trans k1⟩
  · have e : i = l.length := by omega
    subst e
    have c1 : decide ((l.length : Int) < (l.length : Int)) = false := by simp
    simp only [b29a, h33, h34, c1, rwA, rwB, Nat.reduceAdd, Nat.reduceMul, Nat.reduceLeDiff, Int.reduceEq, Int.reduceLT, Int.reduceLE, Int.reduceAdd, Int.reduceSub, Int.reduceMul, ↓reduceIte, Nat.reduceEqDiff, reduceCtorEq, ↓cnd_true, ↓cnd_false]
    rw [outs_some]
    exact .inr ⟨by simp, hK, rfl, h1, h3⟩

theorem loop29b {H : AHeap} {q : AVal} {k : List Int} (b : Bool) (hq : Ki H q k) (hn : k.length < 1000000000) {p : Nat} {env : Env}
    (h1 : env 1 = .ptr p 0) (h3 : env 3 = .bool b) (h63 : env 63 = q) (h64 : env 64 = .int .i64 (k.length : Int)) (h65 : env 65 = .int .i64 0) :
    Outs (AX A (.loop b29b) env H) fun e env' K => K = H ∧ e = .exit 2 ∧ env' 1 = .ptr p 0 ∧ env' 3 = .bool (b && k.all kok) := by
  refine loop_ends (I := fun (i : Nat) env' K => i ≤ k.length ∧ env' 1 = .ptr p 0 ∧ env' 63 = q ∧ env' 64 = .int .i64 (k.length : Int) ∧ env' 65 = .int .i64 (i : Int) ∧ env' 3 = .bool (b && (k.take i).all kok) ∧ K = H) (fun i => k.length - i) ?_ 0 env H
    ⟨Nat.zero_le _, h1, h63, h64, h65, by simpa using h3, rfl⟩
  rintro i env1 K ⟨hi, h1, h63, h64, h65, h3, rfl⟩
  by_cases c : i < k.length
  · have c1 : decide ((i : Int) < (k.length : Int)) = true := by simp; omega
    have w1 : IntKind.i64.wrap ((i : Int) + 1) = ((i + 1 : Nat) : Int) := by rw [wrap_i64]; omega
    obtain ⟨id, off, cp, g, kk, own, rfl, hob, ld⟩ := hq.at c
    have ha := aidx_in c
    have hs := all_take kok k c
    obtain ⟨x, ex⟩ : ∃ x, k[i] = x := ⟨_, rfl⟩
    rw [ex] at ld hs
    have hx : kok x = (decide ((2 : Int) ≤ x) && decide (x < 3840)) := rfl
    obtain ⟨b1, e1⟩ : ∃ b, decide ((2 : Int) ≤ x) = b := ⟨_, rfl⟩
    obtain ⟨b2, e2⟩ : ∃ b, decide (x < (3840 : Int)) = b := ⟨_, rfl⟩
    obtain ⟨a0, ea0⟩ : ∃ a, (b && (k.take i).all kok) = a := ⟨_, rfl⟩
    rw [e1, e2] at hx
    have hs' : (b && (k.take (i + 1)).all kok) = (a0 && (b1 && b2)) := by rw [hs, ← Bool.and_assoc, ea0, hx]
    rw [ea0] at h3
    cases a0 <;> cases b1 <;> cases b2 <;> simp only [Bool.and_true, Bool.and_false, Bool.true_and, Bool.false_and] at hs' <;>
      simp only [b29b, h1, h3, h63, h64, h65, c1, ha, hob, ld, e1, e2, w1, rwA, rwB, Nat.reduceAdd, Nat.reduceMul, Nat.reduceLeDiff, Int.reduceEq, Int.reduceLT, Int.reduceLE, Int.reduceAdd, Int.reduceSub, Int.reduceMul, ↓reduceIte, Nat.reduceEqDiff, reduceCtorEq, ↓cnd_true, ↓cnd_false] <;> rw [outs_some] <;>
      exact .inl ⟨rfl, i + 1, by omega, by omega, by simp [Env.set, h1], by simp [Env.set, h63], by simp [Env.set, h64], by simp [Env.set], by simp [Env.set, hs'], rfl⟩
  · have e : i = k.length := by omega
    subst e
    have c1 : decide ((k.length : Int) < (k.length : Int)) = false := by simp
    simp only [b29b, h64, h65, c1, rwA, rwB, Nat.reduceAdd, Nat.reduceMul, Nat.reduceLeDiff, Int.reduceEq, Int.reduceLT, Int.reduceLE, Int.reduceAdd, Int.reduceSub, Int.reduceMul, ↓reduceIte, Nat.reduceEqDiff, reduceCtorEq, ↓cnd_true, ↓cnd_false]
    rw [outs_some]
    rw [List.take_length] at h3
    exact .inr ⟨by simp, rfl, rfl, h1, h3⟩

def no (b : Bool) : Int := if b then 0 else 18
theorem U29 {H : AHeap} {s q : AVal} {k : List Int} {l : List It} (hq : Ki H q k) (hl : Li H s l) (hn : l.length < 1000000000) (hk : k.length < 1000000000) (hb : wts (lf k) l < 1000000000) : AC A 29 [.agg [s, q]] H = some (.int .i64 (no (rgt k l)), H) := by
  refine look_val (x := SdFns.c29) rfl rfl rfl rfl ?_
  obtain ⟨K, eK⟩ : ∃ K, (frz H).new (.cells [s, q] true) = K := ⟨_, rfl⟩
  have kK : Keeps (frz H) K := by rw [← eK]; exact Keeps.new' (Keeps.refl _)
  have o0 : K.obj H.next = some (.cells [s, q] true) := by rw [← eK]; simp [AHeap.new, frz]
  have nK : H.next < K.next := by rw [← eK]; simp [AHeap.new, frz]
  have u58 := U58 (s := s) (hq.frz.keeps kK)
  have lq := (hq.frz.keeps kK).len
  have ls := (hl.frz.keeps kK).len
  have lq0 := hq.frz.len
  have ls0 := hl.frz.len
  have w1 : IntKind.i64.wrap ((k.length : Int) - 1) = (k.length : Int) - 1 := by rw [wrap_i64]; omega
  have fin : ∀ (z : Bool), decide ((480 : Int) < ((sz k l : Nat) : Int)) = z → rgt k l = (acc (fit k l) k l l.length && k.all kok && !z) := by
    intro z hz
    unfold rgt acc rises
    rw [List.take_length]
    have : decide (sz k l ≤ 480) = !z := by rw [← hz]; rw [Bool.eq_iff_iff]; simp; omega
    rw [this]
    cases fit k l <;> cases l.all (okx (lf k)) <;> cases risesN l l.length <;> cases k.all kok <;> cases z <;> rfl
  have tail : ∀ (K' : AHeap), Keeps K K' → K'.obj H.next = some (.cells [s, q] true) ∧ AC A 31 [.agg [s, q]] K' = some (.int .i64 ((sz k l : Nat) : Int), K') := fun K' kK' =>
    ⟨by rw [kK'.2 _ nK]; exact o0, U31 (hq.frz.keeps (kK.trans kK')) (hl.frz.keeps (kK.trans kK')) hn hb⟩
  have hfit : fit k l = if lf k then decide (0 < l.length) else decide ((l.length : Int) = (k.length : Int) - 1) := rfl
  obtain ⟨z, hz⟩ : ∃ z, decide ((l.length : Int) = (k.length : Int) - 1) = z := ⟨_, rfl⟩
  obtain ⟨y, hy⟩ : ∃ y, decide ((0 : Int) < (l.length : Int)) = y := ⟨_, rfl⟩
  have hy' : decide (0 < l.length) = y := by rw [← hy, Bool.eq_iff_iff]; simp
  rw [hz, hy'] at hfit
  cases hf : lf k
  all_goals
    rw [hf] at u58 hfit
    cases y <;> cases z
  all_goals
    simp only [if_true, Bool.false_eq_true, if_false] at hfit
    simp only [c29, frz_next, eK, o0, u58, lq, ls, w1, hz, hy, rwA, rwB, Nat.reduceAdd, Nat.reduceMul, Nat.reduceLeDiff, Int.reduceEq, Int.reduceLT, Int.reduceLE, Int.reduceAdd, Int.reduceSub, Int.reduceMul, ↓reduceIte, Nat.reduceEqDiff, reduceCtorEq, ↓cnd_true, ↓cnd_false]
    repeat (first | refine outs_seq ?_ | refine outs_block ?_ | refine outs_step ?_ | refine outs_stepD ?_ | refine rets_end ?_ | refine ans_end ?_)
    refine (loop29a (fit k l) (hq.frz.keeps kK) (hl.frz.keeps kK) hn o0 nK ?_ ?_ ?_ ?_ ?_).mono ?_
    · simp [Env.set]
    · rw [hfit]; simp [Env.set]
    · simp [Env.set]
    · simp [Env.set]
    · simp [Env.set]
    rintro e env K' ⟨kK', rfl, h1, h3⟩
    obtain ⟨oP, u31⟩ := tail K' kK'
    have lq' := (hq.frz.keeps (kK.trans kK')).len
    simp only [outs_some, h1, oP, lq', rwA, rwB, Nat.reduceAdd, Nat.reduceMul, Nat.reduceLeDiff, Int.reduceEq, Int.reduceLT, Int.reduceLE, Int.reduceAdd, Int.reduceSub, Int.reduceMul, ↓reduceIte, Nat.reduceEqDiff, reduceCtorEq, ↓cnd_true, ↓cnd_false]
    repeat (first | refine outs_seq ?_ | refine outs_block ?_ | refine outs_step ?_ | refine outs_stepD ?_ | refine rets_end ?_ | refine ans_end ?_)
    refine (loop29b (p := H.next) (acc (fit k l) k l l.length) (hq.frz.keeps (kK.trans kK')) hk ?_ ?_ ?_ ?_ ?_).mono ?_
    · simp [Env.set, h1]
    · simp [Env.set, h3]
    · simp [Env.set]
    · simp [Env.set]
    · simp [Env.set]
    rintro e2 env2 K2 ⟨rfl, rfl, h1, h3⟩
    obtain ⟨w, hw⟩ : ∃ w, decide ((480 : Int) < ((sz k l : Nat) : Int)) = w := ⟨_, rfl⟩
    have hfin := fin w hw
    generalize (acc (fit k l) k l l.length && k.all kok) = t at h3 hfin
    rw [hfin]
    cases t <;> cases w <;> simp only [outs_some, h1, h3, oP, u31, hw, rwA, rwB, Nat.reduceAdd, Nat.reduceMul, Nat.reduceLeDiff, Int.reduceEq, Int.reduceLT, Int.reduceLE, Int.reduceAdd, Int.reduceSub, Int.reduceMul, ↓reduceIte, Nat.reduceEqDiff, reduceCtorEq, ↓cnd_true, ↓cnd_false] <;> rfl

end Go.Proofs.Ytfmjdlahabgkpaa.Sd
end

section
/- Nodes: their bytes. -/
set_option maxRecDepth 100000
set_option linter.unusedSimpArgs false
set_option linter.unusedVariables false
set_option maxHeartbeats 4000000
namespace Go.Proofs.Ytfmjdlahabgkpaa.Sd
open Go Go.Proofs.Ytfmjdlahabgkpaa.Am SdFns Go.RowKit

def sh (s : List UInt8) : List UInt8 := num 1 s.length ++ s
theorem num_len {w : Int} (n : Nat) (h : 1 ≤ w ∧ w ≤ 8) : (num w n).length = w.toNat := by unfold num; rw [if_pos h, encl_len]
theorem sh_len (s : List UInt8) : (sh s).length = 1 + s.length := by unfold sh; rw [List.length_append, num_len _ (by omega)]; rfl
theorem num1_is (n : Nat) : num 1 n = [UInt8.ofNat n] := by
  have : num 1 n = encl 1 n := by unfold num; rw [if_pos (by omega)]; rfl
  rw [this]
  simp [encl, List.range_succ]

theorem U59 (s : List UInt8) (hs : s.length < 1000000000) (H : AHeap) : AC A 59 [.str s] H = some (.str (sh s), H) := by
  refine one_val (x := SdFns.c59) rfl rfl rfl rfl rfl ?_ H
  have w1 := wrap_u64 s.length (by omega)
  have u := U45 1 s.length noH
  have c : abin .add (.str (num 1 s.length)) (.str s) = some (.str (sh s)) := cat_str (by rw [num_len _ (by omega)]; show 1 + _ ≤ _; omega)
  simp only [c59, w1, u, c, rwA, rwB, Nat.reduceAdd, Nat.reduceMul, Nat.reduceLeDiff, Int.reduceEq, Int.reduceLT, Int.reduceLE, Int.reduceAdd, Int.reduceSub, Int.reduceMul, ↓reduceIte, Nat.reduceEqDiff, reduceCtorEq, ↓cnd_true, ↓cnd_false]

theorem U56 (m : Int) (H : AHeap) : AC A 56 [.int .i64 m] H = some (.str (pad [] m), H) := by
  refine one_val (x := SdFns.c56) rfl rfl rfl rfl rfl ?_ H
  simp only [c56, U82, rwA, rwB, Nat.reduceAdd, Nat.reduceMul, Nat.reduceLeDiff, Int.reduceEq, Int.reduceLT, Int.reduceLE, Int.reduceAdd, Int.reduceSub, Int.reduceMul, ↓reduceIte, Nat.reduceEqDiff, reduceCtorEq, ↓cnd_true, ↓cnd_false]

def bL (x : It) : List UInt8 := sh x.1 ++ sh x.2
def bB (p : It × Int) : List UInt8 := sh p.1.1 ++ num 2 p.2.toNat
def enc (k : List Int) (l : List It) : List UInt8 :=
  if lf k then ([1] ++ num 1 l.length) ++ l.flatMap bL else ([2] ++ num 1 k.length ++ num 2 (k.headD 0).toNat) ++ (l.zip (k.drop 1)).flatMap bB
theorem bL_len (l : List It) : (l.flatMap bL).length = wts true l := by
  unfold wts
  rw [List.length_flatMap]
  congr 1
  apply List.map_congr_left
  intro x _
  unfold bL wt
  rw [List.length_append, sh_len, sh_len]
  simp; omega
theorem bB_len : ∀ (l : List It) (k : List Int), l.length ≤ k.length → ((l.zip k).flatMap bB).length = wts false l
  | [], k, _ => by simp [wts]
  | x :: l, [], h => by simp at h
  | x :: l, y :: k, h => by
    rw [List.zip_cons_cons, List.flatMap_cons, List.length_append, bB_len l k (by simpa using h)]
    unfold bB wts wt
    rw [List.length_append, sh_len, num_len _ (by omega)]
    simp; omega
theorem fm_take {α β : Type} (f : α → List β) (l : List α) {i : Nat} (h : i < l.length) : (l.take (i + 1)).flatMap f = (l.take i).flatMap f ++ f l[i] := by
  rw [List.take_add_one, List.getElem?_eq_getElem h, Option.toList_some, List.flatMap_append, List.flatMap_singleton]
theorem fm_le {α β : Type} (f : α → List β) (l : List α) (i : Nat) : ((l.take i).flatMap f).length ≤ (l.flatMap f).length := by
  conv => rhs; rw [← List.take_append_drop i l, List.flatMap_append, List.length_append]
  omega

def b24a : ACode := (.seq (.region [⟨(some 29), (.bin .lss (.tmp 28) (.tmp 27)), none, none⟩]) (.seq (.cond (.tmp 29) .skip (.exit 0)) (.seq (.block 1 (.seq (.region [⟨(some 30), (.idxASl 2 (.tmp 26) (.tmp 28)), none, none⟩, ⟨(some 31), (.load true 2 (.tmp 30)), none, none⟩, ⟨(some 7), (.new [(.str []), (.str [])]), none, none⟩, ⟨none, (.store 2 (.tmp 7) (.tmp 31)), none, none⟩]) (.draw [⟨(some 32), (.mv (.tmp 5)), none, none⟩, ⟨(some 33), (.fieldA 0 (.tmp 7)), none, none⟩, ⟨(some 34), (.load false 1 (.tmp 33)), none, none⟩, ⟨(some 35), (.call (.con (.func 59 [] [])) [(.tmp 34)]), none, none⟩, ⟨(some 36), (.fieldA 1 (.tmp 7)), none, none⟩, ⟨(some 37), (.load false 1 (.tmp 36)), none, (some (0, 1))⟩, ⟨(some 38), (.call (.con (.func 59 [] [])) [(.tmp 37)]), none, none⟩, ⟨(some 39), (.bin .add (.tmp 35) (.tmp 38)), none, none⟩, ⟨(some 40), (.bin .add (.tmp 32) (.tmp 39)), none, none⟩, ⟨(some 5), (.mv (.tmp 40)), none, none⟩]))) (.region [⟨(some 41), (.bin .add (.tmp 28) (.con (.int .i64 1))), none, none⟩, ⟨(some 28), (.mv (.tmp 41)), none, none⟩]))))
def b24b : ACode := (.seq (.region [⟨(some 62), (.bin .lss (.tmp 61) (.tmp 60)), none, none⟩]) (.seq (.cond (.tmp 62) .skip (.exit 2)) (.seq (.block 3 (.seq (.region [⟨(some 63), (.mv (.tmp 61)), none, none⟩, ⟨(some 64), (.idxASl 2 (.tmp 59) (.tmp 61)), none, none⟩, ⟨(some 65), (.load true 2 (.tmp 64)), none, none⟩, ⟨(some 10), (.new [(.str []), (.str [])]), none, none⟩, ⟨(some 9), (.mv (.tmp 63)), none, none⟩, ⟨none, (.store 2 (.tmp 10) (.tmp 65)), none, none⟩]) (.draw [⟨(some 66), (.mv (.tmp 8)), none, none⟩, ⟨(some 67), (.fieldA 0 (.tmp 10)), none, none⟩, ⟨(some 68), (.load false 1 (.tmp 67)), none, none⟩, ⟨(some 69), (.call (.con (.func 59 [] [])) [(.tmp 68)]), none, none⟩, ⟨(some 70), (.fieldA 1 (.tmp 1)), none, none⟩, ⟨(some 71), (.load false 1 (.tmp 70)), none, (some (0, 1))⟩, ⟨(some 72), (.mv (.tmp 9)), none, none⟩, ⟨(some 73), (.bin .add (.tmp 72) (.con (.int .i64 1))), none, none⟩, ⟨(some 74), (.idxASl 1 (.tmp 71) (.tmp 73)), none, none⟩, ⟨(some 75), (.load false 1 (.tmp 74)), none, (some (0, 1))⟩, ⟨(some 76), (.toInt .u64 (.tmp 75)), none, none⟩, ⟨(some 77), (.call (.con (.func 45 [] [])) [(.con (.int .i64 2)), (.tmp 76)]), none, none⟩, ⟨(some 78), (.bin .add (.tmp 69) (.tmp 77)), none, none⟩, ⟨(some 79), (.bin .add (.tmp 66) (.tmp 78)), none, none⟩, ⟨(some 8), (.mv (.tmp 79)), none, none⟩]))) (.region [⟨(some 80), (.bin .add (.tmp 61) (.con (.int .i64 1))), none, none⟩, ⟨(some 61), (.mv (.tmp 80)), none, none⟩]))))
theorem loop24a {H : AHeap} {s : AVal} {l : List It} (hl : Li H s l) (hn : l.length < 1000000000) (hb : wts true l < 1000000) (pre : List UInt8) (hp : pre.length < 1000) {env : Env}
    (h5 : env 5 = .str pre) (h26 : env 26 = s) (h27 : env 27 = .int .i64 (l.length : Int)) (h28 : env 28 = .int .i64 0) :
    Outs (AX A (.loop b24a) env H) fun e env' K => e = .exit 0 ∧ env' 5 = .str (pre ++ l.flatMap bL) := by
  refine loop_ends (I := fun (i : Nat) env' K => i ≤ l.length ∧ env' 26 = s ∧ env' 27 = .int .i64 (l.length : Int) ∧ env' 28 = .int .i64 (i : Int) ∧ env' 5 = .str (pre ++ (l.take i).flatMap bL) ∧ Keeps H K) (fun i => l.length - i) ?_ 0 env H
    ⟨Nat.zero_le _, h26, h27, h28, by simpa using h5, Keeps.refl _⟩
  rintro i env1 K ⟨hi, h26, h27, h28, h5, hK⟩
  by_cases c : i < l.length
  · have c1 : decide ((i : Int) < (l.length : Int)) = true := by simp; omega
    have w1 : IntKind.i64.wrap ((i : Int) + 1) = ((i + 1 : Nat) : Int) := by rw [wrap_i64]; omega
    obtain ⟨id, off, cp, g, kk, own, rfl, hob, ld, _, _⟩ := (hl.keeps hK).at c
    have ha := aidx_in c
    have ht := fm_take bL l c
    have hle := fm_le bL l (i + 1)
    rw [bL_len l] at hle
    obtain ⟨x, ex⟩ : ∃ x, l[i] = x := ⟨_, rfl⟩
    rw [ex] at ld ht
    have lx : (bL x).length ≤ 1000000 := by rw [ht, List.length_append] at hle; omega
    have lt : ((l.take i).flatMap bL).length ≤ 1000000 := by rw [ht, List.length_append] at hle; omega
    have ll : (bL x).length = 1 + x.1.length + (1 + x.2.length) := by unfold bL; rw [List.length_append, sh_len, sh_len]
    obtain ⟨K1, eK1⟩ : ∃ K1, (K.new (.cells [.str [], .str []] true)).set K.next (.cells [.str x.1, .str x.2] true) = K1 := ⟨_, rfl⟩
    have k1 : Keeps K K1 := by rw [← eK1]; exact Keeps.set' (Nat.le_refl _) (Keeps.new' (Keeps.refl _))
    have oN : K1.obj K.next = some (.cells [.str x.1, .str x.2] true) := by rw [← eK1, set_obj, if_pos rfl]
    have u1 := U59 x.1 (by omega) K1
    have u2 := U59 x.2 (by omega) K1
    have a1 : abin .add (.str (sh x.1)) (.str (sh x.2)) = some (.str (bL x)) := cat_str (by rw [sh_len, sh_len]; omega)
    have a2 : abin .add (.str (pre ++ (l.take i).flatMap bL)) (.str (bL x)) = some (.str (pre ++ (l.take i).flatMap bL ++ bL x)) := cat_str (by rw [List.length_append]; omega)
    simp only [b24a, h5, h26, h27, h28, c1, ha, hob, ld, eK1, oN, u1, u2, a1, a2, w1, rwA, rwB, Nat.reduceAdd, Nat.reduceMul, Nat.reduceLeDiff, Int.reduceEq, Int.reduceLT, Int.reduceLE, Int.reduceAdd, Int.reduceSub, Int.reduceMul, ↓reduceIte, Nat.reduceEqDiff, reduceCtorEq, ↓cnd_true, ↓cnd_false]
    rw [outs_some]
    exact .inl ⟨rfl, i + 1, by omega, by omega, by simp [Env.set, h26], by simp [Env.set, h27], by simp [Env.set], by simp [Env.set, ht], hK.trans k1⟩
  · have e : i = l.length := by omega
    subst e
    have c1 : decide ((l.length : Int) < (l.length : Int)) = false := by simp
    simp only [b24a, h27, h28, c1, rwA, rwB, Nat.reduceAdd, Nat.reduceMul, Nat.reduceLeDiff, Int.reduceEq, Int.reduceLT, Int.reduceLE, Int.reduceAdd, Int.reduceSub, Int.reduceMul, ↓reduceIte, Nat.reduceEqDiff, reduceCtorEq, ↓cnd_true, ↓cnd_false]
    rw [outs_some]
    rw [List.take_length] at h5
    exact .inr ⟨by simp, rfl, h5⟩

theorem wrap_kok {x : Int} (h : kok x = true) : IntKind.u64.wrap x = ((x.toNat : Nat) : Int) := by
  unfold kok at h
  simp at h
  rw [wrapU64]; omega
theorem kok_at {k : List Int} (h : k.all kok = true) {i : Nat} (hi : i < k.length) : kok k[i] = true := List.all_eq_true.1 h _ (List.getElem_mem hi)

theorem loop24b {H : AHeap} {s q : AVal} {k : List Int} {l : List It} (hq : Ki H q k) (hl : Li H s l) (hk : k.length = l.length + 1) (hok : k.all kok = true) (hn : l.length < 1000000000) (hb : wts false l < 1000000) (pre : List UInt8) (hpre : pre.length < 1000) {p : Nat} (ho : H.obj p = some (.cells [s, q] true)) (hp : p < H.next) {env : Env}
    (h1 : env 1 = .ptr p 0) (h8 : env 8 = .str pre) (h59 : env 59 = s) (h60 : env 60 = .int .i64 (l.length : Int)) (h61 : env 61 = .int .i64 0) :
    Outs (AX A (.loop b24b) env H) fun e env' K => e = .exit 2 ∧ env' 8 = .str (pre ++ (l.zip (k.drop 1)).flatMap bB) := by
  have lz : (l.zip (k.drop 1)).length = l.length := by rw [List.length_zip, List.length_drop]; omega
  refine loop_ends (I := fun (i : Nat) env' K => i ≤ l.length ∧ env' 1 = .ptr p 0 ∧ env' 59 = s ∧ env' 60 = .int .i64 (l.length : Int) ∧ env' 61 = .int .i64 (i : Int) ∧ env' 8 = .str (pre ++ ((l.zip (k.drop 1)).take i).flatMap bB) ∧ Keeps H K) (fun i => l.length - i) ?_ 0 env H
    ⟨Nat.zero_le _, h1, h59, h60, h61, by simpa using h8, Keeps.refl _⟩
  rintro i env1 K ⟨hi, h1, h59, h60, h61, h8, hK⟩
  by_cases c : i < l.length
  · have c1 : decide ((i : Int) < (l.length : Int)) = true := by simp; omega
    have w1 : IntKind.i64.wrap ((i : Int) + 1) = ((i + 1 : Nat) : Int) := by rw [wrap_i64]; omega
    have oP : K.obj p = some (.cells [s, q] true) := by rw [hK.2 p hp]; exact ho
    have ck : i + 1 < k.length := by omega
    have cz : i < (l.zip (k.drop 1)).length := by omega
    have ez : (l.zip (k.drop 1))[i] = (l[i], k[i + 1]) := by rw [List.getElem_zip, List.getElem_drop]; simp [Nat.add_comm]
    obtain ⟨id, off, cp, g, kk, own, rfl, hob, ld, _, _⟩ := (hl.keeps hK).at c
    have ha := aidx_in c
    have ha1 := aidx_in ck
    have ht := fm_take bB (l.zip (k.drop 1)) cz
    have hle := fm_le bB (l.zip (k.drop 1)) (i + 1)
    rw [bB_len _ _ (by rw [List.length_drop]; omega)] at hle
    rw [ez] at ht
    have hkx := wrap_kok (kok_at hok ck)
    obtain ⟨x, ex⟩ : ∃ x, l[i] = x := ⟨_, rfl⟩
    obtain ⟨y, ey⟩ : ∃ y, k[i + 1] = y := ⟨_, rfl⟩
    rw [ex] at ld ht
    rw [ey] at ht hkx
    have lx : (bB (x, y)).length ≤ 1000000 := by rw [ht, List.length_append] at hle; omega
    have lt : (((l.zip (k.drop 1)).take i).flatMap bB).length ≤ 1000000 := by rw [ht, List.length_append] at hle; omega
    have ll : (bB (x, y)).length = 1 + x.1.length + 2 := by unfold bB; rw [List.length_append, sh_len, num_len _ (by omega)]; rfl
    obtain ⟨K1, eK1⟩ : ∃ K1, (K.new (.cells [.str [], .str []] true)).set K.next (.cells [.str x.1, .str x.2] true) = K1 := ⟨_, rfl⟩
    have k1 : Keeps K K1 := by rw [← eK1]; exact Keeps.set' (Nat.le_refl _) (Keeps.new' (Keeps.refl _))
    have oN : K1.obj K.next = some (.cells [.str x.1, .str x.2] true) := by rw [← eK1, set_obj, if_pos rfl]
    have oP1 : K1.obj p = some (.cells [.slice id off l.length cp g, q] true) := by rw [k1.2 p (Nat.lt_of_lt_of_le hp hK.1)]; exact oP
    obtain ⟨id', off', cp', g', kk', own', rfl, hob', ld'⟩ := (hq.keeps (hK.trans k1)).at ck
    rw [ey] at ld'
    have u1 := U59 x.1 (by omega) K1
    have u2 := U45 2 y.toNat K1
    have a1 : abin .add (.str (sh x.1)) (.str (num 2 y.toNat)) = some (.str (bB (x, y))) := cat_str (by rw [sh_len, num_len _ (by omega)]; show _ + 2 ≤ _; omega)
    have a2 : abin .add (.str (pre ++ ((l.zip (k.drop 1)).take i).flatMap bB)) (.str (bB (x, y))) = some (.str (pre ++ ((l.zip (k.drop 1)).take i).flatMap bB ++ bB (x, y))) := cat_str (by rw [List.length_append]; omega)
    simp only [b24b, h1, h8, h59, h60, h61, c1, ha, ha1, hob, hob', ld, ld', eK1, oN, oP, oP1, hkx, u1, u2, a1, a2, w1, rwA, rwB, Nat.reduceAdd, Nat.reduceMul, Nat.reduceLeDiff, Int.reduceEq, Int.reduceLT, Int.reduceLE, Int.reduceAdd, Int.reduceSub, Int.reduceMul, ↓reduceIte, Nat.reduceEqDiff, reduceCtorEq, ↓cnd_true, ↓cnd_false]
    rw [outs_some]
    exact .inl ⟨rfl, i + 1, by omega, by omega, by simp [Env.set, h1], by simp [Env.set, h59], by simp [Env.set, h60], by simp [Env.set], by rw [ht, ← List.append_assoc]; rfl, hK.trans k1⟩
  · have e : i = l.length := by omega
    subst e
    have c1 : decide ((l.length : Int) < (l.length : Int)) = false := by simp
    simp only [b24b, h60, h61, c1, rwA, rwB, Nat.reduceAdd, Nat.reduceMul, Nat.reduceLeDiff, Int.reduceEq, Int.reduceLT, Int.reduceLE, Int.reduceAdd, Int.reduceSub, Int.reduceMul, ↓reduceIte, Nat.reduceEqDiff, reduceCtorEq, ↓cnd_true, ↓cnd_false]
    rw [outs_some]
    rw [← lz, List.take_length] at h8
    exact .inr ⟨by simp, rfl, h8⟩

theorem enc_len {k : List Int} {l : List It} (h : lf k = true ∨ k.length = l.length + 1) : (enc k l).length = sz k l := by
  unfold enc sz
  cases hf : lf k
  · have hk : k.length = l.length + 1 := h.resolve_left (by rw [hf]; simp)
    simp only [Bool.false_eq_true, if_false]
    rw [List.length_append, bB_len _ _ (by rw [List.length_drop]; omega), List.length_append, List.length_append, num_len _ (by omega), num_len _ (by omega)]
    rfl
  · simp only [if_true]
    rw [List.length_append, bL_len, List.length_append, num_len _ (by omega)]
    rfl
theorem rgt_is {k : List Int} {l : List It} (h : rgt k l = true) : rises l = true ∧ sz k l ≤ 480 ∧ l.all (okx (lf k)) = true ∧ k.all kok = true ∧ (lf k = true ∨ k.length = l.length + 1) := by
  unfold rgt at h
  simp only [Bool.and_eq_true, decide_eq_true_eq] at h
  obtain ⟨⟨⟨⟨h1, h2⟩, h3⟩, h4⟩, h5⟩ := h
  refine ⟨h1, h2, h3, h4, ?_⟩
  unfold fit at h5
  cases hf : lf k
  · rw [hf] at h5
    simp at h5
    right; omega
  · exact .inl rfl
theorem wts_n (b : Bool) : ∀ (l : List It), 2 * l.length ≤ wts b l
  | [] => Nat.zero_le _
  | x :: l => by
    have := wts_n b l
    unfold wts at this ⊢
    rw [List.map_cons, List.sum_cons, List.length_cons]
    have : 2 ≤ wt b x := by unfold wt; split <;> omega
    omega
def encs (k : List Int) (l : List It) : List UInt8 := if rgt k l then pad (enc k l) 480 else []

theorem U24 {H : AHeap} {s q : AVal} {k : List Int} {l : List It} (hq : Ki H q k) (hl : Li H s l) (hn : l.length < 1000000000) (hk : k.length < 1000000000) (hb : wts (lf k) l < 1000000000) : AC A 24 [.agg [s, q]] H = some (.tuple [.str (encs k l), .int .i64 (no (rgt k l))], H) := by
  refine look_val (x := SdFns.c24) rfl rfl rfl rfl ?_
  obtain ⟨K, eK⟩ : ∃ K, (frz H).new (.cells [s, q] true) = K := ⟨_, rfl⟩
  have kK : Keeps (frz H) K := by rw [← eK]; exact Keeps.new' (Keeps.refl _)
  have o0 : K.obj H.next = some (.cells [s, q] true) := by rw [← eK]; simp [AHeap.new, frz]
  have nK : H.next < K.next := by rw [← eK]; simp [AHeap.new, frz]
  have u29 := U29 (hq.frz.keeps kK) (hl.frz.keeps kK) hn hk hb
  have u58 := U58 (s := s) (hq.frz.keeps kK)
  unfold encs
  cases hr : rgt k l
  · rw [hr] at u29
    have e18 : no false = 18 := rfl
    rw [e18] at u29
    simp only [c24, frz_next, eK, o0, u29, rwA, rwB, Nat.reduceAdd, Nat.reduceMul, Nat.reduceLeDiff, Int.reduceEq, Int.reduceLT, Int.reduceLE, Int.reduceAdd, Int.reduceSub, Int.reduceMul, ↓reduceIte, Nat.reduceEqDiff, reduceCtorEq, ↓cnd_true, ↓cnd_false]
    rfl
  obtain ⟨_, r2, r3, r4, r5⟩ := rgt_is hr
  have e0 : no true = 0 := rfl
  rw [hr, e0] at u29
  have lq := (hq.frz.keeps kK).len
  have ls := (hl.frz.keeps kK).len
  have hw : wts (lf k) l ≤ 480 := by unfold sz at r2; split at r2 <;> omega
  have h2 := wts_n (lf k) l
  have x1 := wrap_u64 l.length (by omega)
  have v1 : AC A 45 [.int .i64 1, .int .u64 1] K = some (.str [1], K) := by have := U45 1 1 K; rw [num1_is] at this; exact this
  have v2 : AC A 45 [.int .i64 1, .int .u64 2] K = some (.str [2], K) := by have := U45 1 2 K; rw [num1_is] at this; exact this
  have v3 := U45 1 l.length K
  have v4 := U45 1 k.length K
  have hel := enc_len r5
  cases hf : lf k
  rotate_left
  · rw [hf] at u58
    have a1 : abin .add (.str [1]) (.str (num 1 l.length)) = some (.str ([1] ++ num 1 l.length)) := cat_str (by rw [num_len _ (by omega)]; decide)
    have a2 : enc k l = [1] ++ num 1 l.length ++ l.flatMap bL := by unfold enc; rw [hf]; rfl
    simp only [c24, frz_next, eK, o0, u29, u58, v1, v3, ls, x1, a1, rwA, rwB, Nat.reduceAdd, Nat.reduceMul, Nat.reduceLeDiff, Int.reduceEq, Int.reduceLT, Int.reduceLE, Int.reduceAdd, Int.reduceSub, Int.reduceMul, ↓reduceIte, Nat.reduceEqDiff, reduceCtorEq, ↓cnd_true, ↓cnd_false]
    repeat (first | refine outs_seq ?_ | refine outs_block ?_ | refine outs_step ?_ | refine outs_stepD ?_ | refine rets_end ?_ | refine ans_end ?_)
    refine (loop24a (hl.frz.keeps kK) hn (by rw [hf] at hw; omega) ([1] ++ num 1 l.length) (by rw [List.length_append, num_len _ (by omega)]; decide) ?_ ?_ ?_ ?_).mono ?_
    · simp [Env.set]
    · simp [Env.set]
    · simp [Env.set]
    · simp [Env.set]
    rintro e env K' ⟨rfl, h5⟩
    have u57 := U57 (enc k l) 480 K'
    rw [← a2] at h5
    simp only [outs_some, h5, u57, rwA, rwB, Nat.reduceAdd, Nat.reduceMul, Nat.reduceLeDiff, Int.reduceEq, Int.reduceLT, Int.reduceLE, Int.reduceAdd, Int.reduceSub, Int.reduceMul, ↓reduceIte, Nat.reduceEqDiff, reduceCtorEq, ↓cnd_true, ↓cnd_false]
    rfl
  · rw [hf] at u58 hw
    have hk1 : k.length = l.length + 1 := r5.resolve_left (by rw [hf]; simp)
    have x2 := wrap_u64 k.length (by omega)
    obtain ⟨id, off, cp, g, kk, own, rfl, hob, ld⟩ := (hq.frz.keeps kK).at (show 0 < k.length by omega)
    have hk0 := wrap_kok (kok_at r4 (show 0 < k.length by omega))
    have eh : k.headD 0 = k[0] := by cases k with | nil => simp at hk1 | cons a t => rfl
    have ha : aidx k.length (.int .i64 0) = some 0 := aidx_in (i := 0) (by omega)
    obtain ⟨y, ey⟩ : ∃ y, k[0] = y := ⟨_, rfl⟩
    rw [ey] at ld hk0 eh
    rw [Nat.add_zero] at ld
    have v5 := U45 2 y.toNat K
    have a1 : abin .add (.str [2]) (.str (num 1 k.length)) = some (.str (2 :: num 1 k.length)) := cat_str (by rw [num_len _ (by omega)]; decide)
    have a3 : abin .add (.str (2 :: num 1 k.length)) (.str (num 2 y.toNat)) = some (.str (2 :: (num 1 k.length ++ num 2 y.toNat))) := cat_str (by rw [List.length_cons, num_len _ (by omega), num_len _ (by omega)]; decide)
    have a2 : enc k l = 2 :: (num 1 k.length ++ num 2 y.toNat) ++ (l.zip (k.drop 1)).flatMap bB := by unfold enc; rw [hf, eh]; rfl
    simp only [c24, frz_next, eK, o0, u29, u58, v2, v4, v5, ls, lq, x1, x2, ha, hob, ld, hk0, a1, a3, rwA, rwB, Nat.reduceAdd, Nat.reduceMul, Nat.reduceLeDiff, Int.reduceEq, Int.reduceLT, Int.reduceLE, Int.reduceAdd, Int.reduceSub, Int.reduceMul, ↓reduceIte, Nat.reduceEqDiff, reduceCtorEq, ↓cnd_true, ↓cnd_false]
    repeat (first | refine outs_seq ?_ | refine outs_block ?_ | refine outs_step ?_ | refine outs_stepD ?_ | refine rets_end ?_ | refine ans_end ?_)
    refine (loop24b (hq.frz.keeps kK) (hl.frz.keeps kK) hk1 r4 hn (by omega) (2 :: (num 1 k.length ++ num 2 y.toNat)) (by rw [List.length_cons, List.length_append, num_len _ (by omega), num_len _ (by omega)]; decide) o0 nK ?_ ?_ ?_ ?_ ?_).mono ?_
    · simp [Env.set]
    · simp [Env.set]
    · simp [Env.set]
    · simp [Env.set]
    · simp [Env.set]
    rintro e env K' ⟨rfl, h5⟩
    have u57 := U57 (enc k l) 480 K'
    rw [← a2] at h5
    simp only [outs_some, h5, u57, rwA, rwB, Nat.reduceAdd, Nat.reduceMul, Nat.reduceLeDiff, Int.reduceEq, Int.reduceLT, Int.reduceLE, Int.reduceAdd, Int.reduceSub, Int.reduceMul, ↓reduceIte, Nat.reduceEqDiff, reduceCtorEq, ↓cnd_true, ↓cnd_false]
    rfl

end Go.Proofs.Ytfmjdlahabgkpaa.Sd
end

section
/- Nodes: their bytes, the reference's. -/
set_option maxRecDepth 100000
set_option linter.unusedSimpArgs false
set_option linter.unusedVariables false
set_option maxHeartbeats 4000000
namespace Go.Proofs.Ytfmjdlahabgkpaa.Sd
open Go Go.Proofs.Ytfmjdlahabgkpaa.Am SdFns Go.RowKit

def b26a : ACode := (.seq (.seq (.region [⟨(some 22), (.mv (.tmp 5)), none, none⟩, ⟨(some 23), (.fieldA 0 (.tmp 1)), none, none⟩, ⟨(some 24), (.load false 1 (.tmp 23)), none, none⟩, ⟨(some 25), (.len false (.tmp 24)), none, none⟩, ⟨(some 26), (.bin .lss (.tmp 22) (.tmp 25)), none, none⟩]) (.cond (.tmp 26) .skip (.exit 0))) (.seq (.block 1 (.seq (.region [⟨(some 29), (.fieldA 0 (.tmp 1)), none, none⟩, ⟨(some 30), (.load false 1 (.tmp 29)), none, none⟩, ⟨(some 31), (.mv (.tmp 5)), none, none⟩, ⟨(some 32), (.idxASl 2 (.tmp 30) (.tmp 31)), none, none⟩, ⟨(some 33), (.load true 2 (.tmp 32)), none, none⟩, ⟨(some 6), (.new [(.str []), (.str [])]), none, none⟩, ⟨none, (.store 2 (.tmp 6) (.tmp 33)), none, none⟩]) (.draw [⟨(some 34), (.mv (.tmp 4)), none, none⟩, ⟨(some 35), (.fieldA 0 (.tmp 6)), none, none⟩, ⟨(some 36), (.load false 1 (.tmp 35)), none, none⟩, ⟨(some 37), (.len true (.tmp 36)), none, none⟩, ⟨(some 38), (.toInt .u64 (.tmp 37)), none, none⟩, ⟨(some 39), (.call (.con (.func 48 [] [])) [(.con (.int .i64 1)), (.tmp 38)]), none, none⟩, ⟨(some 40), (.bin .add (.tmp 34) (.tmp 39)), none, none⟩, ⟨(some 41), (.fieldA 0 (.tmp 6)), none, none⟩, ⟨(some 42), (.load false 1 (.tmp 41)), none, (some (0, 2))⟩, ⟨(some 43), (.bin .add (.tmp 40) (.tmp 42)), none, none⟩, ⟨(some 44), (.fieldA 1 (.tmp 6)), none, none⟩, ⟨(some 45), (.load false 1 (.tmp 44)), none, (some (0, 1))⟩, ⟨(some 46), (.len true (.tmp 45)), none, none⟩, ⟨(some 47), (.toInt .u64 (.tmp 46)), none, none⟩, ⟨(some 48), (.call (.con (.func 48 [] [])) [(.con (.int .i64 1)), (.tmp 47)]), none, none⟩, ⟨(some 49), (.bin .add (.tmp 43) (.tmp 48)), none, none⟩, ⟨(some 50), (.fieldA 1 (.tmp 6)), none, none⟩, ⟨(some 51), (.load false 1 (.tmp 50)), none, (some (0, 2))⟩, ⟨(some 52), (.bin .add (.tmp 49) (.tmp 51)), none, none⟩, ⟨(some 4), (.mv (.tmp 52)), none, none⟩]))) (.region [⟨(some 27), (.mv (.tmp 5)), none, none⟩, ⟨(some 28), (.bin .add (.tmp 27) (.con (.int .i64 1))), none, none⟩, ⟨(some 5), (.mv (.tmp 28)), none, none⟩])))
def b26b : ACode := (.seq (.seq (.region [⟨(some 66), (.mv (.tmp 7)), none, none⟩, ⟨(some 67), (.fieldA 0 (.tmp 1)), none, none⟩, ⟨(some 68), (.load false 1 (.tmp 67)), none, none⟩, ⟨(some 69), (.len false (.tmp 68)), none, none⟩, ⟨(some 70), (.bin .lss (.tmp 66) (.tmp 69)), none, none⟩]) (.cond (.tmp 70) .skip (.exit 2))) (.seq (.block 3 (.seq (.region [⟨(some 73), (.fieldA 0 (.tmp 1)), none, none⟩, ⟨(some 74), (.load false 1 (.tmp 73)), none, none⟩, ⟨(some 75), (.mv (.tmp 7)), none, none⟩, ⟨(some 76), (.idxASl 2 (.tmp 74) (.tmp 75)), none, none⟩, ⟨(some 77), (.load true 2 (.tmp 76)), none, none⟩, ⟨(some 8), (.new [(.str []), (.str [])]), none, none⟩, ⟨none, (.store 2 (.tmp 8) (.tmp 77)), none, none⟩]) (.draw [⟨(some 78), (.mv (.tmp 4)), none, none⟩, ⟨(some 79), (.fieldA 0 (.tmp 8)), none, none⟩, ⟨(some 80), (.load false 1 (.tmp 79)), none, none⟩, ⟨(some 81), (.len true (.tmp 80)), none, none⟩, ⟨(some 82), (.toInt .u64 (.tmp 81)), none, none⟩, ⟨(some 83), (.call (.con (.func 48 [] [])) [(.con (.int .i64 1)), (.tmp 82)]), none, none⟩, ⟨(some 84), (.bin .add (.tmp 78) (.tmp 83)), none, none⟩, ⟨(some 85), (.fieldA 0 (.tmp 8)), none, none⟩, ⟨(some 86), (.load false 1 (.tmp 85)), none, (some (0, 2))⟩, ⟨(some 87), (.bin .add (.tmp 84) (.tmp 86)), none, none⟩, ⟨(some 88), (.fieldA 1 (.tmp 1)), none, none⟩, ⟨(some 89), (.load false 1 (.tmp 88)), none, (some (0, 1))⟩, ⟨(some 90), (.mv (.tmp 7)), none, none⟩, ⟨(some 91), (.bin .add (.tmp 90) (.con (.int .i64 1))), none, none⟩, ⟨(some 92), (.idxASl 1 (.tmp 89) (.tmp 91)), none, none⟩, ⟨(some 93), (.load false 1 (.tmp 92)), none, (some (0, 1))⟩, ⟨(some 94), (.toInt .u64 (.tmp 93)), none, none⟩, ⟨(some 95), (.call (.con (.func 48 [] [])) [(.con (.int .i64 2)), (.tmp 94)]), none, none⟩, ⟨(some 96), (.bin .add (.tmp 87) (.tmp 95)), none, none⟩, ⟨(some 4), (.mv (.tmp 96)), none, none⟩]))) (.region [⟨(some 71), (.mv (.tmp 7)), none, none⟩, ⟨(some 72), (.bin .add (.tmp 71) (.con (.int .i64 1))), none, none⟩, ⟨(some 7), (.mv (.tmp 72)), none, none⟩])))
theorem loop26a {H : AHeap} {s q : AVal} {l : List It} (hl : Li H s l) (hn : l.length < 1000000000) (hb : wts true l < 1000000) (pre : List UInt8) (hpre : pre.length < 1000) {p : Nat} (ho : H.obj p = some (.cells [s, q] true)) (hp : p < H.next) {env : Env}
    (h1 : env 1 = .ptr p 0) (h4 : env 4 = .str pre) (h5 : env 5 = .int .i64 0) :
    Outs (AX A (.loop b26a) env H) fun e env' K => Keeps H K ∧ e = .exit 0 ∧ env' 1 = .ptr p 0 ∧ env' 4 = .str (pre ++ l.flatMap bL) := by
  refine loop_ends (I := fun (i : Nat) env' K => i ≤ l.length ∧ env' 1 = .ptr p 0 ∧ env' 5 = .int .i64 (i : Int) ∧ env' 4 = .str (pre ++ (l.take i).flatMap bL) ∧ Keeps H K) (fun i => l.length - i) ?_ 0 env H
    ⟨Nat.zero_le _, h1, h5, by simpa using h4, Keeps.refl _⟩
  rintro i env1 K ⟨hi, h1, h5, h4, hK⟩
  have oP : K.obj p = some (.cells [s, q] true) := by rw [hK.2 p hp]; exact ho
  have ls := (hl.keeps hK).len
  by_cases c : i < l.length
  · have c1 : decide ((i : Int) < (l.length : Int)) = true := by simp; omega
    have w1 : IntKind.i64.wrap ((i : Int) + 1) = ((i + 1 : Nat) : Int) := by rw [wrap_i64]; omega
    obtain ⟨id, off, cp, g, kk, own, rfl, hob, ld, _, _⟩ := (hl.keeps hK).at c
    have ha := aidx_in c
    have ht := fm_take bL l c
    have hle := fm_le bL l (i + 1)
    rw [bL_len l] at hle
    obtain ⟨x, ex⟩ : ∃ x, l[i] = x := ⟨_, rfl⟩
    rw [ex] at ld ht
    have lx : (bL x).length ≤ 1000000 := by rw [ht, List.length_append] at hle; omega
    have lt : ((l.take i).flatMap bL).length ≤ 1000000 := by rw [ht, List.length_append] at hle; omega
    have ll : (bL x).length = 1 + x.1.length + (1 + x.2.length) := by unfold bL; rw [List.length_append, sh_len, sh_len]
    obtain ⟨K1, eK1⟩ : ∃ K1, (K.new (.cells [.str [], .str []] true)).set K.next (.cells [.str x.1, .str x.2] true) = K1 := ⟨_, rfl⟩
    have k1 : Keeps K K1 := by rw [← eK1]; exact Keeps.set' (Nat.le_refl _) (Keeps.new' (Keeps.refl _))
    have oN : K1.obj K.next = some (.cells [.str x.1, .str x.2] true) := by rw [← eK1, set_obj, if_pos rfl]
    have u1 := U48 1 x.1.length (by omega) K1
    have u2 := U48 1 x.2.length (by omega) K1
    have y1 := wrap_u64 x.1.length (by omega)
    have y2 := wrap_u64 x.2.length (by omega)
    have ht2 : pre ++ (l.take (i + 1)).flatMap bL = pre ++ (l.take i).flatMap bL ++ num 1 x.1.length ++ x.1 ++ num 1 x.2.length ++ x.2 := by rw [ht]; unfold bL sh; simp only [List.append_assoc]
    obtain ⟨a, ea⟩ : ∃ a, pre ++ (l.take i).flatMap bL = a := ⟨_, rfl⟩
    have la : a.length ≤ 1001000 := by rw [← ea, List.length_append]; omega
    rw [ea] at ht2 h4
    have n1 := num_len (w := 1) x.1.length (by omega)
    have n2 := num_len (w := 1) x.2.length (by omega)
    have a1 : abin .add (.str a) (.str (num 1 x.1.length)) = some (.str (a ++ num 1 x.1.length)) := cat_str (by rw [n1]; show _ + 1 ≤ _; omega)
    have a2 : abin .add (.str (a ++ num 1 x.1.length)) (.str x.1) = some (.str (a ++ num 1 x.1.length ++ x.1)) := cat_str (by rw [List.length_append, n1]; show _ + 1 + _ ≤ _; omega)
    have a3 : abin .add (.str (a ++ num 1 x.1.length ++ x.1)) (.str (num 1 x.2.length)) = some (.str (a ++ num 1 x.1.length ++ x.1 ++ num 1 x.2.length)) := cat_str (by rw [List.length_append, List.length_append, n1, n2]; show _ + 1 + _ + 1 ≤ _; omega)
    have a4 : abin .add (.str (a ++ num 1 x.1.length ++ x.1 ++ num 1 x.2.length)) (.str x.2) = some (.str (a ++ num 1 x.1.length ++ x.1 ++ num 1 x.2.length ++ x.2)) := cat_str (by rw [List.length_append, List.length_append, List.length_append, n1, n2]; show _ + 1 + _ + 1 + _ ≤ _; omega)
    simp only [b26a, h1, h4, h5, oP, ls, c1, ha, hob, ld, eK1, oN, u1, u2, y1, y2, a1, a2, a3, a4, w1, rwA, rwB, Nat.reduceAdd, Nat.reduceMul, Nat.reduceLeDiff, Int.reduceEq, Int.reduceLT, Int.reduceLE, Int.reduceAdd, Int.reduceSub, Int.reduceMul, ↓reduceIte, Nat.reduceEqDiff, reduceCtorEq, ↓cnd_true, ↓cnd_false]
    rw [outs_some]
    exact .inl ⟨rfl, i + 1, by omega, by omega, by simp [Env.set, h1], by simp [Env.set], by rw [ht2]; rfl, hK.trans k1⟩
  · have e : i = l.length := by omega
    subst e
    have c1 : decide ((l.length : Int) < (l.length : Int)) = false := by simp
    simp only [b26a, h1, h5, oP, ls, c1, rwA, rwB, Nat.reduceAdd, Nat.reduceMul, Nat.reduceLeDiff, Int.reduceEq, Int.reduceLT, Int.reduceLE, Int.reduceAdd, Int.reduceSub, Int.reduceMul, ↓reduceIte, Nat.reduceEqDiff, reduceCtorEq, ↓cnd_true, ↓cnd_false]
    rw [outs_some]
    rw [List.take_length] at h4
    exact .inr ⟨by simp, hK, rfl, by simp [Env.set, h1], by simp [Env.set, h4]⟩

theorem loop26b {H : AHeap} {s q : AVal} {k : List Int} {l : List It} (hq : Ki H q k) (hl : Li H s l) (hk : k.length = l.length + 1) (hok : k.all kok = true) (hn : l.length < 1000000000) (hb : wts false l < 1000000) (pre : List UInt8) (hpre : pre.length < 1000) {p : Nat} (ho : H.obj p = some (.cells [s, q] true)) (hp : p < H.next) {env : Env}
    (h1 : env 1 = .ptr p 0) (h4 : env 4 = .str pre) (h7 : env 7 = .int .i64 0) :
    Outs (AX A (.loop b26b) env H) fun e env' K => Keeps H K ∧ e = .exit 2 ∧ env' 1 = .ptr p 0 ∧ env' 4 = .str (pre ++ (l.zip (k.drop 1)).flatMap bB) := by
  have lz : (l.zip (k.drop 1)).length = l.length := by rw [List.length_zip, List.length_drop]; omega
  refine loop_ends (I := fun (i : Nat) env' K => i ≤ l.length ∧ env' 1 = .ptr p 0 ∧ env' 7 = .int .i64 (i : Int) ∧ env' 4 = .str (pre ++ ((l.zip (k.drop 1)).take i).flatMap bB) ∧ Keeps H K) (fun i => l.length - i) ?_ 0 env H
    ⟨Nat.zero_le _, h1, h7, by simpa using h4, Keeps.refl _⟩
  rintro i env1 K ⟨hi, h1, h7, h4, hK⟩
  have oP : K.obj p = some (.cells [s, q] true) := by rw [hK.2 p hp]; exact ho
  have ls := (hl.keeps hK).len
  by_cases c : i < l.length
  · have c1 : decide ((i : Int) < (l.length : Int)) = true := by simp; omega
    have w1 : IntKind.i64.wrap ((i : Int) + 1) = ((i + 1 : Nat) : Int) := by rw [wrap_i64]; omega
    have ck : i + 1 < k.length := by omega
    have cz : i < (l.zip (k.drop 1)).length := by omega
    have ez : (l.zip (k.drop 1))[i] = (l[i], k[i + 1]) := by rw [List.getElem_zip, List.getElem_drop]; simp [Nat.add_comm]
    obtain ⟨id, off, cp, g, kk, own, rfl, hob, ld, _, _⟩ := (hl.keeps hK).at c
    have ha := aidx_in c
    have ha1 := aidx_in ck
    have ht := fm_take bB (l.zip (k.drop 1)) cz
    have hle := fm_le bB (l.zip (k.drop 1)) (i + 1)
    rw [bB_len _ _ (by rw [List.length_drop]; omega)] at hle
    rw [ez] at ht
    have hkx := wrap_kok (kok_at hok ck)
    obtain ⟨x, ex⟩ : ∃ x, l[i] = x := ⟨_, rfl⟩
    obtain ⟨y, ey⟩ : ∃ y, k[i + 1] = y := ⟨_, rfl⟩
    rw [ex] at ld ht
    rw [ey] at ht hkx
    have lx : (bB (x, y)).length ≤ 1000000 := by rw [ht, List.length_append] at hle; omega
    have lt : (((l.zip (k.drop 1)).take i).flatMap bB).length ≤ 1000000 := by rw [ht, List.length_append] at hle; omega
    have ll : (bB (x, y)).length = 1 + x.1.length + 2 := by unfold bB; rw [List.length_append, sh_len, num_len _ (by omega)]; rfl
    obtain ⟨K1, eK1⟩ : ∃ K1, (K.new (.cells [.str [], .str []] true)).set K.next (.cells [.str x.1, .str x.2] true) = K1 := ⟨_, rfl⟩
    have k1 : Keeps K K1 := by rw [← eK1]; exact Keeps.set' (Nat.le_refl _) (Keeps.new' (Keeps.refl _))
    have oN : K1.obj K.next = some (.cells [.str x.1, .str x.2] true) := by rw [← eK1, set_obj, if_pos rfl]
    have oP1 : K1.obj p = some (.cells [.slice id off l.length cp g, q] true) := by rw [k1.2 p (Nat.lt_of_lt_of_le hp hK.1)]; exact oP
    obtain ⟨id', off', cp', g', kk', own', rfl, hob', ld'⟩ := (hq.keeps (hK.trans k1)).at ck
    rw [ey] at ld'
    have hy : y.toNat < 18446744073709551616 := by
      have := kok_at hok ck
      rw [ey] at this
      unfold kok at this
      simp at this
      omega
    have u1 := U48 1 x.1.length (by omega) K1
    have u2 := U48 2 y.toNat hy K1
    have y1 := wrap_u64 x.1.length (by omega)
    have ht2 : pre ++ ((l.zip (k.drop 1)).take (i + 1)).flatMap bB = pre ++ ((l.zip (k.drop 1)).take i).flatMap bB ++ num 1 x.1.length ++ x.1 ++ num 2 y.toNat := by rw [ht]; unfold bB sh; simp only [List.append_assoc]
    obtain ⟨a, ea⟩ : ∃ a, pre ++ ((l.zip (k.drop 1)).take i).flatMap bB = a := ⟨_, rfl⟩
    have la : a.length ≤ 1001000 := by rw [← ea, List.length_append]; omega
    rw [ea] at ht2 h4
    have n1 := num_len (w := 1) x.1.length (by omega)
    have n2 := num_len (w := 2) y.toNat (by omega)
    have a1 : abin .add (.str a) (.str (num 1 x.1.length)) = some (.str (a ++ num 1 x.1.length)) := cat_str (by rw [n1]; show _ + 1 ≤ _; omega)
    have a2 : abin .add (.str (a ++ num 1 x.1.length)) (.str x.1) = some (.str (a ++ num 1 x.1.length ++ x.1)) := cat_str (by rw [List.length_append, n1]; show _ + 1 + _ ≤ _; omega)
    have a3 : abin .add (.str (a ++ num 1 x.1.length ++ x.1)) (.str (num 2 y.toNat)) = some (.str (a ++ num 1 x.1.length ++ x.1 ++ num 2 y.toNat)) := cat_str (by rw [List.length_append, List.length_append, n1, n2]; show _ + 1 + _ + 2 ≤ _; omega)
    simp only [b26b, h1, h4, h7, oP, oP1, ls, c1, ha, ha1, hob, hob', ld, ld', eK1, oN, u1, u2, y1, hkx, a1, a2, a3, w1, rwA, rwB, Nat.reduceAdd, Nat.reduceMul, Nat.reduceLeDiff, Int.reduceEq, Int.reduceLT, Int.reduceLE, Int.reduceAdd, Int.reduceSub, Int.reduceMul, ↓reduceIte, Nat.reduceEqDiff, reduceCtorEq, ↓cnd_true, ↓cnd_false]
    rw [outs_some]
    exact .inl ⟨rfl, i + 1, by omega, by omega, by simp [Env.set, h1], by simp [Env.set], by rw [ht2]; rfl, hK.trans k1⟩
  · have e : i = l.length := by omega
    subst e
    have c1 : decide ((l.length : Int) < (l.length : Int)) = false := by simp
    simp only [b26b, h1, h7, oP, ls, c1, rwA, rwB, Nat.reduceAdd, Nat.reduceMul, Nat.reduceLeDiff, Int.reduceEq, Int.reduceLT, Int.reduceLE, Int.reduceAdd, Int.reduceSub, Int.reduceMul, ↓reduceIte, Nat.reduceEqDiff, reduceCtorEq, ↓cnd_true, ↓cnd_false]
    rw [outs_some]
    rw [← lz, List.take_length] at h4
    exact .inr ⟨by simp, hK, rfl, by simp [Env.set, h1], h4⟩

theorem pad_rest {s : List UInt8} (h : s.length ≤ 480) : s ++ pad [] ((480 - s.length : Nat) : Int) = pad s 480 := by
  unfold pad
  by_cases c : s.length = 480
  · rw [if_pos (by right; simp; omega), if_pos (by right; omega), List.append_nil]
  · rw [if_neg (by simp; omega), if_neg (by omega)]
    simp

theorem U26 {H : AHeap} {s q : AVal} {k : List Int} {l : List It} (hq : Ki H q k) (hl : Li H s l) (hn : l.length < 1000000000) (hk : k.length < 1000000000) (hb : wts (lf k) l < 1000000000) : AC A 26 [.agg [s, q]] H = some (.tuple [.str (encs k l), .int .i64 (no (rgt k l))], H) := by
  refine look_val (x := SdFns.c26) rfl rfl rfl rfl ?_
  obtain ⟨K, eK⟩ : ∃ K, (frz H).new (.cells [s, q] true) = K := ⟨_, rfl⟩
  have kK : Keeps (frz H) K := by rw [← eK]; exact Keeps.new' (Keeps.refl _)
  have o0 : K.obj H.next = some (.cells [s, q] true) := by rw [← eK]; simp [AHeap.new, frz]
  have nK : H.next < K.next := by rw [← eK]; simp [AHeap.new, frz]
  have u33 := U33 (hq.frz.keeps kK) (hl.frz.keeps kK) hn hk hb
  unfold encs
  cases hr : rgt k l
  · rw [hr] at u33
    simp only [c26, frz_next, eK, o0, u33, rwA, rwB, Nat.reduceAdd, Nat.reduceMul, Nat.reduceLeDiff, Int.reduceEq, Int.reduceLT, Int.reduceLE, Int.reduceAdd, Int.reduceSub, Int.reduceMul, ↓reduceIte, Nat.reduceEqDiff, reduceCtorEq, ↓cnd_true, ↓cnd_false]
    rfl
  obtain ⟨_, r2, r3, r4, r5⟩ := rgt_is hr
  rw [hr] at u33
  have lq := (hq.frz.keeps kK).len
  have ls := (hl.frz.keeps kK).len
  have hw : wts (lf k) l ≤ 480 := by unfold sz at r2; split at r2 <;> omega
  have h2 := wts_n (lf k) l
  have x1 := wrap_u64 l.length (by omega)
  have v3 := U48 1 l.length (by omega) K
  have hel := enc_len r5
  have hpd := pad_rest (s := enc k l) (by omega)
  have he : (enc k l).length ≤ 480 := by omega
  have wx : IntKind.i64.wrap (480 - ((enc k l).length : Int)) = ((480 - (enc k l).length : Nat) : Int) := by rw [wrap_i64]; omega
  have fin : abin .add (.str (enc k l)) (.str (pad [] ((480 - (enc k l).length : Nat) : Int))) = some (.str (pad (enc k l) 480)) := by
    rw [← hpd]
    refine cat_str ?_
    have := congrArg List.length hpd
    rw [List.length_append] at this
    rw [this]
    unfold pad
    split
    · omega
    · rw [List.length_append, List.length_replicate]; omega
  have u56 := fun (m : Int) (K : AHeap) => U56 m K
  cases hf : lf k
  rotate_left
  · have hd : decide ((k.length : Int) = 0) = true := hf
    have a1 : abin .add (.str [1]) (.str (num 1 l.length)) = some (.str (1 :: num 1 l.length)) := cat_str (by rw [num_len _ (by omega)]; decide)
    have a2 : enc k l = 1 :: num 1 l.length ++ l.flatMap bL := by unfold enc; rw [hf]; rfl
    simp only [c26, frz_next, eK, o0, u33, lq, hd, v3, ls, x1, a1, rwA, rwB, Nat.reduceAdd, Nat.reduceMul, Nat.reduceLeDiff, Int.reduceEq, Int.reduceLT, Int.reduceLE, Int.reduceAdd, Int.reduceSub, Int.reduceMul, ↓reduceIte, Nat.reduceEqDiff, reduceCtorEq, ↓cnd_true, ↓cnd_false]
    repeat (first | refine outs_seq ?_ | refine outs_block ?_ | refine outs_step ?_ | refine outs_stepD ?_ | refine rets_end ?_ | refine ans_end ?_)
    refine (loop26a (hl.frz.keeps kK) hn (by rw [hf] at hw; omega) (1 :: num 1 l.length) (by rw [List.length_cons, num_len _ (by omega)]; decide) o0 nK ?_ ?_ ?_).mono ?_
    · simp [Env.set]
    · simp [Env.set]
    · simp [Env.set]
    rintro e env K' ⟨kK', rfl, h1, h4⟩
    rw [← a2] at h4
    simp only [outs_some, h1, h4, wx, u56, fin, rwA, rwB, Nat.reduceAdd, Nat.reduceMul, Nat.reduceLeDiff, Int.reduceEq, Int.reduceLT, Int.reduceLE, Int.reduceAdd, Int.reduceSub, Int.reduceMul, ↓reduceIte, Nat.reduceEqDiff, reduceCtorEq, ↓cnd_true, ↓cnd_false]
    rfl
  · rw [hf] at hw
    have hd : decide ((k.length : Int) = 0) = false := hf
    have hk1 : k.length = l.length + 1 := r5.resolve_left (by rw [hf]; simp)
    have x2 := wrap_u64 k.length (by omega)
    have v4 := U48 1 k.length (by omega) K
    obtain ⟨id, off, cp, g, kk, own, rfl, hob, ld⟩ := (hq.frz.keeps kK).at (show 0 < k.length by omega)
    have hko := kok_at r4 (show 0 < k.length by omega)
    have hk0 := wrap_kok hko
    have eh : k.headD 0 = k[0] := by cases k with | nil => simp at hk1 | cons a t => rfl
    have ha : aidx k.length (.int .i64 0) = some 0 := aidx_in (i := 0) (by omega)
    obtain ⟨y, ey⟩ : ∃ y, k[0] = y := ⟨_, rfl⟩
    rw [ey] at ld hk0 eh hko
    rw [Nat.add_zero] at ld
    have hy : y.toNat < 18446744073709551616 := by
      unfold kok at hko
      simp at hko
      omega
    have v5 := U48 2 y.toNat hy K
    have a1 : abin .add (.str [2]) (.str (num 1 k.length)) = some (.str (2 :: num 1 k.length)) := cat_str (by rw [num_len _ (by omega)]; decide)
    have a3 : abin .add (.str (2 :: num 1 k.length)) (.str (num 2 y.toNat)) = some (.str (2 :: (num 1 k.length ++ num 2 y.toNat))) := cat_str (by rw [List.length_cons, num_len _ (by omega), num_len _ (by omega)]; decide)
    have a2 : enc k l = 2 :: (num 1 k.length ++ num 2 y.toNat) ++ (l.zip (k.drop 1)).flatMap bB := by unfold enc; rw [hf, eh]; rfl
    simp only [c26, frz_next, eK, o0, u33, v4, v5, ls, lq, hd, x1, x2, ha, hob, ld, hk0, a1, a3, rwA, rwB, Nat.reduceAdd, Nat.reduceMul, Nat.reduceLeDiff, Int.reduceEq, Int.reduceLT, Int.reduceLE, Int.reduceAdd, Int.reduceSub, Int.reduceMul, ↓reduceIte, Nat.reduceEqDiff, reduceCtorEq, ↓cnd_true, ↓cnd_false]
    repeat (first | refine outs_seq ?_ | refine outs_block ?_ | refine outs_step ?_ | refine outs_stepD ?_ | refine rets_end ?_ | refine ans_end ?_)
    refine (loop26b (hq.frz.keeps kK) (hl.frz.keeps kK) hk1 r4 hn (by omega) (2 :: (num 1 k.length ++ num 2 y.toNat)) (by rw [List.length_cons, List.length_append, num_len _ (by omega), num_len _ (by omega)]; decide) o0 nK ?_ ?_ ?_).mono ?_
    · simp [Env.set]
    · simp [Env.set]
    · simp [Env.set]
    rintro e env K' ⟨kK', rfl, h1, h4⟩
    rw [← a2] at h4
    simp only [outs_some, h1, h4, wx, u56, fin, rwA, rwB, Nat.reduceAdd, Nat.reduceMul, Nat.reduceLeDiff, Int.reduceEq, Int.reduceLT, Int.reduceLE, Int.reduceAdd, Int.reduceSub, Int.reduceMul, ↓reduceIte, Nat.reduceEqDiff, reduceCtorEq, ↓cnd_true, ↓cnd_false]
    rfl

end Go.Proofs.Ytfmjdlahabgkpaa.Sd
end

section
/- Nodes: whether two are one. -/
set_option maxRecDepth 100000
set_option linter.unusedSimpArgs false
set_option linter.unusedVariables false
set_option maxHeartbeats 4000000
namespace Go.Proofs.Ytfmjdlahabgkpaa.Sd
open Go Go.Proofs.Ytfmjdlahabgkpaa.Am SdFns Go.RowKit

theorem take_eq {α : Type} {l m : List α} {i : Nat} (hl : i < l.length) (hm : i < m.length) (h : l.take i = m.take i) (h1 : l[i] = m[i]) : l.take (i + 1) = m.take (i + 1) := by
  rw [List.take_add_one, List.take_add_one, List.getElem?_eq_getElem hl, List.getElem?_eq_getElem hm, h, h1]
theorem take_ne {α : Type} {l m : List α} {i : Nat} (hl : i < l.length) (hm : i < m.length) (h1 : l[i] ≠ m[i]) : l ≠ m := fun e => h1 (by subst e; rfl)

def b85 : ACode := (.seq (.seq (.region [⟨(some 11), (.mv (.tmp 5)), none, none⟩, ⟨(some 12), (.mv (.tmp 0)), none, none⟩, ⟨(some 13), (.len false (.tmp 12)), none, none⟩, ⟨(some 14), (.bin .lss (.tmp 11) (.tmp 13)), none, none⟩]) (.cond (.tmp 14) .skip (.exit 0))) (.seq (.block 1 (.seq (.draw [⟨(some 17), (.mv (.tmp 0)), none, none⟩, ⟨(some 18), (.mv (.tmp 5)), none, none⟩, ⟨(some 19), (.idxASl 2 (.tmp 17) (.tmp 18)), none, none⟩, ⟨(some 20), (.load true 2 (.tmp 19)), none, none⟩, ⟨(some 21), (.mv (.tmp 1)), none, none⟩, ⟨(some 22), (.mv (.tmp 5)), none, none⟩, ⟨(some 23), (.idxASl 2 (.tmp 21) (.tmp 22)), none, none⟩, ⟨(some 24), (.load true 2 (.tmp 23)), none, none⟩, ⟨(some 25), (.eq true (.fld 0 1 false .str (.fld 1 1 false .str .fend)) (.tmp 20) (.tmp 24)), none, none⟩]) (.cond (.tmp 25) (.seq (.region [⟨(some 4), (.mv (.con (.bool false))), none, none⟩]) .ret) .skip))) (.region [⟨(some 15), (.mv (.tmp 5)), none, none⟩, ⟨(some 16), (.bin .add (.tmp 15) (.con (.int .i64 1))), none, none⟩, ⟨(some 5), (.mv (.tmp 16)), none, none⟩])))
theorem loop85 {H : AHeap} {s t : AVal} {l m : List It} (hl : Li H s l) (hm : Li H t m) (hlm : l.length = m.length) (hn : l.length < 1000000000) {env : Env} (h0 : env 0 = s) (h1 : env 1 = t) (h5 : env 5 = .int .i64 0) :
    Outs (AX A (.loop b85) env H) fun e env' K => (e = .exit 0 ∧ l = m) ∨ (e = .ret ∧ env' 4 = .bool false ∧ l ≠ m) := by
  have ls := hl.len
  refine loop_ends (I := fun (i : Nat) env' K => i ≤ l.length ∧ env' 0 = s ∧ env' 1 = t ∧ env' 5 = .int .i64 (i : Int) ∧ K = H ∧ l.take i = m.take i) (fun i => l.length - i) ?_ 0 env H
    ⟨Nat.zero_le _, h0, h1, h5, rfl, rfl⟩
  rintro i env1 K ⟨hi, h0, h1, h5, rfl, hr⟩
  by_cases c : i < l.length
  · have cm : i < m.length := by omega
    have c1 : decide ((i : Int) < (l.length : Int)) = true := by simp; omega
    have w1 : IntKind.i64.wrap ((i : Int) + 1) = ((i + 1 : Nat) : Int) := by rw [wrap_i64]; omega
    obtain ⟨id, off, cp, g, kk, own, rfl, hob, ld, _, _⟩ := hl.at c
    obtain ⟨id', off', cp', g', kk', own', rfl, hob', ld', _, _⟩ := hm.at cm
    have ha := aidx_in c
    have ha' := aidx_in cm
    have te := take_eq c cm hr
    have tn := take_ne c cm
    obtain ⟨x, ex⟩ : ∃ x, l[i] = x := ⟨_, rfl⟩
    obtain ⟨y, ey⟩ : ∃ y, m[i] = y := ⟨_, rfl⟩
    rw [ex] at ld te tn
    rw [ey] at ld' te tn
    obtain ⟨x1, x2⟩ := x
    obtain ⟨y1, y2⟩ := y
    simp only at ld ld'
    simp only [b85, h0, h1, h5, ls, c1, ha, ha', hob, hob', ld, ld', w1, rwA, rwB, Nat.reduceAdd, Nat.reduceMul, Nat.reduceLeDiff, Int.reduceEq, Int.reduceLT, Int.reduceLE, Int.reduceAdd, Int.reduceSub, Int.reduceMul, ↓reduceIte, Nat.reduceEqDiff, reduceCtorEq, ↓cnd_true, ↓cnd_false]
    refine outs_cnd (fun hb => ?_) (fun hb => ?_)
    · rw [outs_some]
      exact .inr ⟨by simp, .inr ⟨rfl, by simp [Env.set], tn (by intro e; cases e; simp at hb)⟩⟩
    · rw [outs_some]
      exact .inl ⟨rfl, i + 1, by omega, by omega, by simp [Env.set, h0], by simp [Env.set, h1], by simp [Env.set], rfl, te (by simp at hb; rw [hb.1, hb.2])⟩
  · have e : i = l.length := by omega
    subst e
    have c1 : decide ((l.length : Int) < (l.length : Int)) = false := by simp
    simp only [b85, h0, h5, ls, c1, rwA, rwB, Nat.reduceAdd, Nat.reduceMul, Nat.reduceLeDiff, Int.reduceEq, Int.reduceLT, Int.reduceLE, Int.reduceAdd, Int.reduceSub, Int.reduceMul, ↓reduceIte, Nat.reduceEqDiff, reduceCtorEq, ↓cnd_true, ↓cnd_false]
    rw [outs_some]
    rw [List.take_length, hlm, List.take_length] at hr
    exact .inr ⟨by simp, .inl ⟨rfl, hr⟩⟩

theorem U85 {H : AHeap} {s t : AVal} {l m : List It} (hl : Li H s l) (hm : Li H t m) (hn : l.length < 1000000000) : AC A 85 [s, t] H = some (.bool (decide (l = m)), H) := by
  refine look_val (x := SdFns.c85) rfl rfl rfl rfl ?_
  have ls := hl.frz.len
  have lt := hm.frz.len
  cases c : decide ((l.length : Int) = (m.length : Int))
  · have : decide (l = m) = false := decide_eq_false fun e => by subst e; simp at c
    simp only [c85, ls, lt, c, this, rwA, rwB, Nat.reduceAdd, Nat.reduceMul, Nat.reduceLeDiff, Int.reduceEq, Int.reduceLT, Int.reduceLE, Int.reduceAdd, Int.reduceSub, Int.reduceMul, ↓reduceIte, Nat.reduceEqDiff, reduceCtorEq, ↓cnd_true, ↓cnd_false]
  have hlm : l.length = m.length := by simp at c; omega
  simp only [c85, ls, lt, c, rwA, rwB, Nat.reduceAdd, Nat.reduceMul, Nat.reduceLeDiff, Int.reduceEq, Int.reduceLT, Int.reduceLE, Int.reduceAdd, Int.reduceSub, Int.reduceMul, ↓reduceIte, Nat.reduceEqDiff, reduceCtorEq, ↓cnd_true, ↓cnd_false]
  repeat (first | refine outs_seq ?_ | refine outs_block ?_ | refine outs_step ?_ | refine outs_stepD ?_ | refine rets_end ?_ | refine ans_end ?_)
  refine (loop85 hl.frz hm.frz hlm hn ?_ ?_ ?_).mono ?_
  · simp [Env.set, ainit]
  · simp [Env.set, ainit]
  · simp [Env.set]
  rintro e env K' (⟨rfl, hr⟩ | ⟨rfl, h4, hr⟩)
  · have : decide (l = m) = true := decide_eq_true hr
    simp only [outs_some, this, rwA, rwB, Nat.reduceAdd, Nat.reduceMul, Nat.reduceLeDiff, Int.reduceEq, Int.reduceLT, Int.reduceLE, Int.reduceAdd, Int.reduceSub, Int.reduceMul, ↓reduceIte, Nat.reduceEqDiff, reduceCtorEq, ↓cnd_true, ↓cnd_false]
  · have : decide (l = m) = false := decide_eq_false hr
    simp only [outs_some, this, h4, rwA, rwB, Nat.reduceAdd, Nat.reduceMul, Nat.reduceLeDiff, Int.reduceEq, Int.reduceLT, Int.reduceLE, Int.reduceAdd, Int.reduceSub, Int.reduceMul, ↓reduceIte, Nat.reduceEqDiff, reduceCtorEq, ↓cnd_true, ↓cnd_false]

def b63 : ACode := (.seq (.seq (.region [⟨(some 13), (.mv (.tmp 5)), none, none⟩, ⟨(some 14), (.fieldA 1 (.tmp 2)), none, none⟩, ⟨(some 15), (.load false 1 (.tmp 14)), none, none⟩, ⟨(some 16), (.len false (.tmp 15)), none, none⟩, ⟨(some 17), (.bin .lss (.tmp 13) (.tmp 16)), none, none⟩]) (.cond (.tmp 17) .skip (.exit 0))) (.seq (.block 1 (.seq (.draw [⟨(some 20), (.fieldA 1 (.tmp 2)), none, none⟩, ⟨(some 21), (.load false 1 (.tmp 20)), none, none⟩, ⟨(some 22), (.mv (.tmp 5)), none, none⟩, ⟨(some 23), (.idxASl 1 (.tmp 21) (.tmp 22)), none, none⟩, ⟨(some 24), (.load false 1 (.tmp 23)), none, none⟩, ⟨(some 25), (.fieldA 1 (.tmp 3)), none, none⟩, ⟨(some 26), (.load false 1 (.tmp 25)), none, none⟩, ⟨(some 27), (.mv (.tmp 5)), none, none⟩, ⟨(some 28), (.idxASl 1 (.tmp 26) (.tmp 27)), none, none⟩, ⟨(some 29), (.load false 1 (.tmp 28)), none, none⟩, ⟨(some 30), (.bin .neq (.tmp 24) (.tmp 29)), none, none⟩]) (.cond (.tmp 30) (.seq (.region [⟨(some 4), (.mv (.con (.bool false))), none, none⟩]) .ret) .skip))) (.region [⟨(some 18), (.mv (.tmp 5)), none, none⟩, ⟨(some 19), (.bin .add (.tmp 18) (.con (.int .i64 1))), none, none⟩, ⟨(some 5), (.mv (.tmp 19)), none, none⟩])))
theorem loop63 {H : AHeap} {s q s' q' : AVal} {k j : List Int} (hq : Ki H q k) (hj : Ki H q' j) (hkj : k.length = j.length) (hn : k.length < 1000000000) {p p' : Nat} (ho : H.obj p = some (.cells [s, q] true)) (ho' : H.obj p' = some (.cells [s', q'] true)) {env : Env} (h2 : env 2 = .ptr p 0) (h3 : env 3 = .ptr p' 0) (h5 : env 5 = .int .i64 0) :
    Outs (AX A (.loop b63) env H) fun e env' K => K = H ∧ ((e = .exit 0 ∧ env' 2 = .ptr p 0 ∧ env' 3 = .ptr p' 0 ∧ k = j) ∨ (e = .ret ∧ env' 4 = .bool false ∧ k ≠ j)) := by
  have ls := hq.len
  refine loop_ends (I := fun (i : Nat) env' K => i ≤ k.length ∧ env' 2 = .ptr p 0 ∧ env' 3 = .ptr p' 0 ∧ env' 5 = .int .i64 (i : Int) ∧ K = H ∧ k.take i = j.take i) (fun i => k.length - i) ?_ 0 env H
    ⟨Nat.zero_le _, h2, h3, h5, rfl, rfl⟩
  rintro i env1 K ⟨hi, h2, h3, h5, rfl, hr⟩
  by_cases c : i < k.length
  · have cm : i < j.length := by omega
    have c1 : decide ((i : Int) < (k.length : Int)) = true := by simp; omega
    have w1 : IntKind.i64.wrap ((i : Int) + 1) = ((i + 1 : Nat) : Int) := by rw [wrap_i64]; omega
    obtain ⟨id, off, cp, g, kk, own, rfl, hob, ld⟩ := hq.at c
    obtain ⟨id', off', cp', g', kk', own', rfl, hob', ld'⟩ := hj.at cm
    have ha := aidx_in c
    have ha' := aidx_in cm
    have te := take_eq c cm hr
    have tn := take_ne c cm
    obtain ⟨x, ex⟩ : ∃ x, k[i] = x := ⟨_, rfl⟩
    obtain ⟨y, ey⟩ : ∃ y, j[i] = y := ⟨_, rfl⟩
    rw [ex] at ld te tn
    rw [ey] at ld' te tn
    cases e1 : decide (x = y)
    all_goals
      simp only [b63, h2, h3, h5, ho, ho', ls, c1, ha, ha', hob, hob', ld, ld', e1, w1, rwA, rwB, Nat.reduceAdd, Nat.reduceMul, Nat.reduceLeDiff, Int.reduceEq, Int.reduceLT, Int.reduceLE, Int.reduceAdd, Int.reduceSub, Int.reduceMul, ↓reduceIte, Nat.reduceEqDiff, reduceCtorEq, ↓cnd_true, ↓cnd_false]
      rw [outs_some]
    · exact .inr ⟨by simp, rfl, .inr ⟨rfl, by simp [Env.set], tn (by simpa using e1)⟩⟩
    · exact .inl ⟨rfl, i + 1, by omega, by omega, by simp [Env.set, h2], by simp [Env.set, h3], by simp [Env.set], rfl, te (by simpa using e1)⟩
  · have e : i = k.length := by omega
    subst e
    have c1 : decide ((k.length : Int) < (k.length : Int)) = false := by simp
    simp only [b63, h2, h5, ho, ls, c1, rwA, rwB, Nat.reduceAdd, Nat.reduceMul, Nat.reduceLeDiff, Int.reduceEq, Int.reduceLT, Int.reduceLE, Int.reduceAdd, Int.reduceSub, Int.reduceMul, ↓reduceIte, Nat.reduceEqDiff, reduceCtorEq, ↓cnd_true, ↓cnd_false]
    rw [outs_some]
    rw [List.take_length, hkj, List.take_length] at hr
    exact .inr ⟨by simp, rfl, .inl ⟨rfl, by simp [Env.set, h2], by simp [Env.set, h3], hr⟩⟩

theorem U63 {H : AHeap} {s q s' q' : AVal} {k j : List Int} {l m : List It} (hq : Ki H q k) (hl : Li H s l) (hj : Ki H q' j) (hm : Li H s' m) (hn : l.length < 1000000000) (hk : k.length < 1000000000) : AC A 63 [.agg [s, q], .agg [s', q']] H = some (.bool (decide (k = j) && decide (l = m)), H) := by
  refine look_val (x := SdFns.c63) rfl rfl rfl rfl ?_
  obtain ⟨K, eK⟩ : ∃ K, ((frz H).new (.cells [s, q] true)).new (.cells [s', q'] true) = K := ⟨_, rfl⟩
  have kK : Keeps (frz H) K := by rw [← eK]; exact Keeps.new' (Keeps.new' (Keeps.refl _))
  have o0 : K.obj H.next = some (.cells [s, q] true) := by rw [← eK]; simp [AHeap.new, frz]
  have o1 : K.obj (H.next + 1) = some (.cells [s', q'] true) := by rw [← eK]; simp [AHeap.new, frz]
  have lq := hq.frz.len
  have lj := hj.frz.len
  cases c : decide ((k.length : Int) = (j.length : Int))
  · have : decide (k = j) = false := decide_eq_false fun e => by subst e; simp at c
    simp only [c63, frz_next, eK, o0, o1, lq, lj, c, this, rwA, rwB, Nat.reduceAdd, Nat.reduceMul, Nat.reduceLeDiff, Int.reduceEq, Int.reduceLT, Int.reduceLE, Int.reduceAdd, Int.reduceSub, Int.reduceMul, ↓reduceIte, Nat.reduceEqDiff, reduceCtorEq, ↓cnd_true, ↓cnd_false]
    simp
  have hkj : k.length = j.length := by simp at c; omega
  simp only [c63, frz_next, eK, o0, o1, lq, lj, c, rwA, rwB, Nat.reduceAdd, Nat.reduceMul, Nat.reduceLeDiff, Int.reduceEq, Int.reduceLT, Int.reduceLE, Int.reduceAdd, Int.reduceSub, Int.reduceMul, ↓reduceIte, Nat.reduceEqDiff, reduceCtorEq, ↓cnd_true, ↓cnd_false]
  repeat (first | refine outs_seq ?_ | refine outs_block ?_ | refine outs_step ?_ | refine outs_stepD ?_ | refine rets_end ?_ | refine ans_end ?_)
  refine (loop63 (hq.frz.keeps kK) (hj.frz.keeps kK) hkj hk o0 o1 ?_ ?_ ?_).mono ?_
  · simp [Env.set]
  · simp [Env.set]
  · simp [Env.set]
  rintro e env K' ⟨rfl, ⟨rfl, h2, h3, hr⟩ | ⟨rfl, h4, hr⟩⟩
  · have : decide (k = j) = true := decide_eq_true hr
    have u := U85 (hl.frz.keeps kK) (hm.frz.keeps kK) hn
    simp only [outs_some, this, h2, h3, o0, o1, u, rwA, rwB, Nat.reduceAdd, Nat.reduceMul, Nat.reduceLeDiff, Int.reduceEq, Int.reduceLT, Int.reduceLE, Int.reduceAdd, Int.reduceSub, Int.reduceMul, ↓reduceIte, Nat.reduceEqDiff, reduceCtorEq, ↓cnd_true, ↓cnd_false]
    simp
  · have : decide (k = j) = false := decide_eq_false hr
    simp only [outs_some, this, h4, rwA, rwB, Nat.reduceAdd, Nat.reduceMul, Nat.reduceLeDiff, Int.reduceEq, Int.reduceLT, Int.reduceLE, Int.reduceAdd, Int.reduceSub, Int.reduceMul, ↓reduceIte, Nat.reduceEqDiff, reduceCtorEq, ↓cnd_true, ↓cnd_false]
    simp

theorem U30 {H : AHeap} {s q s' q' : AVal} {k j : List Int} {l m : List It} (hq : Ki H q k) (hl : Li H s l) (hj : Ki H q' j) (hm : Li H s' m) (hn : l.length < 1000000000) (hk : k.length < 1000000000) : AC A 30 [.agg [s, q], .agg [s', q']] H = some (.bool (decide (k = j) && decide (l = m)), H) := by
  refine look_val (x := SdFns.c30) rfl rfl rfl rfl ?_
  obtain ⟨K, eK⟩ : ∃ K, ((frz H).new (.cells [s, q] true)).new (.cells [s', q'] true) = K := ⟨_, rfl⟩
  have kK : Keeps (frz H) K := by rw [← eK]; exact Keeps.new' (Keeps.new' (Keeps.refl _))
  have o0 : K.obj H.next = some (.cells [s, q] true) := by rw [← eK]; simp [AHeap.new, frz]
  have o1 : K.obj (H.next + 1) = some (.cells [s', q'] true) := by rw [← eK]; simp [AHeap.new, frz]
  have u := U63 (hq.frz.keeps kK) (hl.frz.keeps kK) (hj.frz.keeps kK) (hm.frz.keeps kK) hn hk
  rcases sl_shape' hl.sl with rfl | ⟨_, _, _, _, _, rfl⟩ <;> rcases sl_shape' hq.sl with rfl | ⟨_, _, _, _, _, rfl⟩ <;>
    simp only [c30, frz_next, eK, o0, o1, u, rwA, rwB, Nat.reduceAdd, Nat.reduceMul, Nat.reduceLeDiff, Int.reduceEq, Int.reduceLT, Int.reduceLE, Int.reduceAdd, Int.reduceSub, Int.reduceMul, ↓reduceIte, Nat.reduceEqDiff, reduceCtorEq, ↓cnd_true, ↓cnd_false]

theorem U25 {H : AHeap} {s q : AVal} {k : List Int} {l : List It} (hq : Ki H q k) (hl : Li H s l) : AC A 25 [.agg [s, q]] H = some (.agg [s, q], H) := by
  have hv : (AVal.agg [s, q]).old H.next = true := by
    have h1 := old_sl hl.sl hl.old
    have h2 := old_sl hq.sl hq.old
    simp [AVal.old, oldl, h1, h2]
  refine look_val (x := SdFns.c25) rfl rfl rfl hv ?_
  rcases sl_shape' hl.sl with rfl | ⟨_, _, _, _, _, rfl⟩ <;> rcases sl_shape' hq.sl with rfl | ⟨_, _, _, _, _, rfl⟩ <;>
    simp only [c25, frz_next, rwA, rwB, Nat.reduceAdd, Nat.reduceMul, Nat.reduceLeDiff, Int.reduceEq, Int.reduceLT, Int.reduceLE, Int.reduceAdd, Int.reduceSub, Int.reduceMul, ↓reduceIte, Nat.reduceEqDiff, reduceCtorEq, ↓cnd_true, ↓cnd_false]

def small (k : List Int) (l : List It) : Bool := l.all (fun x => decide (x.1.length ≤ 300) && decide (x.2.length ≤ 300)) && (decide (l.length ≤ 200) && decide (k.length ≤ 200))
def smi (x : It) : Bool := decide (x.1.length ≤ 300) && decide (x.2.length ≤ 300)
def b22 : ACode := (.seq (.region [⟨(some 9), (.bin .lss (.tmp 8) (.tmp 7)), none, none⟩]) (.seq (.cond (.tmp 9) .skip (.exit 0)) (.seq (.block 1 (.seq (.region [⟨(some 10), (.idxASl 2 (.tmp 6) (.tmp 8)), none, none⟩, ⟨(some 11), (.load true 2 (.tmp 10)), none, none⟩, ⟨(some 4), (.new [(.str []), (.str [])]), none, none⟩, ⟨none, (.store 2 (.tmp 4) (.tmp 11)), none, none⟩]) (.seq (.region [⟨(some 12), (.fieldA 0 (.tmp 4)), none, none⟩, ⟨(some 13), (.load false 1 (.tmp 12)), none, none⟩, ⟨(some 14), (.len true (.tmp 13)), none, none⟩, ⟨(some 15), (.bin .gtr (.tmp 14) (.con (.int .i64 300))), none, none⟩, ⟨(some 16), (.mv (.tmp 15)), none, none⟩, ⟨(some 17), (.fieldA 1 (.tmp 4)), (some (16, false)), none⟩, ⟨(some 18), (.load false 1 (.tmp 17)), (some (16, false)), none⟩, ⟨(some 19), (.len true (.tmp 18)), (some (16, false)), none⟩, ⟨(some 20), (.bin .gtr (.tmp 19) (.con (.int .i64 300))), (some (16, false)), none⟩, ⟨(some 21), (.pick (.tmp 16) (.con (.bool true)) (.tmp 20)), none, none⟩]) (.cond (.tmp 21) (.seq (.region [⟨(some 2), (.mv (.con (.bool false))), none, none⟩]) .ret) .skip)))) (.region [⟨(some 22), (.bin .add (.tmp 8) (.con (.int .i64 1))), none, none⟩, ⟨(some 8), (.mv (.tmp 22)), none, none⟩]))))
theorem loop22 {H : AHeap} {s : AVal} {l : List It} (hl : Li H s l) (hn : l.length < 9223372036854775808) {p : Nat} {env : Env}
    (h1 : env 1 = .ptr p 0) (hp : p < H.next) (h6 : env 6 = s) (h7 : env 7 = .int .i64 (l.length : Int)) (h8 : env 8 = .int .i64 0) :
    Outs (AX A (.loop b22) env H) fun e env' K => Keeps H K ∧ ((e = .exit 0 ∧ env' 1 = .ptr p 0 ∧ l.all smi = true) ∨ (e = .ret ∧ env' 2 = .bool false ∧ l.all smi = false)) := by
  refine loop_ends (I := fun (i : Nat) env' K => i ≤ l.length ∧ env' 1 = .ptr p 0 ∧ env' 6 = s ∧ env' 7 = .int .i64 (l.length : Int) ∧ env' 8 = .int .i64 (i : Int) ∧ (l.take i).all smi = true ∧ Keeps H K) (fun i => l.length - i) ?_ 0 env H
    ⟨Nat.zero_le _, h1, h6, h7, h8, rfl, Keeps.refl _⟩
  rintro i env1 K ⟨hi, h1, h6, h7, h8, hr, hK⟩
  by_cases c : i < l.length
  · have c1 : decide ((i : Int) < (l.length : Int)) = true := by simp; omega
    have w1 : IntKind.i64.wrap ((i : Int) + 1) = ((i + 1 : Nat) : Int) := by rw [wrap_i64]; omega
    obtain ⟨id, off, cp, g, kk, own, rfl, hob, ld, _, _⟩ := (hl.keeps hK).at c
    have ha := aidx_in c
    have hs := all_take smi l c
    rw [hr, Bool.true_and] at hs
    obtain ⟨x, ex⟩ : ∃ x, l[i] = x := ⟨_, rfl⟩
    rw [ex] at ld hs
    obtain ⟨K1, eK1⟩ : ∃ K1, (K.new (.cells [.str [], .str []] true)).set K.next (.cells [.str x.1, .str x.2] true) = K1 := ⟨_, rfl⟩
    have k1 : Keeps K K1 := by rw [← eK1]; exact Keeps.set' (Nat.le_refl _) (Keeps.new' (Keeps.refl _))
    have oN : K1.obj K.next = some (.cells [.str x.1, .str x.2] true) := by rw [← eK1, set_obj, if_pos rfl]
    have hx : smi x = (!decide ((300 : Int) < (x.1.length : Int)) && !decide ((300 : Int) < (x.2.length : Int))) := by
      unfold smi
      rw [Bool.eq_iff_iff]
      simp; omega
    obtain ⟨b1, e1⟩ : ∃ b, decide ((300 : Int) < (x.1.length : Int)) = b := ⟨_, rfl⟩
    obtain ⟨b2, e2⟩ : ∃ b, decide ((300 : Int) < (x.2.length : Int)) = b := ⟨_, rfl⟩
    rw [e1, e2] at hx
    have good : smi x = true → (l.take (i + 1)).all smi = true := fun h => by rw [hs, h]
    have bad : smi x = false → l.all smi = false := fun h => all_false _ _ (by rw [hs, h])
    cases b1 <;> cases b2 <;> simp only [Bool.not_true, Bool.not_false, Bool.and_true, Bool.and_false, Bool.true_and, Bool.false_and] at hx <;>
      simp only [b22, h1, h6, h7, h8, c1, ha, hob, ld, eK1, oN, e1, e2, w1, rwA, rwB, Nat.reduceAdd, Nat.reduceMul, Nat.reduceLeDiff, Int.reduceEq, Int.reduceLT, Int.reduceLE, Int.reduceAdd, Int.reduceSub, Int.reduceMul, ↓reduceIte, Nat.reduceEqDiff, reduceCtorEq, ↓cnd_true, ↓cnd_false] <;> rw [outs_some] <;>
      first
        | exact .inl ⟨rfl, i + 1, by omega, by omega, by simp [Env.set, h1], by simp [Env.set, h6], by simp [Env.set, h7], by simp [Env.set], good hx, hK.trans k1⟩
        | exact .inr ⟨by simp, hK.trans k1, .inr ⟨rfl, by simp [Env.set], bad hx⟩⟩
  · have e : i = l.length := by omega
    subst e
    have c1 : decide ((l.length : Int) < (l.length : Int)) = false := by simp
    simp only [b22, h1, h7, h8, c1, rwA, rwB, Nat.reduceAdd, Nat.reduceMul, Nat.reduceLeDiff, Int.reduceEq, Int.reduceLT, Int.reduceLE, Int.reduceAdd, Int.reduceSub, Int.reduceMul, ↓reduceIte, Nat.reduceEqDiff, reduceCtorEq, ↓cnd_true, ↓cnd_false]
    rw [outs_some]
    rw [List.take_length] at hr
    exact .inr ⟨by simp, hK, .inl ⟨rfl, by simp [Env.set, h1], hr⟩⟩

theorem U22 {H : AHeap} {s q : AVal} {k : List Int} {l : List It} (hq : Ki H q k) (hl : Li H s l) (hn : l.length < 9223372036854775808) : AC A 22 [.agg [s, q]] H = some (.bool (small k l), H) := by
  refine look_val (x := SdFns.c22) rfl rfl rfl rfl ?_
  obtain ⟨K, eK⟩ : ∃ K, (frz H).new (.cells [s, q] true) = K := ⟨_, rfl⟩
  have kK : Keeps (frz H) K := by rw [← eK]; exact Keeps.new' (Keeps.refl _)
  have o0 : K.obj H.next = some (.cells [s, q] true) := by rw [← eK]; simp [AHeap.new, frz]
  have nK : H.next < K.next := by rw [← eK]; simp [AHeap.new, frz]
  have ls := hl.frz.len
  simp only [c22, frz_next, eK, o0, ls, rwA, rwB, Nat.reduceAdd, Nat.reduceMul, Nat.reduceLeDiff, Int.reduceEq, Int.reduceLT, Int.reduceLE, Int.reduceAdd, Int.reduceSub, Int.reduceMul, ↓reduceIte, Nat.reduceEqDiff, reduceCtorEq, ↓cnd_true, ↓cnd_false]
  repeat (first | refine outs_seq ?_ | refine outs_block ?_ | refine outs_step ?_ | refine outs_stepD ?_ | refine rets_end ?_ | refine ans_end ?_)
  refine (loop22 (hl.frz.keeps kK) hn (p := H.next) ?_ nK ?_ ?_ ?_).mono ?_
  · simp [Env.set]
  · simp [Env.set]
  · simp [Env.set]
  · simp [Env.set]
  have es : small k l = (l.all smi && (decide (l.length ≤ 200) && decide (k.length ≤ 200))) := rfl
  rw [es]
  rintro e env K' ⟨kK', ⟨rfl, h1, hr⟩ | ⟨rfl, h2, hr⟩⟩
  · have oP : K'.obj H.next = some (.cells [s, q] true) := by rw [kK'.2 _ nK]; exact o0
    have lq := hq.frz.len
    cases c1 : decide ((l.length : Int) ≤ 200) <;> cases c2 : decide ((k.length : Int) ≤ 200) <;> simp only [outs_some, h1, oP, ls, lq, hr, c1, c2, rwA, rwB, Nat.reduceAdd, Nat.reduceMul, Nat.reduceLeDiff, Int.reduceEq, Int.reduceLT, Int.reduceLE, Int.reduceAdd, Int.reduceSub, Int.reduceMul, ↓reduceIte, Nat.reduceEqDiff, reduceCtorEq, ↓cnd_true, ↓cnd_false] <;> simp at c1 c2 ⊢ <;> omega
  · simp only [outs_some, hr, h2, rwA, rwB, Nat.reduceAdd, Nat.reduceMul, Nat.reduceLeDiff, Int.reduceEq, Int.reduceLT, Int.reduceLE, Int.reduceAdd, Int.reduceSub, Int.reduceMul, ↓reduceIte, Nat.reduceEqDiff, reduceCtorEq, ↓cnd_true, ↓cnd_false]
    simp

end Go.Proofs.Ytfmjdlahabgkpaa.Sd
end

section
/- Nodes: read from bytes. -/
set_option maxRecDepth 100000
set_option linter.unusedSimpArgs false
set_option linter.unusedVariables false
set_option maxHeartbeats 4000000
namespace Go.Proofs.Ytfmjdlahabgkpaa.Sd
open Go Go.Proofs.Ytfmjdlahabgkpaa.Am SdFns Go.RowKit

/-! ### A memory with a layout kept in mind appends as any other -/
theorem acells_tag (H : AHeap) (i : Nat) (t : TypeId × Option Nat) (es n : Nat) (x : AVal) : acells (H.tag i t) es n x = acells H es n x := by cases x <;> rfl
theorem app_tag {H K : AHeap} (i : Nat) (t : TypeId × Option Nat) {es by' : Nat} {s x v : AVal} (h : aappend H es by' s x = some (v, K)) : ∃ K', aappend (H.tag i t) es by' s x = some (v, K') ∧ K'.obj = K.obj ∧ K'.next = K.next := by
  unfold aappend at h ⊢
  simp only [Option.bind_eq_some_iff, acells_tag] at h ⊢
  obtain ⟨n, hn, new, hnew, h⟩ := h
  suffices ∃ K', (match s with
      | .nils => if n = 0 then some (AVal.nils, H.tag i t) else
        if 5 * (n * by') + 2040 * by' ≤ 1125899906842624 ∧ n ≤ 9223372036854775807 then some (AVal.slice (H.tag i t).next 0 n n (some es), (H.tag i t).new (.cells new true)) else none
      | .slice id off len cap g =>
        if len + n ≤ cap then
          if n = 0 then some (AVal.slice id off len cap g, H.tag i t) else
          match (H.tag i t).obj id with
          | some (.cells l true) => if off + (len + n) * es ≤ l.length ∧ 0 < es then some (AVal.slice id off (len + n) cap g, (H.tag i t).set id (.cells (lput l (off + len * es) new) true)) else none
          | _ => none
        else
          (acells H es len s).bind fun old =>
          if 5 * ((len + n) * by') + 2040 * by' ≤ 1125899906842624 ∧ len + n ≤ 9223372036854775807 ∧ 0 < es then
            match g with
            | none => some (AVal.slice (H.tag i t).next 0 (len + n) (len + n) (some es), (H.tag i t).new (.cells (old ++ new) true))
            | some e => if e = es then
                match (H.tag i t).obj id with
                | some (.cells _ true) => some (AVal.slice (H.tag i t).next 0 (len + n) (len + n) (some es), ((H.tag i t).del id).new (.cells (old ++ new) true))
                | _ => none
              else none
          else none
      | _ => none) = some (v, K') ∧ K'.obj = K.obj ∧ K'.next = K.next by
    obtain ⟨K', h1, h2⟩ := this
    exact ⟨K', ⟨n, hn, new, hnew, h1⟩, h2⟩
  have eo : (H.tag i t).obj = H.obj := rfl
  cases s with
  | nils =>
    simp only at h ⊢
    split at h
    · rename_i c; cases h; exact ⟨_, if_pos c, rfl, rfl⟩
    · rename_i c
      split at h
      · rename_i c2; cases h; exact ⟨_, (if_neg c).trans (if_pos c2), rfl, rfl⟩
      · cases h
  | slice id off len cap g =>
    simp only [eo] at h ⊢
    split at h
    · rename_i c
      split at h
      · rename_i c2; cases h; exact ⟨_, (if_pos c).trans (if_pos c2), rfl, rfl⟩
      · rename_i c2
        split at h
        · rename_i l hl
          split at h
          · rename_i c3
            cases h
            refine ⟨(H.tag i t).set id (.cells (lput l (off + len * es) new) true), ?_, rfl, rfl⟩
            rw [if_pos c, if_neg c2, hl]
            exact if_pos c3
          · cases h
        · cases h
    · rename_i c
      simp only [Option.bind_eq_some_iff] at h
      obtain ⟨old, hold, h⟩ := h
      rw [if_neg c, hold, Option.bind_some]
      split at h
      · rename_i c2
        rw [if_pos c2]
        split at h
        · cases h; exact ⟨_, rfl, rfl, rfl⟩
        · rename_i e
          split at h
          · rename_i c3
            split at h
            · rename_i l hl
              cases h
              refine ⟨((H.tag i t).del id).new (.cells (old ++ new) true), ?_, rfl, rfl⟩
              simp only
              rw [if_pos c3, hl]
              rfl
            · cases h
          · cases h
      · cases h
  | _ => simp at h
theorem Gr.same {K K' : AHeap} {es : Nat} {v : AVal} {cs : List AVal} (h : Gr K es v cs) (ho : K'.obj = K.obj) (hn : K'.next = K.next) : Gr K' es v cs :=
  h.fr (L := []) ⟨Nat.le_of_eq hn.symm, fun i _ _ => by rw [ho]⟩ (by simp)
theorem push_tag {K : AHeap} {es by' : Nat} {v : AVal} {cs : List AVal} (t : TypeId × Option Nat) (h : Gr K es v cs) (hes : 0 < es) {x : List AVal} (hx : x.length = es) (hb : 5 * ((slen v + 1) * by') + 2040 * by' ≤ 1125899906842624 ∧ slen v + 1 ≤ 9223372036854775807) :
    ∃ v' K', aappend ((K.new (.cells x true)).tag K.next t) es by' v (.slice K.next 0 1 1 none) = some (v', K') ∧ Gr K' es v' (cs ++ x) ∧ (∀ i, i ∈ v'.ids → K.next ≤ i) ∧ Fr v.ids K K' ∧ slen v' = slen v + 1 ∧ ∃ a, v' = .slice a 0 (slen v + 1) (slen v + 1) (some es) := by
  obtain ⟨v', K1, e, h1, h2, h3, h4, h5⟩ := Gr.push (by' := by') h hes hx hb
  obtain ⟨K', e', ho, hn⟩ := app_tag K.next t e
  exact ⟨v', K', e', Gr.same h1 ho hn, h2, ⟨by rw [hn]; exact h3.1, fun i hi hL => by rw [ho]; exact h3.2 i hi hL⟩, h4, h5⟩

/-! ### A text behind its length -/
def tx (s : List UInt8) (e : Int) : List UInt8 × Int × List UInt8 := raw (raw s e 1).1 (raw s e 1).2.1 ((be (raw s e 1).2.2 : Nat) : Int)
theorem raw_take (s : List UInt8) (e n : Int) : (raw s e n).2.2.length ≤ n.toNat := by
  unfold raw
  split
  · simp
  · split
    · simp
    · split
      · simp
      · rw [List.length_take]; omega
theorem be1_lt (s : List UInt8) (e : Int) : be (raw s e 1).2.2 < 256 := by
  have h1 := raw_take s e 1
  have h2 := be_lt (raw s e 1).2.2
  have : 256 ^ (raw s e 1).2.2.length ≤ 256 ^ 1 := Nat.pow_le_pow_right (by decide) h1
  omega
theorem be2_lt (s : List UInt8) (e : Int) : be (raw s e 2).2.2 < 65536 := be_lt2 _ (raw_take s e 2)
theorem tx_len (s : List UInt8) (e : Int) : (tx s e).2.2.length ≤ 255 := by
  have h1 := raw_take (raw s e 1).1 (raw s e 1).2.1 ((be (raw s e 1).2.2 : Nat) : Int)
  have h2 := be1_lt s e
  unfold tx
  omega
theorem wid1 : wid 1 = 1 := rfl
theorem wid2 : wid 2 = 2 := rfl

theorem U60 {H : AHeap} {p : Nat} {s : List UInt8} {e : Int} (h : Rd H p s e) (hp : p < H.next) : ∃ K, AC A 60 [.ptr p 0] H = some (.str (tx s e).2.2, K) ∧ Rd K p (tx s e).1 (tx s e).2.1 ∧ Fr [p] H K := by
  have u1 := U51 h 1
  rw [wid1] at u1
  obtain ⟨K1, eK1⟩ : ∃ K1, (H.set p (rd (raw s e 1).1 (raw s e 1).2.1)).new (.cells ((raw s e 1).2.2.map by8) true) = K1 := ⟨_, rfl⟩
  rw [eK1] at u1
  have h1 : Rd K1 p (raw s e 1).1 (raw s e 1).2.1 := by
    show K1.obj p = _
    rw [← eK1, new_obj, set_next, if_neg (by omega), set_obj, if_pos rfl]
    rfl
  have f1 : Fr [p] H K1 := by rw [← eK1]; exact Fr.new (Fr.set (.inl (by simp)) (Fr.refl _ _))
  have b := be1_lt s e
  have w1 : IntKind.i64.wrap ((be (raw s e 1).2.2 : Nat) : Int) = ((be (raw s e 1).2.2 : Nat) : Int) := by rw [wrap_i64]; omega
  have u2 := U52 h1 ((be (raw s e 1).2.2 : Nat) : Int)
  refine ⟨K1.set p (rd (tx s e).1 (tx s e).2.1), ?_, by show (K1.set p (rd (tx s e).1 (tx s e).2.1)).obj p = _; rw [set_obj, if_pos rfl]; rfl, Fr.set (.inl (by simp)) f1⟩
  rw [s_fn (A := A) (f := 60) (x := SdFns.c60) rfl rfl rfl]
  simp only [c60, u1, w1, u2, rwA, rwB, Nat.reduceAdd, Nat.reduceMul, Nat.reduceLeDiff, Int.reduceEq, Int.reduceLT, Int.reduceLE, Int.reduceAdd, Int.reduceSub, Int.reduceMul, ↓reduceIte, Nat.reduceEqDiff, reduceCtorEq, ↓cnd_true, ↓cnd_false]
  rfl

theorem U61 (s : List UInt8) (e : Int) (H : AHeap) : AC A 61 [.agg [.str s, .int .i64 e]] H = some (.tuple [.agg [.str (tx s e).1, .int .i64 (tx s e).2.1], .str (tx s e).2.2], H) := by
  refine one_val (x := SdFns.c61) rfl rfl rfl rfl rfl ?_ H
  have u1 := fun K => U53 s e 1 K
  rw [wid1] at u1
  have b := be1_lt s e
  have w1 : IntKind.i64.wrap ((be (raw s e 1).2.2 : Nat) : Int) = ((be (raw s e 1).2.2 : Nat) : Int) := by rw [wrap_i64]; omega
  have u2 := fun K => U80 (raw s e 1).1 (raw s e 1).2.1 ((be (raw s e 1).2.2 : Nat) : Int) K
  simp only [c61, u1, w1, u2, rwA, rwB, Nat.reduceAdd, Nat.reduceMul, Nat.reduceLeDiff, Int.reduceEq, Int.reduceLT, Int.reduceLE, Int.reduceAdd, Int.reduceSub, Int.reduceMul, ↓reduceIte, Nat.reduceEqDiff, reduceCtorEq, ↓cnd_true, ↓cnd_false]
  rfl

end Go.Proofs.Ytfmjdlahabgkpaa.Sd
end

section
/- Nodes: Decode's loop. -/
set_option maxRecDepth 100000
set_option linter.unusedSimpArgs false
set_option linter.unusedVariables false
set_option maxHeartbeats 4000000
namespace Go.Proofs.Ytfmjdlahabgkpaa.Sd
open Go Go.Proofs.Ytfmjdlahabgkpaa.Am SdFns Go.RowKit

def pits : Nat → List UInt8 → Int → List It
  | 0, _, _ => []
  | n + 1, s, e => ((tx s e).2.2, (tx (tx s e).1 (tx s e).2.1).2.2) :: pits n (tx (tx s e).1 (tx s e).2.1).1 (tx (tx s e).1 (tx s e).2.1).2.1
def pkid : Nat → List UInt8 → Int → List (List UInt8 × Int)
  | 0, _, _ => []
  | n + 1, s, e => ((tx s e).2.2, ((be (raw (tx s e).1 (tx s e).2.1 2).2.2 : Nat) : Int)) :: pkid n (raw (tx s e).1 (tx s e).2.1 2).1 (raw (tx s e).1 (tx s e).2.1 2).2.1
def kx (p : List UInt8 × Int) : It := (p.1, [])

def b27 : ACode := (.seq (.region [⟨(some 32), (.bin .lss (.tmp 31) (.tmp 30)), none, none⟩]) (.seq (.cond (.tmp 32) .skip (.exit 0)) (.seq (.block 1 (.seq (.region [⟨(some 33), (.mv (.tmp 5)), none, none⟩, ⟨(some 34), (.call (.con (.func 60 [] [])) [(.tmp 33)]), none, none⟩, ⟨(some 35), (.build [(.str []), (.str [])] [(0, (1, (.tmp 34)))]), none, none⟩, ⟨(some 8), (.new [(.str []), (.str [])]), none, none⟩, ⟨none, (.store 2 (.tmp 8) (.tmp 35)), none, none⟩]) (.seq (.seq (.region [⟨(some 36), (.mv (.tmp 6)), none, none⟩, ⟨(some 37), (.bin .eql (.tmp 36) (.con (.int .u64 2))), none, none⟩]) (.cond (.tmp 37) (.draw [⟨(some 38), (.fieldA 1 (.tmp 4)), none, none⟩, ⟨(some 39), (.load false 1 (.tmp 38)), none, (some (0, 2))⟩, ⟨(some 40), (.mv (.tmp 5)), none, none⟩, ⟨(some 41), (.call (.con (.func 51 [] [])) [(.tmp 40), (.con (.int .i64 2))]), none, none⟩, ⟨(some 42), (.toInt .i64 (.tmp 41)), none, none⟩, ⟨(some 43), (.buildS 1 [(.int .i64 0)] [(0, (1, (.tmp 42)))]), none, none⟩, ⟨(some 44), (.append 1 8 (.tmp 39) (.tmp 43)), none, none⟩, ⟨(some 45), (.fieldA 1 (.tmp 4)), none, none⟩, ⟨none, (.store 1 (.tmp 45) (.tmp 44)), none, none⟩]) (.region [⟨(some 46), (.mv (.tmp 5)), none, none⟩, ⟨(some 47), (.call (.con (.func 60 [] [])) [(.tmp 46)]), none, none⟩, ⟨(some 48), (.fieldA 1 (.tmp 8)), none, none⟩, ⟨none, (.store 1 (.tmp 48) (.tmp 47)), none, none⟩]))) (.region [⟨(some 49), (.fieldA 0 (.tmp 4)), none, none⟩, ⟨(some 50), (.load false 1 (.tmp 49)), none, none⟩, ⟨(some 51), (.load true 2 (.tmp 8)), none, none⟩, ⟨(some 52), (.buildT 64 1 [(.str []), (.str [])] [(0, (2, (.tmp 51)))]), none, none⟩, ⟨(some 53), (.append 2 32 (.tmp 50) (.tmp 52)), none, none⟩, ⟨(some 54), (.fieldA 0 (.tmp 4)), none, none⟩, ⟨none, (.store 1 (.tmp 54) (.tmp 53)), none, none⟩])))) (.region [⟨(some 55), (.bin .add (.tmp 31) (.con (.int .i64 1))), none, none⟩, ⟨(some 31), (.mv (.tmp 55)), none, none⟩]))))
theorem loop27a {H : AHeap} {p2 p4 p5 B m kd : Nat} {t s0 : List UInt8} {e0 : Int} (hB : p2 < p4 ∧ p4 < p5 ∧ p5 < B ∧ B ≤ H.next) (hr : Rd H p5 s0 e0) (ho : H.obj p4 = some (.cells [.nils, .nils] true)) (hkd : decide ((kd : Int) = 2) = false) (hm : m ≤ 255) {env : Env}
    (h0 : env 0 = .str t) (h2 : env 2 = .ptr p2 0) (h4 : env 4 = .ptr p4 0) (h5 : env 5 = .ptr p5 0) (h6 : env 6 = .int .u64 (kd : Int)) (h30 : env 30 = .int .i64 (m : Int)) (h31 : env 31 = .int .i64 0) :
    Outs (AX A (.loop b27) env H) fun e env' K => e = .exit 0 ∧ env' 0 = .str t ∧ env' 2 = .ptr p2 0 ∧ env' 4 = .ptr p4 0 ∧ Fr [p4, p5] H K ∧ ∃ v, K.obj p4 = some (.cells [v, .nils] true) ∧ Gr K 2 v ((pits m s0 e0).flatMap ic) ∧ ∀ i, i ∈ v.ids → H.next ≤ i := by
  refine loop_ends (I := fun (i : Nat) env' K => i ≤ m ∧ env' 0 = .str t ∧ env' 2 = .ptr p2 0 ∧ env' 4 = .ptr p4 0 ∧ env' 5 = .ptr p5 0 ∧ env' 6 = .int .u64 (kd : Int) ∧ env' 30 = .int .i64 (m : Int) ∧ env' 31 = .int .i64 (i : Int) ∧ Fr [p4, p5] H K ∧
      ∃ v done s e, K.obj p4 = some (.cells [v, .nils] true) ∧ Gr K 2 v (done.flatMap ic) ∧ (∀ i, i ∈ v.ids → H.next ≤ i) ∧ Rd K p5 s e ∧ done.length = i ∧ pits m s0 e0 = done ++ pits (m - i) s e) (fun i => m - i) ?_ 0 env H
    ⟨Nat.zero_le _, h0, h2, h4, h5, h6, h30, h31, Fr.refl _ _, .nils, [], s0, e0, ho, Gr.nil _ _, by simp [AVal.ids], hr, rfl, rfl⟩
  rintro i env1 K ⟨hi, h0, h2, h4, h5, h6, h30, h31, hF, v, done, s, e, ho, hG, hv, hr, hd, hE⟩
  have hF1 := hF.1
  by_cases c : i < m
  · have c1 : decide ((i : Int) < (m : Int)) = true := by simp; omega
    have w1 : IntKind.i64.wrap ((i : Int) + 1) = ((i + 1 : Nat) : Int) := by rw [wrap_i64]; omega
    rw [show m - i = m - (i + 1) + 1 by omega, pits] at hE
    obtain ⟨K1, e1, r1, f1⟩ := U60 hr (by omega)
    obtain ⟨a, ea⟩ : ∃ a, (tx s e).2.2 = a := ⟨_, rfl⟩
    rw [ea] at e1 hE
    have f1n := f1.1
    obtain ⟨K2, eK2⟩ : ∃ K2, (K1.new (.cells [.str [], .str []] true)).set K1.next (.cells [.str a, .str []] true) = K2 := ⟨_, rfl⟩
    have n2 : K2.next = K1.next + 1 := by rw [← eK2, set_next, new_next]
    have f2 : Fr [p5] K K2 := by rw [← eK2]; exact Fr.set (.inr f1n) (Fr.new f1)
    have r2 : Rd K2 p5 (tx s e).1 (tx s e).2.1 := by
      show K2.obj p5 = _
      rw [← eK2, set_obj, if_neg (by omega), new_obj, if_neg (by omega)]; exact r1
    have o2 : K2.obj K1.next = some (.cells [.str a, .str []] true) := by rw [← eK2, set_obj, if_pos rfl]
    obtain ⟨K3, e3, r3, f3⟩ := U60 r2 (by omega)
    obtain ⟨b, eb⟩ : ∃ b, (tx (tx s e).1 (tx s e).2.1).2.2 = b := ⟨_, rfl⟩
    rw [eb] at e3 hE
    have f3n := f3.1
    have o3 : K3.obj K1.next = some (.cells [.str a, .str []] true) := by rw [f3.2 _ (by omega) (by simp; omega)]; exact o2
    obtain ⟨K4, eK4⟩ : ∃ K4, K3.set K1.next (.cells [.str a, .str b] true) = K4 := ⟨_, rfl⟩
    have n4 : K4.next = K3.next := by rw [← eK4, set_next]
    have f4 : Fr [p5] K K4 := by rw [← eK4]; exact Fr.set (.inr f1n) (f2.trans f3 (fun i hi => .inl hi))
    have o4 : K4.obj K1.next = some (.cells [.str a, .str b] true) := by rw [← eK4, set_obj, if_pos rfl]
    have r4 : Rd K4 p5 (tx (tx s e).1 (tx s e).2.1).1 (tx (tx s e).1 (tx s e).2.1).2.1 := by
      show K4.obj p5 = _
      rw [← eK4, set_obj, if_neg (by omega)]; exact r3
    have op1 : K1.obj p4 = some (.cells [v, .nils] true) := by rw [f1.2 p4 (by omega) (by simp; omega)]; exact ho
    have op4 : K4.obj p4 = some (.cells [v, .nils] true) := by rw [f4.2 p4 (by omega) (by simp; omega)]; exact ho
    have g4 := hG.fr f4 (fun i hi => by have := hv i hi; simp; omega)
    have hsl : slen v = done.length := slen_fm ic_len (by decide) hG.sl
    obtain ⟨v', K6, ap, g6, i6, f6, _, _, hv'⟩ := push_tag (by' := 32) (64, none) g4 (by decide) (x := [.str a, .str b]) rfl (by rw [hsl]; omega)
    obtain ⟨K7, eK7⟩ : ∃ K7, K6.set p4 (.cells [v', .nils] true) = K7 := ⟨_, rfl⟩
    have hv4 : p4 ∉ v.ids := fun h => by have := hv _ h; omega
    have hv5 : p5 ∉ v.ids := fun h => by have := hv _ h; omega
    have op6 : K6.obj p4 = some (.cells [v, .nils] true) := by rw [f6.2 p4 (by omega) hv4]; exact op4
    have f6n := f6.1
    have hF7 : Fr [p4, p5] H K7 := by
      rw [← eK7]
      refine Fr.set (.inl (by simp)) ((hF.trans f4 (fun i hi => .inl (by simp at hi; simp [hi]))).trans f6 (fun i hi => .inr ?_))
      have := hv i hi; omega
    have r7 : Rd K7 p5 (tx (tx s e).1 (tx s e).2.1).1 (tx (tx s e).1 (tx s e).2.1).2.1 := by
      show K7.obj p5 = _
      rw [← eK7, set_obj, if_neg (by omega), f6.2 p5 (by omega) hv5]; exact r4
    have g7 : Gr K7 2 v' ((done ++ [(a, b)]).flatMap ic) := by
      have := g6.fr (L := [p4]) (H' := K7) (by rw [← eK7]; exact Fr.set (.inl (by simp)) (Fr.refl _ _)) (fun i hi => by have := i6 i hi; simp; omega)
      rw [List.flatMap_append, List.flatMap_singleton]
      exact this
    subst hv'
    simp only [b27, h0, h2, h4, h5, h6, h30, h31, hkd, c1, w1, e1, eK2, e3, o3, eK4, o4, op4, ap, op6, eK7, rwA, rwB, Nat.reduceAdd, Nat.reduceMul, Nat.reduceLeDiff, Int.reduceEq, Int.reduceLT, Int.reduceLE, Int.reduceAdd, Int.reduceSub, Int.reduceMul, ↓reduceIte, Nat.reduceEqDiff, reduceCtorEq, ↓cnd_true, ↓cnd_false]
    rw [outs_some]
    refine .inl ⟨rfl, i + 1, by omega, by omega, by simp [Env.set, h0], by simp [Env.set, h2], by simp [Env.set, h4], by simp [Env.set, h5], by simp [Env.set, h6], by simp [Env.set, h30], by simp [Env.set], hF7, _, done ++ [(a, b)], _, _, ?_, g7, fun i hi => ?_, r7, by simp [hd], by rw [List.append_assoc]; exact hE⟩
    · rw [← eK7, set_obj, if_pos rfl]
    · have := i6 i hi; omega
  · have e : i = m := by omega
    subst e
    have c1 : decide ((i : Int) < (i : Int)) = false := by simp
    simp only [b27, h30, h31, c1, rwA, rwB, Nat.reduceAdd, Nat.reduceMul, Nat.reduceLeDiff, Int.reduceEq, Int.reduceLT, Int.reduceLE, Int.reduceAdd, Int.reduceSub, Int.reduceMul, ↓reduceIte, Nat.reduceEqDiff, reduceCtorEq, ↓cnd_true, ↓cnd_false]
    rw [outs_some]
    rw [Nat.sub_self, pits, List.append_nil] at hE
    rw [hE]
    exact .inr ⟨by simp, rfl, by simp [Env.set, h0], by simp [Env.set, h2], by simp [Env.set, h4], hF, v, ho, hG, hv⟩

end Go.Proofs.Ytfmjdlahabgkpaa.Sd
end

section
/- Nodes: Decode's loop, of branches. -/
set_option maxRecDepth 100000
set_option linter.unusedSimpArgs false
set_option linter.unusedVariables false
set_option maxHeartbeats 4000000
namespace Go.Proofs.Ytfmjdlahabgkpaa.Sd
open Go Go.Proofs.Ytfmjdlahabgkpaa.Am SdFns Go.RowKit

theorem loop27b {H : AHeap} {p2 p4 p5 B m : Nat} {M : Int} {t s0 : List UInt8} {e0 : Int} {vk0 : AVal} {k0 : List Int} (hB : p2 < p4 ∧ p4 < p5 ∧ p5 < B ∧ B ≤ H.next) (hr : Rd H p5 s0 e0) (ho : H.obj p4 = some (.cells [.nils, vk0] true)) (hk0 : Gr H 1 vk0 (k0.map i64)) (hk0i : ∀ i, i ∈ vk0.ids → B ≤ i) (hk0l : k0.length ≤ 1) (hM : M.toNat = m) (hm : m ≤ 255) {env : Env}
    (h0 : env 0 = .str t) (h2 : env 2 = .ptr p2 0) (h4 : env 4 = .ptr p4 0) (h5 : env 5 = .ptr p5 0) (h6 : env 6 = .int .u64 2) (h30 : env 30 = .int .i64 M) (h31 : env 31 = .int .i64 0) :
    Outs (AX A (.loop b27) env H) fun e env' K => e = .exit 0 ∧ env' 0 = .str t ∧ env' 2 = .ptr p2 0 ∧ env' 4 = .ptr p4 0 ∧ Fr ([p4, p5] ++ vk0.ids) H K ∧ ∃ v vk, K.obj p4 = some (.cells [v, vk] true) ∧ Gr K 2 v (((pkid m s0 e0).map kx).flatMap ic) ∧ Gr K 1 vk ((k0 ++ (pkid m s0 e0).map (·.2)).map i64) ∧ (∀ i, i ∈ v.ids → H.next ≤ i) ∧ ∀ i, i ∈ vk.ids → B ≤ i := by
  refine loop_ends (I := fun (i : Nat) env' K => i ≤ m ∧ env' 0 = .str t ∧ env' 2 = .ptr p2 0 ∧ env' 4 = .ptr p4 0 ∧ env' 5 = .ptr p5 0 ∧ env' 6 = .int .u64 2 ∧ env' 30 = .int .i64 M ∧ env' 31 = .int .i64 (i : Int) ∧ Fr ([p4, p5] ++ vk0.ids) H K ∧
      ∃ v vk done s e, K.obj p4 = some (.cells [v, vk] true) ∧ Gr K 2 v ((List.map kx done).flatMap ic) ∧ (∀ i, i ∈ v.ids → H.next ≤ i) ∧ Gr K 1 vk ((k0 ++ done.map (·.2)).map i64) ∧ (∀ i, i ∈ vk.ids → B ≤ i ∧ (i ∈ vk0.ids ∨ H.next ≤ i)) ∧ (∀ i, i ∈ v.ids → i ∉ vk.ids) ∧ Rd K p5 s e ∧ done.length = i ∧ pkid m s0 e0 = done ++ pkid (m - i) s e) (fun i => m - i) ?_ 0 env H
    ⟨Nat.zero_le _, h0, h2, h4, h5, h6, h30, h31, Fr.refl _ _, .nils, vk0, [], s0, e0, ho, Gr.nil _ _, by simp [AVal.ids], by simpa using hk0, fun i hi => ⟨hk0i i hi, .inl hi⟩, by simp [AVal.ids], hr, rfl, rfl⟩
  rintro i env1 K ⟨hi, h0, h2, h4, h5, h6, h30, h31, hF, v, vk, done, s, e, ho, hG, hv, hGk, hvk, hdis, hr, hd, hE⟩
  have hF1 := hF.1
  by_cases c : i < m
  · have c1 : decide ((i : Int) < M) = true := by simp; omega
    have w1 : IntKind.i64.wrap ((i : Int) + 1) = ((i + 1 : Nat) : Int) := by rw [wrap_i64]; omega
    rw [show m - i = m - (i + 1) + 1 by omega, pkid] at hE
    obtain ⟨K1, e1, r1, f1⟩ := U60 hr (by omega)
    obtain ⟨a, ea⟩ : ∃ a, (tx s e).2.2 = a := ⟨_, rfl⟩
    rw [ea] at e1 hE
    have f1n := f1.1
    obtain ⟨K2, eK2⟩ : ∃ K2, (K1.new (.cells [.str [], .str []] true)).set K1.next (.cells [.str a, .str []] true) = K2 := ⟨_, rfl⟩
    have n2 : K2.next = K1.next + 1 := by rw [← eK2, set_next, new_next]
    have f2 : Fr [p5] K K2 := by rw [← eK2]; exact Fr.set (.inr f1n) (Fr.new f1)
    have r2 : Rd K2 p5 (tx s e).1 (tx s e).2.1 := by
      show K2.obj p5 = _
      rw [← eK2, set_obj, if_neg (by omega), new_obj, if_neg (by omega)]; exact r1
    have o2 : K2.obj K1.next = some (.cells [.str a, .str []] true) := by rw [← eK2, set_obj, if_pos rfl]
    have op2 : K2.obj p4 = some (.cells [v, vk] true) := by rw [f2.2 p4 (by omega) (by simp; omega)]; exact ho
    have u51 := U51 r2 2
    rw [wid2] at u51
    have hy := be2_lt (tx s e).1 (tx s e).2.1
    obtain ⟨rr, err⟩ : ∃ rr, raw (tx s e).1 (tx s e).2.1 2 = rr := ⟨_, rfl⟩
    rw [err] at u51 hE hy
    obtain ⟨y, ey⟩ : ∃ y : Nat, be rr.2.2 = y := ⟨_, rfl⟩
    rw [ey] at u51 hE hy
    obtain ⟨K3, eK3⟩ : ∃ K3, (K2.set p5 (rd rr.1 rr.2.1)).new (.cells (rr.2.2.map by8) true) = K3 := ⟨_, rfl⟩
    rw [eK3] at u51
    have w2 : IntKind.i64.wrap (y : Int) = (y : Int) := by rw [wrap_i64]; omega
    have n3 : K3.next = K2.next + 1 := by rw [← eK3, new_next, set_next]
    have f3 : Fr [p5] K K3 := by rw [← eK3]; exact Fr.new (Fr.set (.inl (by simp)) f2)
    have o3 : K3.obj K1.next = some (.cells [.str a, .str []] true) := by rw [← eK3, new_obj, set_next, if_neg (by omega), set_obj, if_neg (by omega)]; exact o2
    have op3 : K3.obj p4 = some (.cells [v, vk] true) := by rw [f3.2 p4 (by omega) (by simp; omega)]; exact ho
    have r3 : Rd K3 p5 rr.1 rr.2.1 := by
      show K3.obj p5 = _
      rw [← eK3, new_obj, set_next, if_neg (by omega), set_obj, if_pos rfl]; rfl
    have ne3 : (p4 = K3.next) = False := eq_false (by omega)
    have gk3 := hGk.fr f3 (fun i hi => by have := (hvk i hi).1; simp; omega)
    have hslk : slen vk = (k0 ++ done.map (·.2)).length := by have := gk3.sl.length; rw [List.length_map] at this; omega
    have hslk2 : (k0 ++ done.map (·.2)).length = k0.length + done.length := by simp
    obtain ⟨vk', K4, apk, gk4, ik4, fk4, _, _, hvk'⟩ := Gr.push (by' := 8) gk3 (by decide) (x := [.int .i64 (y : Int)]) rfl (by rw [hslk, hslk2]; omega)
    have fk4n := fk4.1
    have hp4k : p4 ∉ vk.ids := fun h => by have := (hvk _ h).1; omega
    have hp5k : p5 ∉ vk.ids := fun h => by have := (hvk _ h).1; omega
    have hxk : K1.next ∉ vk.ids := fun h => by have := hGk.lt _ h; omega
    have op4 : K4.obj p4 = some (.cells [v, vk] true) := by rw [fk4.2 p4 (by omega) hp4k]; exact op3
    have o4 : K4.obj K1.next = some (.cells [.str a, .str []] true) := by rw [fk4.2 _ (by omega) hxk]; exact o3
    have r4 : Rd K4 p5 rr.1 rr.2.1 := by
      show K4.obj p5 = _
      rw [fk4.2 _ (by omega) hp5k]; exact r3
    obtain ⟨K5, eK5⟩ : ∃ K5, K4.set p4 (.cells [v, vk'] true) = K5 := ⟨_, rfl⟩
    have n5 : K5.next = K4.next := by rw [← eK5, set_next]
    have op5 : K5.obj p4 = some (.cells [v, vk'] true) := by rw [← eK5, set_obj, if_pos rfl]
    have o5 : K5.obj K1.next = some (.cells [.str a, .str []] true) := by rw [← eK5, set_obj, if_neg (by omega)]; exact o4
    have r5 : Rd K5 p5 rr.1 rr.2.1 := by
      show K5.obj p5 = _
      rw [← eK5, set_obj, if_neg (by omega)]; exact r4
    have f5 : Fr ([p4, p5] ++ vk.ids) K K5 := by
      rw [← eK5]
      exact Fr.set (.inl (by simp)) ((f3.mono (fun i hi => by simp at hi; simp [hi])).trans fk4 (fun i hi => .inl (by simp [hi])))
    have g5 := hG.fr f5 (fun i hi => by have := hv i hi; have := hdis i hi; simp [this]; omega)
    have hsl : slen v = (List.map kx done).length := slen_fm ic_len (by decide) hG.sl
    rw [List.length_map] at hsl
    obtain ⟨v', K7, ap, g7, i7, f7, _, _, hv'⟩ := push_tag (by' := 32) (64, none) g5 (by decide) (x := [.str a, .str []]) rfl (by rw [hsl]; omega)
    have f7n := f7.1
    have hv4 : p4 ∉ v.ids := fun h => by have := hv _ h; omega
    have hv5 : p5 ∉ v.ids := fun h => by have := hv _ h; omega
    have op7 : K7.obj p4 = some (.cells [v, vk'] true) := by rw [f7.2 p4 (by omega) hv4]; exact op5
    have r7 : Rd K7 p5 rr.1 rr.2.1 := by
      show K7.obj p5 = _
      rw [f7.2 p5 (by omega) hv5]; exact r5
    obtain ⟨K8, eK8⟩ : ∃ K8, K7.set p4 (.cells [v', vk'] true) = K8 := ⟨_, rfl⟩
    have r8 : Rd K8 p5 rr.1 rr.2.1 := by
      show K8.obj p5 = _
      rw [← eK8, set_obj, if_neg (by omega)]; exact r7
    have op8 : K8.obj p4 = some (.cells [v', vk'] true) := by rw [← eK8, set_obj, if_pos rfl]
    have hF8 : Fr ([p4, p5] ++ vk0.ids) H K8 := by
      rw [← eK8]
      refine Fr.set (.inl (by simp)) ((hF.trans f5 (fun i hi => ?_)).trans f7 (fun i hi => .inr (hv i hi)))
      rcases List.mem_append.1 hi with h | h
      · exact .inl (List.mem_append_left _ h)
      · rcases (hvk i h).2 with h | h
        · exact .inl (List.mem_append_right _ h)
        · exact .inr h
    have gk8 : Gr K8 1 vk' ((k0 ++ (done ++ [(a, (y : Int))]).map (·.2)).map i64) := by
      have h5 : Gr K5 1 vk' ((k0 ++ done.map (·.2)).map i64 ++ [.int .i64 (y : Int)]) := gk4.fr (L := [p4]) (by rw [← eK5]; exact Fr.set (.inl (by simp)) (Fr.refl _ _)) (fun i hi => by have := ik4 i hi; simp; omega)
      have h7 := h5.fr f7 (fun i hi => fun hx => by have := ik4 i hi; have := hG.lt i hx; omega)
      have h8 := h7.fr (L := [p4]) (H' := K8) (by rw [← eK8]; exact Fr.set (.inl (by simp)) (Fr.refl _ _)) (fun i hi => by have := ik4 i hi; simp; omega)
      have e0 : (k0 ++ (done ++ [(a, (y : Int))]).map (·.2)).map i64 = (k0 ++ done.map (·.2)).map i64 ++ [.int .i64 (y : Int)] := by simp [i64]
      rw [e0]; exact h8
    have g8 : Gr K8 2 v' ((List.map kx (done ++ [(a, (y : Int))])).flatMap ic) := by
      have := g7.fr (L := [p4]) (H' := K8) (by rw [← eK8]; exact Fr.set (.inl (by simp)) (Fr.refl _ _)) (fun i hi => by have := i7 i hi; simp; omega)
      rw [List.map_append, List.flatMap_append, List.map_singleton, List.flatMap_singleton]
      exact this
    have hd8 : ∀ i, i ∈ v'.ids → i ∉ vk'.ids := fun i hi hx => by have := i7 i hi; have := gk4.lt i hx; omega
    obtain ⟨av, rfl⟩ := hv'
    obtain ⟨ak, rfl⟩ := hvk'
    simp only [b27, h0, h2, h4, h5, h6, h30, h31, c1, w1, w2, e1, eK2, u51, eK3, o2, o3, op2, op3, ne3, apk, op4, eK5, o5, op5, ap, op7, eK8, rwA, rwB, Nat.reduceAdd, Nat.reduceMul, Nat.reduceLeDiff, Int.reduceEq, Int.reduceLT, Int.reduceLE, Int.reduceAdd, Int.reduceSub, Int.reduceMul, ↓reduceIte, Nat.reduceEqDiff, reduceCtorEq, ↓cnd_true, ↓cnd_false]
    rw [outs_some]
    refine .inl ⟨rfl, i + 1, by omega, by omega, by simp [Env.set, h0], by simp [Env.set, h2], by simp [Env.set, h4], by simp [Env.set, h5], by simp [Env.set, h6], by simp [Env.set, h30], by simp [Env.set], hF8, _, _, done ++ [(a, (y : Int))], _, _, op8, g8, fun i hi => ?_, gk8, fun i hi => ?_, hd8, r8, by simp [hd], by rw [List.append_assoc]; exact hE⟩
    · have := i7 i hi; omega
    · have := ik4 i hi; exact ⟨by omega, .inr (by omega)⟩
  · have e : i = m := by omega
    subst e
    have c1 : decide ((i : Int) < M) = false := by simp; omega
    simp only [b27, h30, h31, c1, rwA, rwB, Nat.reduceAdd, Nat.reduceMul, Nat.reduceLeDiff, Int.reduceEq, Int.reduceLT, Int.reduceLE, Int.reduceAdd, Int.reduceSub, Int.reduceMul, ↓reduceIte, Nat.reduceEqDiff, reduceCtorEq, ↓cnd_true, ↓cnd_false]
    rw [outs_some]
    rw [Nat.sub_self, pkid, List.append_nil] at hE
    rw [hE]
    exact .inr ⟨by simp, rfl, by simp [Env.set, h0], by simp [Env.set, h2], by simp [Env.set, h4], hF, v, vk, ho, hG, hGk, hv, fun i hi => (hvk i hi).1⟩

end Go.Proofs.Ytfmjdlahabgkpaa.Sd
end

section
/- Nodes: Decode. -/
set_option maxRecDepth 100000
set_option linter.unusedSimpArgs false
set_option linter.unusedVariables false
set_option maxHeartbeats 4000000
namespace Go.Proofs.Ytfmjdlahabgkpaa.Sd
open Go Go.Proofs.Ytfmjdlahabgkpaa.Am SdFns Go.RowKit

def knd (t : List UInt8) : Nat := be (raw t 0 1).2.2
def r1 (t : List UInt8) : List UInt8 × Int × List UInt8 := raw (raw t 0 1).1 (raw t 0 1).2.1 1
def cnt (t : List UInt8) : Nat := be (r1 t).2.2
def r2 (t : List UInt8) : List UInt8 × Int × List UInt8 := raw (r1 t).1 (r1 t).2.1 2
def kd0 (t : List UInt8) : Nat := be (r2 t).2.2
theorem knd_lt (t : List UInt8) : knd t < 256 := be1_lt _ _
theorem cnt_lt (t : List UInt8) : cnt t < 256 := be1_lt _ _
theorem kd0_lt (t : List UInt8) : kd0 t < 65536 := be2_lt _ _
def dP (t : List UInt8) : List Int × List It :=
  if knd t = 2 then ((kd0 t : Int) :: (pkid (cnt t - 1) (r2 t).1 (r2 t).2.1).map (·.2), (pkid (cnt t - 1) (r2 t).1 (r2 t).2.1).map kx) else ([], pits (cnt t) (r1 t).1 (r1 t).2.1)
def okD (t : List UInt8) (d : List Int × List It) : Bool := rgt d.1 d.2 && decide (encs d.1 d.2 = t)

theorem pits_len : ∀ (n : Nat) (s : List UInt8) (e : Int), (pits n s e).length = n
  | 0, _, _ => rfl
  | n + 1, s, e => by rw [pits, List.length_cons, pits_len]
theorem pkid_len : ∀ (n : Nat) (s : List UInt8) (e : Int), (pkid n s e).length = n
  | 0, _, _ => rfl
  | n + 1, s, e => by rw [pkid, List.length_cons, pkid_len]
theorem pits_wts (b : Bool) : ∀ (n : Nat) (s : List UInt8) (e : Int), wts b (pits n s e) ≤ n * 520
  | 0, _, _ => by simp [pits, wts]
  | n + 1, s, e => by
    have h1 := tx_len s e
    have h2 := tx_len (tx s e).1 (tx s e).2.1
    have := pits_wts b n (tx (tx s e).1 (tx s e).2.1).1 (tx (tx s e).1 (tx s e).2.1).2.1
    unfold wts at this ⊢
    rw [pits, List.map_cons, List.sum_cons]
    have hw : wt b ((tx s e).2.2, (tx (tx s e).1 (tx s e).2.1).2.2) ≤ 520 := by
      unfold wt
      simp only
      split <;> omega
    omega
theorem pkid_wts (b : Bool) : ∀ (n : Nat) (s : List UInt8) (e : Int), wts b ((pkid n s e).map kx) ≤ n * 520
  | 0, _, _ => by simp [pkid, wts]
  | n + 1, s, e => by
    have h1 := tx_len s e
    have := pkid_wts b n (raw (tx s e).1 (tx s e).2.1 2).1 (raw (tx s e).1 (tx s e).2.1 2).2.1
    unfold wts at this ⊢
    rw [pkid, List.map_cons, List.map_cons, List.sum_cons]
    have hw : wt b (kx ((tx s e).2.2, ((be (raw (tx s e).1 (tx s e).2.1 2).2.2 : Nat) : Int))) ≤ 520 := by
      unfold wt kx
      simp only [List.length_nil]
      split <;> omega
    omega
structure Nd (H K : AHeap) (v : AVal) (d : List Int × List It) : Prop where
  k : Keeps H K
  v : ∃ s q, v = .agg [s, q] ∧ Li K s d.2 ∧ Ki K q d.1
theorem Gr.li {K : AHeap} {v : AVal} {l : List It} (h : Gr K 2 v (l.flatMap ic)) : Li K v l := ⟨h.sl, h.lt⟩
theorem Gr.ki {K : AHeap} {v : AVal} {l : List Int} (h : Gr K 1 v (l.map i64)) : Ki K v l := ⟨h.sl, h.lt⟩
theorem ki_nil (K : AHeap) : Ki K .nils [] := ⟨.inl ⟨rfl, rfl⟩, by simp [AVal.ids]⟩
theorem li_nil (K : AHeap) : Li K .nils [] := ⟨.inl ⟨rfl, rfl⟩, by simp [AVal.ids]⟩

theorem U27 (t : List UInt8) (H : AHeap) : ∃ v K, AC A 27 [.str t] H = some (.tuple [v, .int .i64 (if okD t (dP t) then 0 else 19)], K) ∧ Nd H K v (if okD t (dP t) then dP t else ([], [])) := by
  obtain ⟨p2, e2⟩ : ∃ p2, H.next = p2 := ⟨_, rfl⟩
  obtain ⟨p4, e4⟩ : ∃ p4, p2 + 1 = p4 := ⟨_, rfl⟩
  obtain ⟨p5, e5⟩ : ∃ p5, p4 + 1 = p5 := ⟨_, rfl⟩
  obtain ⟨K1, eK1⟩ : ∃ K1, (H.new (.cells [.nils, .nils] true)).new (.cells [.nils, .nils] true) = K1 := ⟨_, rfl⟩
  have n1 : K1.next = p5 := by rw [← eK1, new_next, new_next, e2]; omega
  have k1 : Keeps H K1 := by rw [← eK1]; exact Keeps.new' (Keeps.new' (Keeps.refl _))
  have u50 := U50 t K1
  rw [n1] at u50
  obtain ⟨K2, eK2⟩ : ∃ K2, K1.new (rd t 0) = K2 := ⟨_, rfl⟩
  rw [eK2] at u50
  have n2 : K2.next = p5 + 1 := by rw [← eK2, new_next, n1]
  have q2 : Rd K2 p5 t 0 := by show K2.obj p5 = _; rw [← eK2, new_obj, n1, if_pos rfl]; rfl
  have k2 : Keeps H K2 := k1.trans (by rw [← eK2]; exact Keeps.new _ _)
  have a2 : K2.obj p2 = some (.cells [.nils, .nils] true) := by rw [← eK2, new_obj, n1, if_neg (by omega), ← eK1, new_obj, new_next, if_neg (by omega), new_obj, if_pos e2.symm]
  have a4 : K2.obj p4 = some (.cells [.nils, .nils] true) := by rw [← eK2, new_obj, n1, if_neg (by omega), ← eK1, new_obj, new_next, if_pos (by omega)]
  have u51 := U51 q2 1
  rw [wid1] at u51
  obtain ⟨K3, eK3⟩ : ∃ K3, (K2.set p5 (rd (raw t 0 1).1 (raw t 0 1).2.1)).new (.cells ((raw t 0 1).2.2.map by8) true) = K3 := ⟨_, rfl⟩
  rw [eK3] at u51
  have n3 : K3.next = p5 + 2 := by rw [← eK3, new_next, set_next, n2]
  have q3 : Rd K3 p5 (raw t 0 1).1 (raw t 0 1).2.1 := by show K3.obj p5 = _; rw [← eK3, new_obj, set_next, if_neg (by omega), set_obj, if_pos rfl]; rfl
  have f3 : Fr [p5] K2 K3 := by rw [← eK3]; exact Fr.new (Fr.set (.inl (by simp)) (Fr.refl _ _))
  have u51b := U51 q3 1
  rw [wid1] at u51b
  obtain ⟨K4, eK4⟩ : ∃ K4, (K3.set p5 (rd (r1 t).1 (r1 t).2.1)).new (.cells ((r1 t).2.2.map by8) true) = K4 := ⟨_, rfl⟩
  have u51c : AC A 51 [.ptr p5 0, .int .i64 1] K3 = some (.int .u64 (cnt t : Int), K4) := by rw [← eK4]; exact u51b
  have u51a : AC A 51 [.ptr p5 0, .int .i64 1] K2 = some (.int .u64 (knd t : Int), K3) := u51
  have n4 : K4.next = p5 + 3 := by rw [← eK4, new_next, set_next, n3]
  have q4 : Rd K4 p5 (r1 t).1 (r1 t).2.1 := by show K4.obj p5 = _; rw [← eK4, new_obj, set_next, if_neg (by omega), set_obj, if_pos rfl]; rfl
  have f4 : Fr [p5] K2 K4 := f3.trans (by rw [← eK4]; exact Fr.new (Fr.set (.inl (by simp)) (Fr.refl [p5] _))) (fun i hi => .inl hi)
  have b2 : K4.obj p2 = some (.cells [.nils, .nils] true) := by rw [f4.2 p2 (by omega) (by simp; omega)]; exact a2
  have b4 : K4.obj p4 = some (.cells [.nils, .nils] true) := by rw [f4.2 p4 (by omega) (by simp; omega)]; exact a4
  have kH4 : Fr [p5] H K4 := ((Fr.of k2).trans f4 (fun i hi => .inl hi))
  have hk := knd_lt t
  have hc := cnt_lt t
  have wc : IntKind.i64.wrap (cnt t : Int) = (cnt t : Int) := by rw [wrap_i64]; omega
  -- the end: what was read is asked for its bytes
  have tail : ∀ (K : AHeap) (s q : AVal) (d : List Int × List It), Li K s d.2 → Ki K q d.1 → d.2.length < 1000 → d.1.length < 1000 → wts (lf d.1) d.2 < 1000000 → AC A 24 [.agg [s, q]] K = some (.tuple [.str (encs d.1 d.2), .int .i64 (no (rgt d.1 d.2))], K) :=
    fun K s q d h1 h2 h3 h4 h5 => U24 h2 h1 (by omega) (by omega) (by omega)
  have key : Rets (AC A 27 [.str t] H) fun u K => ∃ v, u = .tuple [v, .int .i64 (if okD t (dP t) then 0 else 19)] ∧ Nd H K v (if okD t (dP t) then dP t else ([], [])) := by
    rw [s_fn (A := A) (f := 27) (x := SdFns.c27) rfl rfl rfl]
    cases hkd : decide ((knd t : Int) = 2)
    · have hkn : ¬ knd t = 2 := by simp at hkd; omega
      have ed : dP t = ([], pits (cnt t) (r1 t).1 (r1 t).2.1) := by unfold dP; rw [if_neg hkn]
      simp only [c27, e2, e4, eK1, u50, u51a, u51c, hkd, wc, rwA, rwB, Nat.reduceAdd, Nat.reduceMul, Nat.reduceLeDiff, Int.reduceEq, Int.reduceLT, Int.reduceLE, Int.reduceAdd, Int.reduceSub, Int.reduceMul, ↓reduceIte, Nat.reduceEqDiff, reduceCtorEq, ↓cnd_true, ↓cnd_false]
      repeat (first | refine outs_seq ?_ | refine outs_block ?_ | refine outs_step ?_ | refine outs_stepD ?_ | refine rets_end ?_ | refine ans_end ?_)
      refine (loop27a (p2 := p2) (B := p5 + 1) ⟨by omega, by omega, by omega, by omega⟩ q4 b4 hkd (m := cnt t) (by omega) (t := t) ?_ ?_ ?_ ?_ ?_ ?_ ?_).mono ?_
      · simp [Env.set, ainit]
      · simp [Env.set]
      · simp [Env.set]
      · simp [Env.set]
      · simp [Env.set]
      · simp [Env.set]
      · simp [Env.set]
      rintro e env K ⟨rfl, h0, h2, h4, hF, v, ho, hG, hv⟩
      have op2 : K.obj p2 = some (.cells [.nils, .nils] true) := by rw [hF.2 p2 (by omega) (by simp; omega)]; exact b2
      have u24 := tail K v .nils (dP t) (by rw [ed]; exact Gr.li hG) (by rw [ed]; exact ki_nil K) (by rw [ed]; show (pits _ _ _).length < 1000; rw [pits_len]; omega) (by rw [ed]; simp) (by rw [ed]; exact Nat.lt_of_le_of_lt (pits_wts _ _ _ _) (by omega))
      have hsh := hG.shape
      have kf : ∀ o, Keeps H (K.set p2 o) := fun o => Fr.keeps (Fr.set (L := []) (.inr (by omega)) ((kH4.trans (M := [p4, p5]) hF (fun i hi => .inr (by simp at hi; omega))).mono (fun i hi => .inr (by simp at hi; omega))))
      have lv : Li (K.set p2 (.cells [v, .nils] true)) v (dP t).2 := by
        rw [ed]
        exact Gr.li (hG.fr (L := [p2]) (Fr.set (.inl (by simp)) (Fr.refl _ _)) (fun i hi => by have := hv i hi; simp; omega))
      have eo : okD t (dP t) = (rgt (dP t).1 (dP t).2 && decide (encs (dP t).1 (dP t).2 = t)) := rfl
      have hd1 : (dP t).1 = [] := by rw [ed]
      obtain ⟨g, eg⟩ : ∃ g, rgt (dP t).1 (dP t).2 = g := ⟨_, rfl⟩
      obtain ⟨f, ef⟩ : ∃ f, decide (encs (dP t).1 (dP t).2 = t) = f := ⟨_, rfl⟩
      rw [eg] at u24
      rw [eo, eg, ef]
      rcases hsh with rfl | ⟨_, _, _, rfl⟩ <;> cases g <;> cases f <;>
        (simp only [outs_some, h0, h2, h4, ho, op2, u24, no, ef, if_true, Bool.false_eq_true, if_false, rwA, rwB, Nat.reduceAdd, Nat.reduceMul, Nat.reduceLeDiff, Int.reduceEq, Int.reduceLT, Int.reduceLE, Int.reduceAdd, Int.reduceSub, Int.reduceMul, ↓reduceIte, Nat.reduceEqDiff, reduceCtorEq, ↓cnd_true, ↓cnd_false]; rw [rets_some]) <;>
        first
          | exact ⟨_, rfl, kf _, _, _, rfl, li_nil _, ki_nil _⟩
          | exact ⟨_, rfl, kf _, _, _, rfl, lv, by rw [hd1]; exact ki_nil _⟩
    · have hkn : knd t = 2 := by simp at hkd; omega
      have ed : dP t = ((kd0 t : Int) :: (pkid (cnt t - 1) (r2 t).1 (r2 t).2.1).map (·.2), (pkid (cnt t - 1) (r2 t).1 (r2 t).2.1).map kx) := by unfold dP; rw [if_pos hkn]
      have u51d := U51 q4 2
      rw [wid2] at u51d
      obtain ⟨K5, eK5⟩ : ∃ K5, (K4.set p5 (rd (r2 t).1 (r2 t).2.1)).new (.cells ((r2 t).2.2.map by8) true) = K5 := ⟨_, rfl⟩
      have u51e : AC A 51 [.ptr p5 0, .int .i64 2] K4 = some (.int .u64 (kd0 t : Int), K5) := by rw [← eK5]; exact u51d
      have n5 : K5.next = p5 + 4 := by rw [← eK5, new_next, set_next, n4]
      have q5 : Rd K5 p5 (r2 t).1 (r2 t).2.1 := by show K5.obj p5 = _; rw [← eK5, new_obj, set_next, if_neg (by omega), set_obj, if_pos rfl]; rfl
      have f5 : Fr [p5] K4 K5 := by rw [← eK5]; exact Fr.new (Fr.set (.inl (by simp)) (Fr.refl [p5] _))
      have d2 : K5.obj p2 = some (.cells [.nils, .nils] true) := by rw [f5.2 p2 (by omega) (by simp; omega)]; exact b2
      have d4 : K5.obj p4 = some (.cells [.nils, .nils] true) := by rw [f5.2 p4 (by omega) (by simp; omega)]; exact b4
      have hk0 := kd0_lt t
      have wk : IntKind.i64.wrap (kd0 t : Int) = (kd0 t : Int) := by rw [wrap_i64]; omega
      have wm : IntKind.i64.wrap ((cnt t : Int) - 1) = (cnt t : Int) - 1 := by rw [wrap_i64]; omega
      have ne5 : (p4 = K5.next) = False := eq_false (by omega)
      obtain ⟨v0, K6, ap, g6, i6, f6, _, a0, hv0⟩ := Gr.push (by' := 8) (Gr.nil K5 1) (by decide) (x := [.int .i64 (kd0 t : Int)]) rfl (by decide)
      subst hv0
      have f6n := f6.1
      obtain ⟨K7, eK7⟩ : ∃ K7, K6.set p4 (.cells [.nils, .slice a0 0 (slen .nils + 1) (slen .nils + 1) (some 1)] true) = K7 := ⟨_, rfl⟩
      have n7 : K7.next = K6.next := by rw [← eK7, set_next]
      have d46 : K6.obj p4 = some (.cells [.nils, .nils] true) := by rw [f6.2 p4 (by omega) (by simp [AVal.ids])]; exact d4
      have d7 : K7.obj p4 = some (.cells [.nils, .slice a0 0 (slen .nils + 1) (slen .nils + 1) (some 1)] true) := by rw [← eK7, set_obj, if_pos rfl]
      have q7 : Rd K7 p5 (r2 t).1 (r2 t).2.1 := by show K7.obj p5 = _; rw [← eK7, set_obj, if_neg (by omega), f6.2 p5 (by omega) (by simp [AVal.ids])]; exact q5
      have d27 : K7.obj p2 = some (.cells [.nils, .nils] true) := by rw [← eK7, set_obj, if_neg (by omega), f6.2 p2 (by omega) (by simp [AVal.ids])]; exact d2
      have kH7 : Fr [] H K7 := by
        rw [← eK7]
        refine Fr.set (.inr (by omega)) (((kH4.mono (fun i hi => .inr (by simp at hi; omega))).trans f5 (fun i hi => .inr (by simp at hi; omega))).trans f6 (by simp [AVal.ids]))
      have g7 : Gr K7 1 (.slice a0 0 (slen .nils + 1) (slen .nils + 1) (some 1)) ([((kd0 t : Nat) : Int)].map i64) := g6.fr (L := [p4]) (by rw [← eK7]; exact Fr.set (.inl (by simp)) (Fr.refl _ _)) (fun i hi => by have := i6 i hi; simp; omega)
      have i7 : ∀ i, i ∈ (AVal.slice a0 0 (slen .nils + 1) (slen .nils + 1) (some 1)).ids → p5 + 1 ≤ i := fun i hi => by have := i6 i hi; omega
      simp only [c27, e2, e4, eK1, u50, u51a, u51c, u51e, hkd, wc, wk, wm, b4, d4, ne5, ap, d46, eK7, d7, rwA, rwB, Nat.reduceAdd, Nat.reduceMul, Nat.reduceLeDiff, Int.reduceEq, Int.reduceLT, Int.reduceLE, Int.reduceAdd, Int.reduceSub, Int.reduceMul, ↓reduceIte, Nat.reduceEqDiff, reduceCtorEq, ↓cnd_true, ↓cnd_false]
      repeat (first | refine outs_seq ?_ | refine outs_block ?_ | refine outs_step ?_ | refine outs_stepD ?_ | refine rets_end ?_ | refine ans_end ?_)
      refine (loop27b (p2 := p2) (B := p5 + 1) ⟨by omega, by omega, by omega, by omega⟩ q7 d7 g7 i7 (by simp) (m := cnt t - 1) (M := (cnt t : Int) - 1) (by omega) (by omega) (t := t) ?_ ?_ ?_ ?_ ?_ ?_ ?_).mono ?_
      · simp [Env.set, ainit]
      · simp [Env.set]
      · simp [Env.set]
      · simp [Env.set]
      · have : knd t = 2 := hkn
        simp [Env.set, this]
      · simp [Env.set]
      · simp [Env.set]
      rintro e env K ⟨rfl, h0, h2, h4, hF, v, vk, ho, hG, hGk, hvi, hki⟩
      have op2 : K.obj p2 = some (.cells [.nils, .nils] true) := by
        rw [hF.2 p2 (by omega) (fun hx => ?_)]; exact d27
        rcases List.mem_append.1 hx with h | h
        · simp at h; omega
        · have := i7 _ h; omega
      have e1 : [((kd0 t : Nat) : Int)] ++ (pkid (cnt t - 1) (r2 t).1 (r2 t).2.1).map (·.2) = (dP t).1 := by rw [ed]; rfl
      have e2' : (pkid (cnt t - 1) (r2 t).1 (r2 t).2.1).map kx = (dP t).2 := by rw [ed]
      rw [e1] at hGk
      rw [e2'] at hG
      have l1 : (dP t).1.length < 1000 := by rw [ed]; simp [pkid_len]; omega
      have l2 : (dP t).2.length < 1000 := by rw [ed]; simp [pkid_len]; omega
      have l3 : wts (lf (dP t).1) (dP t).2 < 1000000 := by rw [ed]; exact Nat.lt_of_le_of_lt (pkid_wts _ _ _ _) (by omega)
      have u24 := tail K v vk (dP t) (Gr.li hG) (Gr.ki hGk) l2 l1 l3
      have hvl := hG.lt
      have kf : ∀ o, Keeps H (K.set p2 o) := fun o => Fr.keeps (Fr.set (L := []) (.inr (by omega)) (kH7.trans hF (fun i hi => .inr (by
        rcases List.mem_append.1 hi with h | h
        · simp at h; omega
        · have := i7 _ h; omega))))
      have lv : ∀ o, Li (K.set p2 o) v (dP t).2 := fun o => Gr.li (hG.fr (L := [p2]) (Fr.set (.inl (by simp)) (Fr.refl _ _)) (fun i hi => by have := hvi i hi; simp; omega))
      have lk : ∀ o, Ki (K.set p2 o) vk (dP t).1 := fun o => Gr.ki (hGk.fr (L := [p2]) (Fr.set (.inl (by simp)) (Fr.refl _ _)) (fun i hi => by have := hki i hi; simp; omega))
      have hsh := hG.shape
      have hshk := hGk.shape
      have eo : okD t (dP t) = (rgt (dP t).1 (dP t).2 && decide (encs (dP t).1 (dP t).2 = t)) := rfl
      obtain ⟨g, eg⟩ : ∃ g, rgt (dP t).1 (dP t).2 = g := ⟨_, rfl⟩
      obtain ⟨f, ef⟩ : ∃ f, decide (encs (dP t).1 (dP t).2 = t) = f := ⟨_, rfl⟩
      rw [eg] at u24
      rw [eo, eg, ef]
      rcases hsh with rfl | ⟨_, _, _, rfl⟩ <;> rcases hshk with rfl | ⟨_, _, _, rfl⟩ <;> cases g <;> cases f <;>
        (simp only [outs_some, h0, h2, h4, ho, op2, u24, no, ef, if_true, Bool.false_eq_true, if_false, rwA, rwB, Nat.reduceAdd, Nat.reduceMul, Nat.reduceLeDiff, Int.reduceEq, Int.reduceLT, Int.reduceLE, Int.reduceAdd, Int.reduceSub, Int.reduceMul, ↓reduceIte, Nat.reduceEqDiff, reduceCtorEq, ↓cnd_true, ↓cnd_false]; rw [rets_some]) <;>
        first
          | exact ⟨_, rfl, kf _, _, _, rfl, li_nil _, ki_nil _⟩
          | exact ⟨_, rfl, kf _, _, _, rfl, lv _, lk _⟩
  obtain ⟨u, K, h1, v, h2, h3⟩ := key
  subst h2
  exact ⟨v, K, h1, h3⟩

end Go.Proofs.Ytfmjdlahabgkpaa.Sd
end

section
/- Nodes: the reference's Decode: its loops. -/
set_option maxRecDepth 100000
set_option linter.unusedSimpArgs false
set_option linter.unusedVariables false
set_option maxHeartbeats 4000000
namespace Go.Proofs.Ytfmjdlahabgkpaa.Sd
open Go Go.Proofs.Ytfmjdlahabgkpaa.Am SdFns Go.RowKit

def b28a : ACode := (.seq (.seq (.region [⟨(some 29), (.mv (.tmp 8)), none, none⟩, ⟨(some 30), (.mv (.tmp 6)), none, none⟩, ⟨(some 31), (.bin .lss (.tmp 29) (.tmp 30)), none, none⟩]) (.cond (.tmp 31) .skip (.exit 0))) (.seq (.block 1 (.seq (.seq (.region [⟨(some 34), (.mv (.tmp 8)), none, none⟩, ⟨(some 35), (.bin .gtr (.tmp 34) (.con (.int .u64 0))), none, none⟩]) (.cond (.tmp 35) (.seq (.region [⟨(some 36), (.build [(.str []), (.str [])] []), none, none⟩, ⟨(some 9), (.new [(.str []), (.str [])]), none, none⟩, ⟨none, (.store 2 (.tmp 9) (.tmp 36)), none, none⟩]) (.seq (.region [⟨(some 38), (.load true 2 (.tmp 4)), none, none⟩, ⟨(some 39), (.call (.con (.func 61 [] [])) [(.tmp 38)]), none, none⟩, ⟨(some 37), (.mv (.tmp 39)), none, none⟩, ⟨(some 40), (.extract (.tmp 37) 0), none, none⟩, ⟨(some 41), (.extract (.tmp 37) 1), none, none⟩, ⟨none, (.store 2 (.tmp 4) (.tmp 40)), none, none⟩, ⟨(some 42), (.fieldA 0 (.tmp 9)), none, none⟩, ⟨none, (.store 1 (.tmp 42) (.tmp 41)), none, none⟩]) (.region [⟨(some 43), (.fieldA 0 (.tmp 7)), none, none⟩, ⟨(some 44), (.load false 1 (.tmp 43)), none, none⟩, ⟨(some 45), (.load true 2 (.tmp 9)), none, none⟩, ⟨(some 46), (.buildT 64 1 [(.str []), (.str [])] [(0, (2, (.tmp 45)))]), none, none⟩, ⟨(some 47), (.append 2 32 (.tmp 44) (.tmp 46)), none, none⟩, ⟨(some 48), (.fieldA 0 (.tmp 7)), none, none⟩, ⟨none, (.store 1 (.tmp 48) (.tmp 47)), none, none⟩]))) .skip)) (.seq (.region [⟨(some 10), (.mv (.con (.int .u64 0))), none, none⟩]) (.seq (.region [⟨(some 50), (.load true 2 (.tmp 4)), none, none⟩, ⟨(some 51), (.call (.con (.func 53 [] [])) [(.tmp 50), (.con (.int .i64 2))]), none, none⟩, ⟨(some 49), (.mv (.tmp 51)), none, none⟩, ⟨(some 52), (.extract (.tmp 49) 0), none, none⟩, ⟨(some 53), (.extract (.tmp 49) 1), none, none⟩, ⟨none, (.store 2 (.tmp 4) (.tmp 52)), none, none⟩, ⟨(some 10), (.mv (.tmp 53)), none, none⟩]) (.region [⟨(some 54), (.fieldA 1 (.tmp 7)), none, none⟩, ⟨(some 55), (.load false 1 (.tmp 54)), none, none⟩, ⟨(some 56), (.mv (.tmp 10)), none, none⟩, ⟨(some 57), (.toInt .i64 (.tmp 56)), none, none⟩, ⟨(some 58), (.buildS 1 [(.int .i64 0)] [(0, (1, (.tmp 57)))]), none, none⟩, ⟨(some 59), (.append 1 8 (.tmp 55) (.tmp 58)), none, none⟩, ⟨(some 60), (.fieldA 1 (.tmp 7)), none, none⟩, ⟨none, (.store 1 (.tmp 60) (.tmp 59)), none, none⟩]))))) (.region [⟨(some 32), (.mv (.tmp 8)), none, none⟩, ⟨(some 33), (.bin .add (.tmp 32) (.con (.int .u64 1))), none, none⟩, ⟨(some 8), (.mv (.tmp 33)), none, none⟩])))
def b28b : ACode := (.seq (.seq (.region [⟨(some 61), (.mv (.tmp 11)), none, none⟩, ⟨(some 62), (.mv (.tmp 6)), none, none⟩, ⟨(some 63), (.bin .lss (.tmp 61) (.tmp 62)), none, none⟩]) (.cond (.tmp 63) .skip (.exit 2))) (.seq (.block 3 (.seq (.region [⟨(some 66), (.build [(.str []), (.str [])] []), none, none⟩, ⟨(some 12), (.new [(.str []), (.str [])]), none, none⟩, ⟨none, (.store 2 (.tmp 12) (.tmp 66)), none, none⟩]) (.seq (.region [⟨(some 68), (.load true 2 (.tmp 4)), none, none⟩, ⟨(some 69), (.call (.con (.func 61 [] [])) [(.tmp 68)]), none, none⟩, ⟨(some 67), (.mv (.tmp 69)), none, none⟩, ⟨(some 70), (.extract (.tmp 67) 0), none, none⟩, ⟨(some 71), (.extract (.tmp 67) 1), none, none⟩, ⟨none, (.store 2 (.tmp 4) (.tmp 70)), none, none⟩, ⟨(some 72), (.fieldA 0 (.tmp 12)), none, none⟩, ⟨none, (.store 1 (.tmp 72) (.tmp 71)), none, none⟩]) (.seq (.region [⟨(some 74), (.load true 2 (.tmp 4)), none, none⟩, ⟨(some 75), (.call (.con (.func 61 [] [])) [(.tmp 74)]), none, none⟩, ⟨(some 73), (.mv (.tmp 75)), none, none⟩, ⟨(some 76), (.extract (.tmp 73) 0), none, none⟩, ⟨(some 77), (.extract (.tmp 73) 1), none, none⟩, ⟨none, (.store 2 (.tmp 4) (.tmp 76)), none, none⟩, ⟨(some 78), (.fieldA 1 (.tmp 12)), none, none⟩, ⟨none, (.store 1 (.tmp 78) (.tmp 77)), none, none⟩]) (.region [⟨(some 79), (.fieldA 0 (.tmp 7)), none, none⟩, ⟨(some 80), (.load false 1 (.tmp 79)), none, none⟩, ⟨(some 81), (.load true 2 (.tmp 12)), none, none⟩, ⟨(some 82), (.buildT 64 1 [(.str []), (.str [])] [(0, (2, (.tmp 81)))]), none, none⟩, ⟨(some 83), (.append 2 32 (.tmp 80) (.tmp 82)), none, none⟩, ⟨(some 84), (.fieldA 0 (.tmp 7)), none, none⟩, ⟨none, (.store 1 (.tmp 84) (.tmp 83)), none, none⟩]))))) (.region [⟨(some 64), (.mv (.tmp 11)), none, none⟩, ⟨(some 65), (.bin .add (.tmp 64) (.con (.int .u64 1))), none, none⟩, ⟨(some 11), (.mv (.tmp 65)), none, none⟩])))
theorem loop28b {H : AHeap} {p2 p4 p7 m : Nat} {t s0 : List UInt8} {e0 : Int} (hB : p2 < p4 ∧ p4 < p7 ∧ p7 < H.next) (hr : Rd H p4 s0 e0) (ho : H.obj p7 = some (.cells [.nils, .nils] true)) (hm : m ≤ 255) {env : Env}
    (h0 : env 0 = .str t) (h2 : env 2 = .ptr p2 0) (h4 : env 4 = .ptr p4 0) (h6 : env 6 = .int .u64 (m : Int)) (h7 : env 7 = .ptr p7 0) (h11 : env 11 = .int .u64 0) :
    Outs (AX A (.loop b28b) env H) fun e env' K => e = .exit 2 ∧ env' 0 = .str t ∧ env' 2 = .ptr p2 0 ∧ env' 7 = .ptr p7 0 ∧ Fr [p4, p7] H K ∧ ∃ v, K.obj p7 = some (.cells [v, .nils] true) ∧ Gr K 2 v ((pits m s0 e0).flatMap ic) ∧ ∀ i, i ∈ v.ids → H.next ≤ i := by
  refine loop_ends (I := fun (i : Nat) env' K => i ≤ m ∧ env' 0 = .str t ∧ env' 2 = .ptr p2 0 ∧ env' 4 = .ptr p4 0 ∧ env' 6 = .int .u64 (m : Int) ∧ env' 7 = .ptr p7 0 ∧ env' 11 = .int .u64 (i : Int) ∧ Fr [p4, p7] H K ∧
      ∃ v done s e, K.obj p7 = some (.cells [v, .nils] true) ∧ Gr K 2 v (done.flatMap ic) ∧ (∀ i, i ∈ v.ids → H.next ≤ i) ∧ Rd K p4 s e ∧ done.length = i ∧ pits m s0 e0 = done ++ pits (m - i) s e) (fun i => m - i) ?_ 0 env H
    ⟨Nat.zero_le _, h0, h2, h4, h6, h7, h11, Fr.refl _ _, .nils, [], s0, e0, ho, Gr.nil _ _, by simp [AVal.ids], hr, rfl, rfl⟩
  rintro i env1 K ⟨hi, h0, h2, h4, h6, h7, h11, hF, v, done, s, e, ho, hG, hv, hr, hd, hE⟩
  have hF1 := hF.1
  by_cases c : i < m
  · have c1 : decide ((i : Int) < (m : Int)) = true := by simp; omega
    have w1 : IntKind.u64.wrap ((i : Int) + 1) = ((i + 1 : Nat) : Int) := by rw [wrapU64]; omega
    rw [show m - i = m - (i + 1) + 1 by omega, pits] at hE
    obtain ⟨q, eq⟩ : ∃ q, K.next = q := ⟨_, rfl⟩
    obtain ⟨a, ea⟩ : ∃ a, (tx s e).2.2 = a := ⟨_, rfl⟩
    obtain ⟨s1, es1⟩ : ∃ s1, (tx s e).1 = s1 := ⟨_, rfl⟩
    obtain ⟨e1, ee1⟩ : ∃ e1, (tx s e).2.1 = e1 := ⟨_, rfl⟩
    obtain ⟨b, eb⟩ : ∃ b, (tx s1 e1).2.2 = b := ⟨_, rfl⟩
    obtain ⟨s2, es2⟩ : ∃ s2, (tx s1 e1).1 = s2 := ⟨_, rfl⟩
    obtain ⟨e2, ee2⟩ : ∃ e2, (tx s1 e1).2.1 = e2 := ⟨_, rfl⟩
    have u1 := fun K => U61 s e K
    have u2 := fun K => U61 s1 e1 K
    rw [ea, es1, ee1] at u1 hE
    rw [eb, es2, ee2] at u2 hE
    obtain ⟨K1, eK1⟩ : ∃ K1, (K.new (.cells [.str [], .str []] true)).set q (.cells [.str [], .str []] true) = K1 := ⟨_, rfl⟩
    have r1 : K1.obj p4 = some (.cells [.str s, .int .i64 e] true) := by rw [← eK1, set_obj, if_neg (by omega), new_obj, if_neg (by omega)]; exact hr
    have x1 : K1.obj q = some (.cells [.str [], .str []] true) := by rw [← eK1, set_obj, if_pos rfl]
    have y1 : K1.obj p7 = some (.cells [v, .nils] true) := by rw [← eK1, set_obj, if_neg (by omega), new_obj, if_neg (by omega)]; exact ho
    have n1 : K1.next = q + 1 := by rw [← eK1, set_next, new_next, eq]
    obtain ⟨K2, eK2⟩ : ∃ K2, K1.set p4 (.cells [.str s1, .int .i64 e1] true) = K2 := ⟨_, rfl⟩
    have x2 : K2.obj q = some (.cells [.str [], .str []] true) := by rw [← eK2, set_obj, if_neg (by omega)]; exact x1
    have r2 : K2.obj p4 = some (.cells [.str s1, .int .i64 e1] true) := by rw [← eK2, set_obj, if_pos rfl]
    have y2 : K2.obj p7 = some (.cells [v, .nils] true) := by rw [← eK2, set_obj, if_neg (by omega)]; exact y1
    obtain ⟨K3, eK3⟩ : ∃ K3, K2.set q (.cells [.str a, .str []] true) = K3 := ⟨_, rfl⟩
    have x3 : K3.obj q = some (.cells [.str a, .str []] true) := by rw [← eK3, set_obj, if_pos rfl]
    have r3 : K3.obj p4 = some (.cells [.str s1, .int .i64 e1] true) := by rw [← eK3, set_obj, if_neg (by omega)]; exact r2
    have y3 : K3.obj p7 = some (.cells [v, .nils] true) := by rw [← eK3, set_obj, if_neg (by omega)]; exact y2
    obtain ⟨K4, eK4⟩ : ∃ K4, K3.set p4 (.cells [.str s2, .int .i64 e2] true) = K4 := ⟨_, rfl⟩
    have x4 : K4.obj q = some (.cells [.str a, .str []] true) := by rw [← eK4, set_obj, if_neg (by omega)]; exact x3
    have r4 : K4.obj p4 = some (.cells [.str s2, .int .i64 e2] true) := by rw [← eK4, set_obj, if_pos rfl]
    have y4 : K4.obj p7 = some (.cells [v, .nils] true) := by rw [← eK4, set_obj, if_neg (by omega)]; exact y3
    obtain ⟨K5, eK5⟩ : ∃ K5, K4.set q (.cells [.str a, .str b] true) = K5 := ⟨_, rfl⟩
    have x5 : K5.obj q = some (.cells [.str a, .str b] true) := by rw [← eK5, set_obj, if_pos rfl]
    have r5 : K5.obj p4 = some (.cells [.str s2, .int .i64 e2] true) := by rw [← eK5, set_obj, if_neg (by omega)]; exact r4
    have y5 : K5.obj p7 = some (.cells [v, .nils] true) := by rw [← eK5, set_obj, if_neg (by omega)]; exact y4
    have n5 : K5.next = q + 1 := by rw [← eK5, set_next, ← eK4, set_next, ← eK3, set_next, ← eK2, set_next, n1]
    have f5 : Fr [p4] K K5 := by
      rw [← eK5, ← eK4, ← eK3, ← eK2, ← eK1]
      exact Fr.set (.inr (by omega)) (Fr.set (.inl (by simp)) (Fr.set (.inr (by omega)) (Fr.set (.inl (by simp)) (Fr.set (.inr (by omega)) (Fr.new (Fr.refl _ _))))))
    have g5 := hG.fr f5 (fun i hi => by have := hv i hi; simp; omega)
    have hsl : slen v = done.length := slen_fm ic_len (by decide) hG.sl
    obtain ⟨v', K6, ap, g6, i6, f6, _, av, hv'⟩ := push_tag (by' := 32) (64, none) g5 (by decide) (x := [.str a, .str b]) rfl (by rw [hsl]; omega)
    have f6n := f6.1
    have hv7 : p7 ∉ v.ids := fun h => by have := hv _ h; omega
    have hv4 : p4 ∉ v.ids := fun h => by have := hv _ h; omega
    have y6 : K6.obj p7 = some (.cells [v, .nils] true) := by rw [f6.2 p7 (by omega) hv7]; exact y5
    have r6 : K6.obj p4 = some (.cells [.str s2, .int .i64 e2] true) := by rw [f6.2 p4 (by omega) hv4]; exact r5
    obtain ⟨K7, eK7⟩ : ∃ K7, K6.set p7 (.cells [v', .nils] true) = K7 := ⟨_, rfl⟩
    have hF7 : Fr [p4, p7] H K7 := by
      rw [← eK7]
      exact Fr.set (.inl (by simp)) ((hF.trans f5 (fun i hi => .inl (by simp at hi; simp [hi]))).trans f6 (fun i hi => .inr (hv i hi)))
    have r7 : Rd K7 p4 s2 e2 := by
      show K7.obj p4 = _
      rw [← eK7, set_obj, if_neg (by omega)]; exact r6
    have g7 : Gr K7 2 v' ((done ++ [(a, b)]).flatMap ic) := by
      have := g6.fr (L := [p7]) (H' := K7) (by rw [← eK7]; exact Fr.set (.inl (by simp)) (Fr.refl _ _)) (fun i hi => by have := i6 i hi; simp; omega)
      rw [List.flatMap_append, List.flatMap_singleton]
      exact this
    subst hv'
    rw [n5] at ap
    simp only [b28b, h0, h2, h4, h6, h7, h11, c1, w1, eq, eK1, r1, u1, eK2, x2, eK3, r3, u2, eK4, x4, eK5, x5, y5, n5, ap, y6, eK7, rwA, rwB, Nat.reduceAdd, Nat.reduceMul, Nat.reduceLeDiff, Int.reduceEq, Int.reduceLT, Int.reduceLE, Int.reduceAdd, Int.reduceSub, Int.reduceMul, ↓reduceIte, Nat.reduceEqDiff, reduceCtorEq, ↓cnd_true, ↓cnd_false]
    rw [outs_some]
    refine .inl ⟨rfl, i + 1, by omega, by omega, by simp [Env.set, h0], by simp [Env.set, h2], by simp [Env.set, h4], by simp [Env.set, h6], by simp [Env.set, h7], by simp [Env.set], hF7, _, done ++ [(a, b)], s2, e2, ?_, g7, fun i hi => ?_, r7, by simp [hd], by rw [List.append_assoc]; exact hE⟩
    · rw [← eK7, set_obj, if_pos rfl]
    · have := i6 i hi; omega
  · have e : i = m := by omega
    subst e
    have c1 : decide ((i : Int) < (i : Int)) = false := by simp
    simp only [b28b, h6, h11, c1, rwA, rwB, Nat.reduceAdd, Nat.reduceMul, Nat.reduceLeDiff, Int.reduceEq, Int.reduceLT, Int.reduceLE, Int.reduceAdd, Int.reduceSub, Int.reduceMul, ↓reduceIte, Nat.reduceEqDiff, reduceCtorEq, ↓cnd_true, ↓cnd_false]
    rw [outs_some]
    rw [Nat.sub_self, pits, List.append_nil] at hE
    rw [hE]
    exact .inr ⟨by simp, rfl, by simp [Env.set, h0], by simp [Env.set, h2], by simp [Env.set, h7], hF, v, ho, hG, hv⟩

end Go.Proofs.Ytfmjdlahabgkpaa.Sd
end

section
/- Nodes: the reference's Decode: its loop of branches. -/
set_option maxRecDepth 100000
set_option linter.unusedSimpArgs false
set_option linter.unusedVariables false
set_option maxHeartbeats 4000000
namespace Go.Proofs.Ytfmjdlahabgkpaa.Sd
open Go Go.Proofs.Ytfmjdlahabgkpaa.Am SdFns Go.RowKit

theorem loop28a {H : AHeap} {p2 p4 p7 m : Nat} {t s0 : List UInt8} {e0 : Int} {vk0 : AVal} {k0 : List Int} (hB : p2 < p4 ∧ p4 < p7 ∧ p7 < H.next) (hr : Rd H p4 s0 e0) (ho : H.obj p7 = some (.cells [.nils, vk0] true)) (hk0 : Gr H 1 vk0 (k0.map i64)) (hk0i : ∀ i, i ∈ vk0.ids → p7 < i) (hk0l : k0.length ≤ 1) (hm0 : 1 ≤ m) (hm : m ≤ 255) {env : Env}
    (h0 : env 0 = .str t) (h2 : env 2 = .ptr p2 0) (h4 : env 4 = .ptr p4 0) (h6 : env 6 = .int .u64 (m : Int)) (h7 : env 7 = .ptr p7 0) (h8 : env 8 = .int .u64 1) :
    Outs (AX A (.loop b28a) env H) fun e env' K => e = .exit 0 ∧ env' 0 = .str t ∧ env' 2 = .ptr p2 0 ∧ env' 7 = .ptr p7 0 ∧ Fr ([p4, p7] ++ vk0.ids) H K ∧ ∃ v vk, K.obj p7 = some (.cells [v, vk] true) ∧ Gr K 2 v (((pkid (m - 1) s0 e0).map kx).flatMap ic) ∧ Gr K 1 vk ((k0 ++ (pkid (m - 1) s0 e0).map (·.2)).map i64) ∧ (∀ i, i ∈ v.ids → H.next ≤ i) ∧ ∀ i, i ∈ vk.ids → p7 < i := by
  refine loop_ends (I := fun (i : Nat) env' K => 1 ≤ i ∧ i ≤ m ∧ env' 0 = .str t ∧ env' 2 = .ptr p2 0 ∧ env' 4 = .ptr p4 0 ∧ env' 6 = .int .u64 (m : Int) ∧ env' 7 = .ptr p7 0 ∧ env' 8 = .int .u64 (i : Int) ∧ Fr ([p4, p7] ++ vk0.ids) H K ∧
      ∃ v vk done s e, K.obj p7 = some (.cells [v, vk] true) ∧ Gr K 2 v ((List.map kx done).flatMap ic) ∧ (∀ i, i ∈ v.ids → H.next ≤ i) ∧ Gr K 1 vk ((k0 ++ done.map (·.2)).map i64) ∧ (∀ i, i ∈ vk.ids → p7 < i ∧ (i ∈ vk0.ids ∨ H.next ≤ i)) ∧ (∀ i, i ∈ v.ids → i ∉ vk.ids) ∧ Rd K p4 s e ∧ done.length + 1 = i ∧ pkid (m - 1) s0 e0 = done ++ pkid (m - i) s e) (fun i => m - i) ?_ 1 env H
    ⟨Nat.le_refl _, hm0, h0, h2, h4, h6, h7, h8, Fr.refl _ _, .nils, vk0, [], s0, e0, ho, Gr.nil _ _, by simp [AVal.ids], by simpa using hk0, fun i hi => ⟨hk0i i hi, .inl hi⟩, by simp [AVal.ids], hr, rfl, rfl⟩
  rintro i env1 K ⟨hi1, hi, h0, h2, h4, h6, h7, h8, hF, v, vk, done, s, e, ho, hG, hv, hGk, hvk, hdis, hr, hd, hE⟩
  have hF1 := hF.1
  by_cases c : i < m
  · have c1 : decide ((i : Int) < (m : Int)) = true := by simp; omega
    have c0 : decide ((0 : Int) < (i : Int)) = true := by simp; omega
    have w1 : IntKind.u64.wrap ((i : Int) + 1) = ((i + 1 : Nat) : Int) := by rw [wrapU64]; omega
    rw [show m - i = m - (i + 1) + 1 by omega, pkid] at hE
    obtain ⟨q, eq⟩ : ∃ q, K.next = q := ⟨_, rfl⟩
    obtain ⟨a, ea⟩ : ∃ a, (tx s e).2.2 = a := ⟨_, rfl⟩
    obtain ⟨s1, es1⟩ : ∃ s1, (tx s e).1 = s1 := ⟨_, rfl⟩
    obtain ⟨e1, ee1⟩ : ∃ e1, (tx s e).2.1 = e1 := ⟨_, rfl⟩
    have u1 := fun K => U61 s e K
    rw [ea, es1, ee1] at u1 hE
    have u2 := fun K => U53 s1 e1 2 K
    rw [wid2] at u2
    have hy := be2_lt s1 e1
    obtain ⟨rr, err⟩ : ∃ rr, raw s1 e1 2 = rr := ⟨_, rfl⟩
    rw [err] at u2 hE hy
    obtain ⟨y, ey⟩ : ∃ y : Nat, be rr.2.2 = y := ⟨_, rfl⟩
    rw [ey] at u2 hE hy
    have w2 : IntKind.i64.wrap (y : Int) = (y : Int) := by rw [wrap_i64]; omega
    obtain ⟨K1, eK1⟩ : ∃ K1, (K.new (.cells [.str [], .str []] true)).set q (.cells [.str [], .str []] true) = K1 := ⟨_, rfl⟩
    have r1 : K1.obj p4 = some (.cells [.str s, .int .i64 e] true) := by rw [← eK1, set_obj, if_neg (by omega), new_obj, if_neg (by omega)]; exact hr
    have x1 : K1.obj q = some (.cells [.str [], .str []] true) := by rw [← eK1, set_obj, if_pos rfl]
    have y1 : K1.obj p7 = some (.cells [v, vk] true) := by rw [← eK1, set_obj, if_neg (by omega), new_obj, if_neg (by omega)]; exact ho
    have n1 : K1.next = q + 1 := by rw [← eK1, set_next, new_next, eq]
    obtain ⟨K2, eK2⟩ : ∃ K2, K1.set p4 (.cells [.str s1, .int .i64 e1] true) = K2 := ⟨_, rfl⟩
    have x2 : K2.obj q = some (.cells [.str [], .str []] true) := by rw [← eK2, set_obj, if_neg (by omega)]; exact x1
    have r2 : K2.obj p4 = some (.cells [.str s1, .int .i64 e1] true) := by rw [← eK2, set_obj, if_pos rfl]
    have y2 : K2.obj p7 = some (.cells [v, vk] true) := by rw [← eK2, set_obj, if_neg (by omega)]; exact y1
    obtain ⟨K3, eK3⟩ : ∃ K3, K2.set q (.cells [.str a, .str []] true) = K3 := ⟨_, rfl⟩
    have x3 : K3.obj q = some (.cells [.str a, .str []] true) := by rw [← eK3, set_obj, if_pos rfl]
    have r3 : K3.obj p4 = some (.cells [.str s1, .int .i64 e1] true) := by rw [← eK3, set_obj, if_neg (by omega)]; exact r2
    have y3 : K3.obj p7 = some (.cells [v, vk] true) := by rw [← eK3, set_obj, if_neg (by omega)]; exact y2
    have n3 : K3.next = q + 1 := by rw [← eK3, set_next, ← eK2, set_next, n1]
    have f3 : Fr [p4] K K3 := by
      rw [← eK3, ← eK2, ← eK1]
      exact Fr.set (.inr (by omega)) (Fr.set (.inl (by simp)) (Fr.set (.inr (by omega)) (Fr.new (Fr.refl _ _))))
    have g3 := hG.fr f3 (fun i hi => by have := hv i hi; simp; omega)
    have gk3 := hGk.fr f3 (fun i hi => by have := (hvk i hi).1; simp; omega)
    have hsl : slen v = (List.map kx done).length := slen_fm ic_len (by decide) hG.sl
    rw [List.length_map] at hsl
    obtain ⟨v', K4, ap, g4, i4, f4, _, av, hv'⟩ := push_tag (by' := 32) (64, none) g3 (by decide) (x := [.str a, .str []]) rfl (by rw [hsl]; omega)
    have f4n := f4.1
    have hv7 : p7 ∉ v.ids := fun h => by have := hv _ h; omega
    have hv4 : p4 ∉ v.ids := fun h => by have := hv _ h; omega
    have y4 : K4.obj p7 = some (.cells [v, vk] true) := by rw [f4.2 p7 (by omega) hv7]; exact y3
    have r4 : K4.obj p4 = some (.cells [.str s1, .int .i64 e1] true) := by rw [f4.2 p4 (by omega) hv4]; exact r3
    have gk4 := gk3.fr f4 (fun i hi hx => hdis i hx hi)
    obtain ⟨K5, eK5⟩ : ∃ K5, K4.set p7 (.cells [v', vk] true) = K5 := ⟨_, rfl⟩
    have n5 : K5.next = K4.next := by rw [← eK5, set_next]
    have y5 : K5.obj p7 = some (.cells [v', vk] true) := by rw [← eK5, set_obj, if_pos rfl]
    have r5 : K5.obj p4 = some (.cells [.str s1, .int .i64 e1] true) := by rw [← eK5, set_obj, if_neg (by omega)]; exact r4
    obtain ⟨K6, eK6⟩ : ∃ K6, K5.set p4 (.cells [.str rr.1, .int .i64 rr.2.1] true) = K6 := ⟨_, rfl⟩
    have n6 : K6.next = K4.next := by rw [← eK6, set_next, n5]
    have y6 : K6.obj p7 = some (.cells [v', vk] true) := by rw [← eK6, set_obj, if_neg (by omega)]; exact y5
    have r6 : Rd K6 p4 rr.1 rr.2.1 := by show K6.obj p4 = _; rw [← eK6, set_obj, if_pos rfl]
    have f46 : Fr [p4, p7] K4 K6 := by rw [← eK6, ← eK5]; exact Fr.set (.inl (by simp)) (Fr.set (.inl (by simp)) (Fr.refl _ _))
    have gk6 := gk4.fr f46 (fun i hi => by have := (hvk i hi).1; simp; omega)
    have g6 := g4.fr f46 (fun i hi => by have := i4 i hi; simp; omega)
    have hslk : slen vk = (k0 ++ done.map (·.2)).length := by have := gk6.sl.length; rw [List.length_map] at this; omega
    have hslk2 : (k0 ++ done.map (·.2)).length = k0.length + done.length := by simp
    obtain ⟨vk', K7, apk, gk7, ik7, fk7, _, ak, hvk'⟩ := Gr.push (by' := 8) gk6 (by decide) (x := [.int .i64 (y : Int)]) rfl (by rw [hslk, hslk2]; omega)
    have fk7n := fk7.1
    have hp7k : p7 ∉ vk.ids := fun h => by have := (hvk _ h).1; omega
    have hp4k : p4 ∉ vk.ids := fun h => by have := (hvk _ h).1; omega
    have ne6 : (p7 = K6.next) = False := eq_false (by omega)
    have y7 : K7.obj p7 = some (.cells [v', vk] true) := by rw [fk7.2 p7 (by omega) hp7k]; exact y6
    have r7 : Rd K7 p4 rr.1 rr.2.1 := by show K7.obj p4 = _; rw [fk7.2 p4 (by omega) hp4k]; exact r6
    obtain ⟨K8, eK8⟩ : ∃ K8, K7.set p7 (.cells [v', vk'] true) = K8 := ⟨_, rfl⟩
    have y8 : K8.obj p7 = some (.cells [v', vk'] true) := by rw [← eK8, set_obj, if_pos rfl]
    have r8 : Rd K8 p4 rr.1 rr.2.1 := by show K8.obj p4 = _; rw [← eK8, set_obj, if_neg (by omega)]; exact r7
    have hdv : ∀ i, i ∈ v'.ids → i ∉ vk.ids := fun i hi hx => by have := i4 i hi; have := hGk.lt i hx; omega
    have f78 : Fr [p7] K7 K8 := by rw [← eK8]; exact Fr.set (.inl (by simp)) (Fr.refl _ _)
    have g8 : Gr K8 2 v' ((List.map kx (done ++ [(a, (y : Int))])).flatMap ic) := by
      have := (g6.fr fk7 hdv).fr f78 (fun i hi => by have := i4 i hi; simp; omega)
      rw [List.map_append, List.flatMap_append, List.map_singleton, List.flatMap_singleton]
      exact this
    have gk8 : Gr K8 1 vk' ((k0 ++ (done ++ [(a, (y : Int))]).map (·.2)).map i64) := by
      have := gk7.fr f78 (fun i hi => by have := ik7 i hi; simp; omega)
      have e0 : (k0 ++ (done ++ [(a, (y : Int))]).map (·.2)).map i64 = (k0 ++ done.map (·.2)).map i64 ++ [.int .i64 (y : Int)] := by simp [i64]
      rw [e0]; exact this
    have hd8 : ∀ i, i ∈ v'.ids → i ∉ vk'.ids := fun i hi hx => by have := ik7 i hx; have := g4.lt i hi; omega
    have hF8 : Fr ([p4, p7] ++ vk0.ids) H K8 := by
      refine ((((hF.trans f3 (fun i hi => .inl (by simp at hi; simp [hi]))).trans f4 (fun i hi => .inr (hv i hi))).trans f46 (fun i hi => .inl (List.mem_append_left _ hi))).trans fk7 (fun i hi => ?_)).trans f78 (fun i hi => .inl (by simp at hi; simp [hi]))
      rcases (hvk i hi).2 with h | h
      · exact .inl (List.mem_append_right _ h)
      · exact .inr h
    subst hv'
    subst hvk'
    rw [n3] at ap
    rw [show K6.next = K4.next from n6] at apk ne6
    simp only [b28a, h0, h2, h4, h6, h7, h8, c1, c0, w1, w2, eq, eK1, r1, u1, eK2, x2, eK3, y3, x3, n3, ap, y4, eK5, r5, u2, eK6, y6, n6, ne6, apk, y7, eK8, rwA, rwB, Nat.reduceAdd, Nat.reduceMul, Nat.reduceLeDiff, Int.reduceEq, Int.reduceLT, Int.reduceLE, Int.reduceAdd, Int.reduceSub, Int.reduceMul, ↓reduceIte, Nat.reduceEqDiff, reduceCtorEq, ↓cnd_true, ↓cnd_false]
    rw [outs_some]
    refine .inl ⟨rfl, i + 1, by omega, by omega, by omega, by simp [Env.set, h0], by simp [Env.set, h2], by simp [Env.set, h4], by simp [Env.set, h6], by simp [Env.set, h7], by simp [Env.set], hF8, _, _, done ++ [(a, (y : Int))], rr.1, rr.2.1, y8, g8, fun i hi => ?_, gk8, fun i hi => ?_, hd8, r8, by simp [hd], by rw [List.append_assoc]; exact hE⟩
    · have := i4 i hi; omega
    · have := ik7 i hi; exact ⟨by omega, .inr (by omega)⟩
  · have e : i = m := by omega
    subst e
    have c1 : decide ((i : Int) < (i : Int)) = false := by simp
    simp only [b28a, h6, h8, c1, rwA, rwB, Nat.reduceAdd, Nat.reduceMul, Nat.reduceLeDiff, Int.reduceEq, Int.reduceLT, Int.reduceLE, Int.reduceAdd, Int.reduceSub, Int.reduceMul, ↓reduceIte, Nat.reduceEqDiff, reduceCtorEq, ↓cnd_true, ↓cnd_false]
    rw [outs_some]
    rw [Nat.sub_self, pkid, List.append_nil] at hE
    rw [hE]
    exact .inr ⟨by simp, rfl, by simp [Env.set, h0], by simp [Env.set, h2], by simp [Env.set, h7], hF, v, vk, ho, hG, hGk, hv, fun i hi => (hvk i hi).1⟩

end Go.Proofs.Ytfmjdlahabgkpaa.Sd
end

section
/- Nodes: the reference's Decode. -/
set_option maxRecDepth 100000
set_option linter.unusedSimpArgs false
set_option linter.unusedVariables false
set_option maxHeartbeats 4000000
namespace Go.Proofs.Ytfmjdlahabgkpaa.Sd
open Go Go.Proofs.Ytfmjdlahabgkpaa.Am SdFns Go.RowKit

def dR (t : List UInt8) : List Int × List It := if knd t = 2 ∧ cnt t = 0 then ([], []) else dP t

theorem U28 (t : List UInt8) (H : AHeap) : ∃ v K, AC A 28 [.str t] H = some (.tuple [v, .int .i64 (if okD t (dR t) then 0 else 19)], K) ∧ Nd H K v (if okD t (dR t) then dR t else ([], [])) := by
  obtain ⟨p2, e2⟩ : ∃ p2, H.next = p2 := ⟨_, rfl⟩
  obtain ⟨p4, e4⟩ : ∃ p4, p2 + 1 = p4 := ⟨_, rfl⟩
  obtain ⟨p7, e7⟩ : ∃ p7, p4 + 1 = p7 := ⟨_, rfl⟩
  have u1 := fun K => U53 t 0 1 K
  rw [wid1] at u1
  have u1a : ∀ K, AC A 53 [.agg [.str t, .int .i64 0], .int .i64 1] K = some (.tuple [.agg [.str (raw t 0 1).1, .int .i64 (raw t 0 1).2.1], .int .u64 (knd t : Int)], K) := u1
  have u2 := fun K => U53 (raw t 0 1).1 (raw t 0 1).2.1 1 K
  rw [wid1] at u2
  have u2a : ∀ K, AC A 53 [.agg [.str (raw t 0 1).1, .int .i64 (raw t 0 1).2.1], .int .i64 1] K = some (.tuple [.agg [.str (r1 t).1, .int .i64 (r1 t).2.1], .int .u64 (cnt t : Int)], K) := u2
  have u3 := fun K => U53 (r1 t).1 (r1 t).2.1 2 K
  rw [wid2] at u3
  have u3a : ∀ K, AC A 53 [.agg [.str (r1 t).1, .int .i64 (r1 t).2.1], .int .i64 2] K = some (.tuple [.agg [.str (r2 t).1, .int .i64 (r2 t).2.1], .int .u64 (kd0 t : Int)], K) := u3
  obtain ⟨K2, eK2⟩ : ∃ K2, ((H.new (.cells [.nils, .nils] true)).new (.cells [.str [], .int .i64 0] true)).set p4 (.cells [.str (raw t 0 1).1, .int .i64 (raw t 0 1).2.1] true) = K2 := ⟨_, rfl⟩
  have n2 : K2.next = p7 := by rw [← eK2, set_next, new_next, new_next]; omega
  have x2 : K2.obj p4 = some (.cells [.str (raw t 0 1).1, .int .i64 (raw t 0 1).2.1] true) := by rw [← eK2, set_obj, if_pos rfl]
  have y2 : K2.obj p2 = some (.cells [.nils, .nils] true) := by rw [← eK2, set_obj, if_neg (by omega), new_obj, new_next, if_neg (by omega), new_obj, if_pos e2.symm]
  have k2 : Keeps H K2 := by rw [← eK2]; exact Keeps.set' (by omega) (Keeps.new' (Keeps.new' (Keeps.refl _)))
  obtain ⟨K3, eK3⟩ : ∃ K3, K2.set p4 (.cells [.str (r1 t).1, .int .i64 (r1 t).2.1] true) = K3 := ⟨_, rfl⟩
  have n3 : K3.next = p7 := by rw [← eK3, set_next, n2]
  obtain ⟨K4, eK4⟩ : ∃ K4, (K3.new (.cells [.nils, .nils] true)).set p7 (.cells [.nils, .nils] true) = K4 := ⟨_, rfl⟩
  have n4 : K4.next = p7 + 1 := by rw [← eK4, set_next, new_next, n3]
  have x4 : K4.obj p4 = some (.cells [.str (r1 t).1, .int .i64 (r1 t).2.1] true) := by rw [← eK4, set_obj, if_neg (by omega), new_obj, if_neg (by omega), ← eK3, set_obj, if_pos rfl]
  have y4 : K4.obj p2 = some (.cells [.nils, .nils] true) := by rw [← eK4, set_obj, if_neg (by omega), new_obj, if_neg (by omega), ← eK3, set_obj, if_neg (by omega)]; exact y2
  have z4 : K4.obj p7 = some (.cells [.nils, .nils] true) := by rw [← eK4, set_obj, if_pos rfl]
  have k4 : Keeps H K4 := by rw [← eK4, ← eK3]; exact Keeps.set' (by omega) (Keeps.new' (Keeps.set' (by omega) k2))
  have hk := knd_lt t
  have hc := cnt_lt t
  have tail : ∀ (K : AHeap) (s q : AVal) (d : List Int × List It), Li K s d.2 → Ki K q d.1 → d.2.length < 1000 → d.1.length < 1000 → wts (lf d.1) d.2 < 1000000 → AC A 26 [.agg [s, q]] K = some (.tuple [.str (encs d.1 d.2), .int .i64 (no (rgt d.1 d.2))], K) :=
    fun K s q d h1 h2 h3 h4 h5 => U26 h2 h1 (by omega) (by omega) (by omega)
  have key : Rets (AC A 28 [.str t] H) fun u K => ∃ v, u = .tuple [v, .int .i64 (if okD t (dR t) then 0 else 19)] ∧ Nd H K v (if okD t (dR t) then dR t else ([], [])) := by
    rw [s_fn (A := A) (f := 28) (x := SdFns.c28) rfl rfl rfl]
    have eo : okD t (dR t) = (rgt (dR t).1 (dR t).2 && decide (encs (dR t).1 (dR t).2 = t)) := rfl
    cases hkd : decide ((knd t : Int) = 2)
    · have hkn : ¬ knd t = 2 := by simp at hkd; omega
      have ed : dR t = ([], pits (cnt t) (r1 t).1 (r1 t).2.1) := by unfold dR dP; rw [if_neg (fun h => hkn h.1), if_neg hkn]
      simp only [c28, e2, e4, u1a, eK2, x2, u2a, eK3, n3, eK4, hkd, rwA, rwB, Nat.reduceAdd, Nat.reduceMul, Nat.reduceLeDiff, Int.reduceEq, Int.reduceLT, Int.reduceLE, Int.reduceAdd, Int.reduceSub, Int.reduceMul, ↓reduceIte, Nat.reduceEqDiff, reduceCtorEq, ↓cnd_true, ↓cnd_false]
      repeat (first | refine outs_seq ?_ | refine outs_block ?_ | refine outs_step ?_ | refine outs_stepD ?_ | refine rets_end ?_ | refine ans_end ?_)
      refine (loop28b (p2 := p2) (p4 := p4) (p7 := p7) ⟨by omega, by omega, by omega⟩ x4 z4 (m := cnt t) (by omega) (t := t) ?_ ?_ ?_ ?_ ?_ ?_).mono ?_
      · simp [Env.set, ainit]
      · simp [Env.set]
      · simp [Env.set]
      · simp [Env.set]
      · simp [Env.set]
      · simp [Env.set]
      rintro e env K ⟨rfl, h0, h2, h7, hF, v, ho, hG, hv⟩
      have op2 : K.obj p2 = some (.cells [.nils, .nils] true) := by rw [hF.2 p2 (by omega) (by simp; omega)]; exact y4
      have u24 := tail K v .nils (dR t) (by rw [ed]; exact Gr.li hG) (by rw [ed]; exact ki_nil K) (by rw [ed]; show (pits _ _ _).length < 1000; rw [pits_len]; omega) (by rw [ed]; simp) (by rw [ed]; exact Nat.lt_of_le_of_lt (pits_wts _ _ _ _) (by omega))
      have hsh := hG.shape
      have kf : ∀ o, Keeps H (K.set p2 o) := fun o => Fr.keeps (Fr.set (L := []) (.inr (by omega)) (((Fr.of (L := []) k4).trans (M := [p4, p7]) hF (fun i hi => .inr (by simp at hi; omega)))))
      have lv : Li (K.set p2 (.cells [v, .nils] true)) v (dR t).2 := by
        rw [ed]
        exact Gr.li (hG.fr (L := [p2]) (Fr.set (.inl (by simp)) (Fr.refl _ _)) (fun i hi => by have := hv i hi; simp; omega))
      have hd1 : (dR t).1 = [] := by rw [ed]
      obtain ⟨g, eg⟩ : ∃ g, rgt (dR t).1 (dR t).2 = g := ⟨_, rfl⟩
      obtain ⟨f, ef⟩ : ∃ f, decide (encs (dR t).1 (dR t).2 = t) = f := ⟨_, rfl⟩
      rw [eg] at u24
      rw [eo, eg, ef]
      rcases hsh with rfl | ⟨_, _, _, rfl⟩ <;> cases g <;> cases f <;>
        (simp only [outs_some, h0, h2, h7, ho, op2, u24, no, ef, if_true, Bool.false_eq_true, if_false, rwA, rwB, Nat.reduceAdd, Nat.reduceMul, Nat.reduceLeDiff, Int.reduceEq, Int.reduceLT, Int.reduceLE, Int.reduceAdd, Int.reduceSub, Int.reduceMul, ↓reduceIte, Nat.reduceEqDiff, reduceCtorEq, ↓cnd_true, ↓cnd_false]; rw [rets_some]) <;>
        first
          | exact ⟨_, rfl, kf _, _, _, rfl, li_nil _, ki_nil _⟩
          | exact ⟨_, rfl, kf _, _, _, rfl, lv, by rw [hd1]; exact ki_nil _⟩
    have hkn : knd t = 2 := by simp at hkd; omega
    by_cases hc0 : cnt t = 0
    · have ed : dR t = ([], []) := by unfold dR; rw [if_pos ⟨hkn, hc0⟩]
      have rg : rgt [] [] = false := by decide
      have u24 := tail K4 .nils .nils ([], []) (li_nil _) (ki_nil _) (by simp) (by simp) (by simp [wts])
      rw [rg] at u24
      have eo2 : okD t (dR t) = false := by rw [eo, ed, rg]; rfl
      have kf : ∀ o, Keeps H (K4.set p2 o) := fun o => Keeps.set' (by omega) k4
      rw [eo2]
      simp only [c28, e2, e4, u1a, eK2, x2, u2a, eK3, n3, eK4, hkd, hc0, rwA, rwB, Nat.reduceAdd, Nat.reduceMul, Nat.reduceLeDiff, Int.reduceEq, Int.reduceLT, Int.reduceLE, Int.reduceAdd, Int.reduceSub, Int.reduceMul, ↓reduceIte, Nat.reduceEqDiff, reduceCtorEq, ↓cnd_true, ↓cnd_false]
      repeat (first | refine outs_seq ?_ | refine outs_block ?_ | refine outs_step ?_ | refine outs_stepD ?_ | refine rets_end ?_ | refine ans_end ?_)
      rw [s_loop]
      have c1 : decide ((0 : Int) < ((0 : Nat) : Int)) = false := by decide
      simp only [hc0, c1, y4, z4, u24, no, outs_some, rets_some, if_true, Bool.false_eq_true, if_false, rwA, rwB, Nat.reduceAdd, Nat.reduceMul, Nat.reduceLeDiff, Int.reduceEq, Int.reduceLT, Int.reduceLE, Int.reduceAdd, Int.reduceSub, Int.reduceMul, ↓reduceIte, Nat.reduceEqDiff, reduceCtorEq, ↓cnd_true, ↓cnd_false]
      exact ⟨_, rfl, kf _, _, _, rfl, li_nil _, ki_nil _⟩
    · have ed0 : dR t = dP t := by unfold dR; rw [if_neg (fun h => hc0 h.2)]
      have ed : dR t = ((kd0 t : Int) :: (pkid (cnt t - 1) (r2 t).1 (r2 t).2.1).map (·.2), (pkid (cnt t - 1) (r2 t).1 (r2 t).2.1).map kx) := by rw [ed0]; unfold dP; rw [if_pos hkn]
      have hk0 := kd0_lt t
      have wk : IntKind.i64.wrap (kd0 t : Int) = (kd0 t : Int) := by rw [wrap_i64]; omega
      have w1 : IntKind.u64.wrap (0 + 1) = 1 := by decide
      have c1 : decide ((0 : Int) < (cnt t : Int)) = true := by simp; omega
      obtain ⟨K5, eK5⟩ : ∃ K5, K4.set p4 (.cells [.str (r2 t).1, .int .i64 (r2 t).2.1] true) = K5 := ⟨_, rfl⟩
      have n5 : K5.next = p7 + 1 := by rw [← eK5, set_next, n4]
      have x5 : K5.obj p4 = some (.cells [.str (r2 t).1, .int .i64 (r2 t).2.1] true) := by rw [← eK5, set_obj, if_pos rfl]
      have y5 : K5.obj p2 = some (.cells [.nils, .nils] true) := by rw [← eK5, set_obj, if_neg (by omega)]; exact y4
      have z5 : K5.obj p7 = some (.cells [.nils, .nils] true) := by rw [← eK5, set_obj, if_neg (by omega)]; exact z4
      have ne5 : (p7 = K5.next) = False := eq_false (by omega)
      obtain ⟨v0, K6, ap, g6, i6, f6, _, a0, hv0⟩ := Gr.push (by' := 8) (Gr.nil K5 1) (by decide) (x := [.int .i64 (kd0 t : Int)]) rfl (by decide)
      subst hv0
      have f6n := f6.1
      have x6 : K6.obj p4 = some (.cells [.str (r2 t).1, .int .i64 (r2 t).2.1] true) := by rw [f6.2 p4 (by omega) (by simp [AVal.ids])]; exact x5
      have y6 : K6.obj p2 = some (.cells [.nils, .nils] true) := by rw [f6.2 p2 (by omega) (by simp [AVal.ids])]; exact y5
      have z6 : K6.obj p7 = some (.cells [.nils, .nils] true) := by rw [f6.2 p7 (by omega) (by simp [AVal.ids])]; exact z5
      obtain ⟨K7, eK7⟩ : ∃ K7, K6.set p7 (.cells [.nils, .slice a0 0 (slen .nils + 1) (slen .nils + 1) (some 1)] true) = K7 := ⟨_, rfl⟩
      have n7 : K7.next = K6.next := by rw [← eK7, set_next]
      have x7 : Rd K7 p4 (r2 t).1 (r2 t).2.1 := by show K7.obj p4 = _; rw [← eK7, set_obj, if_neg (by omega)]; exact x6
      have y7 : K7.obj p2 = some (.cells [.nils, .nils] true) := by rw [← eK7, set_obj, if_neg (by omega)]; exact y6
      have z7 : K7.obj p7 = some (.cells [.nils, .slice a0 0 (slen .nils + 1) (slen .nils + 1) (some 1)] true) := by rw [← eK7, set_obj, if_pos rfl]
      have k7 : Fr [] H K7 := by
        rw [← eK7]
        refine Fr.set (.inr (by omega)) (Fr.trans (M := []) ?_ f6 (by simp [AVal.ids]))
        rw [← eK5]
        exact Fr.set (.inr (by omega)) (Fr.of k4)
      have g7 : Gr K7 1 (.slice a0 0 (slen .nils + 1) (slen .nils + 1) (some 1)) ([((kd0 t : Nat) : Int)].map i64) := g6.fr (L := [p7]) (by rw [← eK7]; exact Fr.set (.inl (by simp)) (Fr.refl _ _)) (fun i hi => by have := i6 i hi; simp; omega)
      have i7 : ∀ i, i ∈ (AVal.slice a0 0 (slen .nils + 1) (slen .nils + 1) (some 1)).ids → p7 < i := fun i hi => by have := i6 i hi; omega
      simp only [c28, e2, e4, u1a, eK2, x2, u2a, eK3, n3, eK4, hkd, rwA, rwB, Nat.reduceAdd, Nat.reduceMul, Nat.reduceLeDiff, Int.reduceEq, Int.reduceLT, Int.reduceLE, Int.reduceAdd, Int.reduceSub, Int.reduceMul, ↓reduceIte, Nat.reduceEqDiff, reduceCtorEq, ↓cnd_true, ↓cnd_false]
      repeat (first | refine outs_seq ?_ | refine outs_block ?_ | refine outs_step ?_ | refine outs_stepD ?_ | refine rets_end ?_ | refine ans_end ?_)
      rw [s_loop]
      simp only [c1, w1, wk, x4, u3a, eK5, z5, ne5, ap, z6, eK7, rwA, rwB, Nat.reduceAdd, Nat.reduceMul, Nat.reduceLeDiff, Int.reduceEq, Int.reduceLT, Int.reduceLE, Int.reduceAdd, Int.reduceSub, Int.reduceMul, ↓reduceIte, Nat.reduceEqDiff, reduceCtorEq, ↓cnd_true, ↓cnd_false]
      repeat (first | refine outs_seq ?_ | refine outs_block ?_ | refine outs_step ?_ | refine outs_stepD ?_ | refine rets_end ?_ | refine ans_end ?_)
      refine (loop28a (p2 := p2) (p4 := p4) (p7 := p7) ⟨by omega, by omega, by omega⟩ x7 z7 g7 i7 (by simp) (m := cnt t) (by omega) (by omega) (t := t) ?_ ?_ ?_ ?_ ?_ ?_).mono ?_
      · simp [Env.set, ainit]
      · simp [Env.set]
      · simp [Env.set]
      · simp [Env.set]
      · simp [Env.set]
      · simp [Env.set, show IntKind.u64.wrap 1 = 1 from by decide]
      rintro e env K ⟨rfl, h0, h2, h7, hF, v, vk, ho, hG, hGk, hvi, hki⟩
      have op2 : K.obj p2 = some (.cells [.nils, .nils] true) := by
        rw [hF.2 p2 (by omega) (fun hx => ?_)]; exact y7
        rcases List.mem_append.1 hx with h | h
        · simp at h; omega
        · have := i7 _ h; omega
      have e1 : [((kd0 t : Nat) : Int)] ++ (pkid (cnt t - 1) (r2 t).1 (r2 t).2.1).map (·.2) = (dR t).1 := by rw [ed]; rfl
      have e2' : (pkid (cnt t - 1) (r2 t).1 (r2 t).2.1).map kx = (dR t).2 := by rw [ed]
      rw [e1] at hGk
      rw [e2'] at hG
      have l1 : (dR t).1.length < 1000 := by rw [ed]; simp [pkid_len]; omega
      have l2 : (dR t).2.length < 1000 := by rw [ed]; simp [pkid_len]; omega
      have l3 : wts (lf (dR t).1) (dR t).2 < 1000000 := by rw [ed]; exact Nat.lt_of_le_of_lt (pkid_wts _ _ _ _) (by omega)
      have u24 := tail K v vk (dR t) (Gr.li hG) (Gr.ki hGk) l2 l1 l3
      have kf : ∀ o, Keeps H (K.set p2 o) := fun o => Fr.keeps (Fr.set (L := []) (.inr (by omega)) (k7.trans hF (fun i hi => .inr (by
        rcases List.mem_append.1 hi with h | h
        · simp at h; omega
        · have := i7 _ h; omega))))
      have lv : ∀ o, Li (K.set p2 o) v (dR t).2 := fun o => Gr.li (hG.fr (L := [p2]) (Fr.set (.inl (by simp)) (Fr.refl _ _)) (fun i hi => by have := hvi i hi; simp; omega))
      have lk : ∀ o, Ki (K.set p2 o) vk (dR t).1 := fun o => Gr.ki (hGk.fr (L := [p2]) (Fr.set (.inl (by simp)) (Fr.refl _ _)) (fun i hi => by have := hki i hi; simp; omega))
      have hsh := hG.shape
      have hshk := hGk.shape
      obtain ⟨g, eg⟩ : ∃ g, rgt (dR t).1 (dR t).2 = g := ⟨_, rfl⟩
      obtain ⟨f, ef⟩ : ∃ f, decide (encs (dR t).1 (dR t).2 = t) = f := ⟨_, rfl⟩
      rw [eg] at u24
      rw [eo, eg, ef]
      rcases hsh with rfl | ⟨_, _, _, rfl⟩ <;> rcases hshk with rfl | ⟨_, _, _, rfl⟩ <;> cases g <;> cases f <;>
        (simp only [outs_some, h0, h2, h7, ho, op2, u24, no, ef, if_true, Bool.false_eq_true, if_false, rwA, rwB, Nat.reduceAdd, Nat.reduceMul, Nat.reduceLeDiff, Int.reduceEq, Int.reduceLT, Int.reduceLE, Int.reduceAdd, Int.reduceSub, Int.reduceMul, ↓reduceIte, Nat.reduceEqDiff, reduceCtorEq, ↓cnd_true, ↓cnd_false]; rw [rets_some]) <;>
        first
          | exact ⟨_, rfl, kf _, _, _, rfl, li_nil _, ki_nil _⟩
          | exact ⟨_, rfl, kf _, _, _, rfl, lv _, lk _⟩
  obtain ⟨u, K, h1, v, h2, h3⟩ := key
  subst h2
  exact ⟨v, K, h1, h3⟩

end Go.Proofs.Ytfmjdlahabgkpaa.Sd
end

section
/- Nodes: the law of what they tell. -/
set_option maxRecDepth 100000
set_option linter.unusedSimpArgs false
set_option linter.unusedVariables false
set_option maxHeartbeats 4000000
namespace Go.Proofs.Ytfmjdlahabgkpaa.Sd
open Go Go.Proofs.Ytfmjdlahabgkpaa.Am SdFns Go.RowKit

theorem raw_one (c : UInt8) (r : List UInt8) : raw (c :: r) 0 1 = (r, 0, [c]) := by
  unfold raw
  rw [if_neg (by decide), if_neg (by decide), if_neg (by simp; omega)]
  rfl
theorem enc_head (x : Int) : ∃ r, enc [x] [] = 2 :: 1 :: r := ⟨num 2 x.toNat, by
  unfold enc
  have : lf [x] = false := rfl
  rw [this]
  simp only [Bool.false_eq_true, if_false]
  rw [show [x].length = 1 from rfl, num1_is]
  simp⟩
theorem same_dec (t : List UInt8) : okD t (dP t) = okD t (dR t) ∧ (okD t (dR t) = true → dP t = dR t) := by
  by_cases h : knd t = 2 ∧ cnt t = 0
  · have hR : dR t = ([], []) := by unfold dR; rw [if_pos h]
    have h1 : okD t (dR t) = false := by
      rw [hR]
      have rg : rgt [] [] = false := by decide
      unfold okD
      rw [rg]; rfl
    have hP : dP t = ([(kd0 t : Int)], []) := by unfold dP; rw [if_pos h.1, h.2]; rfl
    have h2 : okD t (dP t) = false := by
      rw [hP]
      cases ho : okD t ([(kd0 t : Int)], []) with
      | false => rfl
      | true =>
        exfalso
        unfold okD at ho
        simp only [Bool.and_eq_true, decide_eq_true_eq] at ho
        obtain ⟨hg, he⟩ := ho
        unfold encs at he
        rw [if_pos hg] at he
        obtain ⟨r, hr⟩ := enc_head (kd0 t : Int)
        rw [hr] at he
        have : ∃ r', t = 2 :: 1 :: r' := by
          unfold pad at he
          split at he
          · exact ⟨_, he.symm⟩
          · exact ⟨_, he.symm⟩
        obtain ⟨r', hr'⟩ := this
        have hc := h.2
        unfold cnt r1 at hc
        rw [hr', raw_one] at hc
        simp only at hc
        rw [raw_one] at hc
        exact absurd (show be [1] = 0 from hc) (by decide)
    exact ⟨h2.trans h1.symm, fun h' => by rw [h1] at h'; cases h'⟩
  · have hR : dR t = dP t := by unfold dR; rw [if_neg h]
    rw [hR]
    exact ⟨rfl, fun _ => rfl⟩

/-! ### The arguments -/
theorem arg_node {H : AHeap} {v : AVal} {d : Dat} (h : AArg Try.prog H 48 v d) : ∃ s q k l, v = .agg [s, q] ∧ Li H s l ∧ Ki H q k ∧ l.length ≤ maxLen ∧ k.length ≤ maxLen := by
  obtain ⟨cs, hs, hv⟩ := arg_sh (f := 9) (sh := .st 2 (.fld 0 1 (.slice 2 32 (.st 2 (.fld 0 1 .str (.fld 1 1 .str .fend)))) (.fld 1 1 (.slice 1 8 (.int .i64)) .fend))) (by kernel_rfl) h
  obtain ⟨hl, h0, h1, _⟩ := hs
  obtain ⟨s, l, a1, a2, a3, a4, a5, a6, a7⟩ := shp_list (α := It) (enc := ic) h0 (fun c hc => by
    obtain ⟨hl, ⟨x, e1, _⟩, ⟨y, e2, _⟩, _⟩ := hc
    match c, hl with
    | [c0, c1], _ =>
      simp at e1 e2
      subst e1 e2
      exact ⟨(x, y), rfl⟩)
  obtain ⟨q, k, b1, b2, b3, b4, b5, b6, b7⟩ := shp_list (α := Int) (enc := fun x => [i64 x]) h1 (fun c hc => by
    obtain ⟨n, rfl, _⟩ := hc
    exact ⟨n, rfl⟩)
  have hv := hv.2 rfl
  match cs, hl with
  | [c0, c1], _ =>
    simp at a1 b1
    subst a1 b1
    rw [flatMap_one] at b2
    exact ⟨_, _, k, l, hv, ⟨a2, a4⟩, ⟨b2, b4⟩, a6, b6⟩

theorem wt_small {b : Bool} {l : List It} (h : l.all smi = true) : wts b l ≤ l.length * 602 := by
  induction l with
  | nil => simp [wts]
  | cons x l ih =>
    rw [List.all_cons, Bool.and_eq_true] at h
    have := ih h.2
    unfold wts at this ⊢
    rw [List.map_cons, List.sum_cons, List.length_cons]
    have hx := h.1
    unfold smi at hx
    simp only [Bool.and_eq_true, decide_eq_true_eq] at hx
    have : wt b x ≤ 602 := by unfold wt; split <;> omega
    omega

theorem run6 {H : AHeap} {s q : AVal} {k : List Int} {l : List It} {t : List UInt8} (hq : Ki H q k) (hl : Li H s l) (hn : l.length ≤ maxLen) : ∃ H', AC A 6 [.agg [s, q], .str t] H = some (.bool true, H') := by
  have hmx : maxLen = 9223372036854775807 := rfl
  obtain ⟨p, ep⟩ : ∃ p, H.next = p := ⟨_, rfl⟩
  obtain ⟨K0, eK0⟩ : ∃ K0, H.new (.cells [s, q] true) = K0 := ⟨_, rfl⟩
  have k0 : Keeps H K0 := by rw [← eK0]; exact Keeps.new _ _
  have o0 : K0.obj p = some (.cells [s, q] true) := by rw [← eK0, new_obj, if_pos ep.symm]
  have n0 : K0.next = p + 1 := by rw [← eK0, new_next, ep]
  have u22 := U22 (hq.keeps k0) (hl.keeps k0) (by omega)
  have u23 := fun K => U23 K
  have key : Rets (AC A 6 [.agg [s, q], .str t] H) fun u K => u = .bool true := by
    rw [s_fn (A := A) (f := 6) (x := SdFns.c6) rfl rfl rfl]
    cases hs : small k l
    · rw [hs] at u22
      simp only [c6, ep, eK0, o0, u22, u23, rwA, rwB, Nat.reduceAdd, Nat.reduceMul, Nat.reduceLeDiff, Int.reduceEq, Int.reduceLT, Int.reduceLE, Int.reduceAdd, Int.reduceSub, Int.reduceMul, ↓reduceIte, Nat.reduceEqDiff, reduceCtorEq, ↓cnd_true, ↓cnd_false]
      rw [rets_some]
    rw [hs] at u22
    cases ht : decide ((4096 : Int) < (t.length : Int))
    rotate_left
    · simp only [c6, ep, eK0, o0, u22, u23, ht, rwA, rwB, Nat.reduceAdd, Nat.reduceMul, Nat.reduceLeDiff, Int.reduceEq, Int.reduceLT, Int.reduceLE, Int.reduceAdd, Int.reduceSub, Int.reduceMul, ↓reduceIte, Nat.reduceEqDiff, reduceCtorEq, ↓cnd_true, ↓cnd_false]
      rw [rets_some]
    unfold small at hs
    rw [Bool.and_eq_true, Bool.and_eq_true, decide_eq_true_eq, decide_eq_true_eq] at hs
    obtain ⟨hs1, hs2, hs3⟩ := hs
    have hw := wt_small (b := lf k) hs1
    have u25 := U25 (hq.keeps k0) (hl.keeps k0)
    have u24 := U24 (hq.keeps k0) (hl.keeps k0) (by omega) (by omega) (by omega)
    have u26 := U26 (hq.keeps k0) (hl.keeps k0) (by omega) (by omega) (by omega)
    obtain ⟨v1, K1, u27, N1⟩ := U27 t K0
    obtain ⟨s1, q1, rfl, l1, j1⟩ := N1.v
    have kk1 := N1.k
    obtain ⟨K2, eK2⟩ : ∃ K2, (K1.new (.cells [.nils, .nils] true)).set K1.next (.cells [s1, q1] true) = K2 := ⟨_, rfl⟩
    have k2 : Keeps K1 K2 := by rw [← eK2]; exact Keeps.set' (Nat.le_refl _) (Keeps.new' (Keeps.refl _))
    have o2 : K2.obj K1.next = some (.cells [s1, q1] true) := by rw [← eK2, set_obj, if_pos rfl]
    have n2 : K2.next = K1.next + 1 := by rw [← eK2, set_next, new_next]
    obtain ⟨v2, K3, u28, N3⟩ := U28 t K2
    obtain ⟨s2, q2, rfl, l2, j2⟩ := N3.v
    have kk3 := N3.k
    obtain ⟨K4, eK4⟩ : ∃ K4, (K3.new (.cells [.nils, .nils] true)).set K3.next (.cells [s2, q2] true) = K4 := ⟨_, rfl⟩
    have k4 : Keeps K3 K4 := by rw [← eK4]; exact Keeps.set' (Nat.le_refl _) (Keeps.new' (Keeps.refl _))
    have o4 : K4.obj K3.next = some (.cells [s2, q2] true) := by rw [← eK4, set_obj, if_pos rfl]
    have kA : Keeps K1 K4 := k2.trans (kk3.trans k4)
    have kB : Keeps K0 K4 := kk1.trans kA
    have kH : Keeps H K4 := k0.trans kB
    have h31 := kk3.1
    have p9 : K4.obj K1.next = some (.cells [s1, q1] true) := by rw [k4.2 _ (by omega), kk3.2 _ (by omega)]; exact o2
    have pp : K4.obj p = some (.cells [s, q] true) := by rw [kB.2 p (by omega)]; exact o0
    have pp1 : K1.obj p = some (.cells [s, q] true) := by rw [kk1.2 p (by omega)]; exact o0
    obtain ⟨sd1, sd2⟩ := same_dec t
    have hd : (if okD t (dP t) then dP t else ([], [])) = (if okD t (dR t) then dR t else ([], [])) := by
      rw [sd1]
      cases ho : okD t (dR t)
      · rfl
      · rw [sd2 ho]
    rw [hd] at l1 j1
    rw [sd1] at u27
    obtain ⟨d, ed⟩ : ∃ d, (if okD t (dR t) then dR t else ([], [])) = d := ⟨_, rfl⟩
    rw [ed] at l1 j1 l2 j2
    have hdl : d.2.length < 1000000000 ∧ d.1.length < 1000000000 := by
      rw [← ed]
      split
      · have e2 : dR t = ([], []) ∨ dR t = dP t := by unfold dR; split; exact .inl rfl; exact .inr rfl
        have hc := cnt_lt t
        rcases e2 with e2 | e2
        · rw [e2]; simp
        · rw [e2]
          unfold dP
          split
          · simp [pkid_len]; omega
          · simp [pits_len]; omega
      · simp
    have u25b := U25 (hq.keeps kH) (hl.keeps kH)
    have u29 := U29 (hq.keeps kH) (hl.keeps kH) (by omega) (by omega) (by omega)
    have u30 := U30 (j1.keeps kA) (l1.keeps kA) (j2.keeps k4) (l2.keeps k4) hdl.1 hdl.2
    simp only [decide_true, Bool.and_true] at u30
    have u31 := U31 (hq.keeps kH) (hl.keeps kH) (by omega) (by omega)
    have u32 := U32 (hq.keeps kH) (hl.keeps kH) (by omega) (by omega)
    have u33 := U33 (hq.keeps kH) (hl.keeps kH) (by omega) (by omega) (by omega)
    obtain ⟨w, ew⟩ : ∃ w : Int, (if okD t (dR t) then (0 : Int) else 19) = w := ⟨_, rfl⟩
    rw [ew] at u27 u28
    have no1 : no true = 0 := rfl
    have no0 : no false = 18 := rfl
    cases hr : rgt k l <;> rw [hr] at u24 u26 u29 u33 <;> simp only [no1, no0] at u24 u26 u29 <;>
      simp only [c6, ep, eK0, o0, u22, u23, ht, u25, u24, u26, u27, eK2, o2, u28, eK4, o4, p9, pp, pp1, u25b, u29, u30, u31, u32, u33, decide_true, rwA, rwB, Nat.reduceAdd, Nat.reduceMul, Nat.reduceLeDiff, Int.reduceEq, Int.reduceLT, Int.reduceLE, Int.reduceAdd, Int.reduceSub, Int.reduceMul, ↓reduceIte, Nat.reduceEqDiff, reduceCtorEq, ↓cnd_true, ↓cnd_false] <;>
      rw [rets_some]
  obtain ⟨u, K, h1, h2⟩ := key
  subst h2
  exact ⟨K, h1⟩

theorem law6 (H : AHeap) (args : List AVal) (dats : List Dat) (h : AArgs Try.prog H [48, 9] args dats) : ∃ k H', acall A k 6 args H = some (.bool true, H') := by
  obtain ⟨v0, r, d0, ds, rfl, rfl, h0, h⟩ := args_cons h
  obtain ⟨v1, r, d1, ds, rfl, rfl, h1, h⟩ := args_cons h
  obtain rfl := args_nil h
  obtain ⟨s, q, k, l, rfl, hl, hq, hn, _⟩ := arg_node h0
  obtain ⟨t, rfl, _⟩ := arg_str Try.underlying9 h1
  obtain ⟨H', hr⟩ := run6 (t := t) hq hl hn
  obtain ⟨k, hk⟩ := AC_iff.1 hr
  exact ⟨k, H', hk⟩

end Go.Proofs.Ytfmjdlahabgkpaa.Sd
end
