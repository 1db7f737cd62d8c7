/- GaugeMeans: the means, the run and the law. -/
import Derived.Test.YtfpbmoiconopcaaGaC
set_option maxRecDepth 100000
set_option linter.unusedSimpArgs false
set_option linter.unusedVariables false
set_option maxHeartbeats 2000000
namespace Go.Proofs.Ytfpbmoiconopcaa.Ga
open Go Go.Proofs.Ytfpbmoiconopcaa.Am GaFns Go.RowKit

def flA (b : Nat) : AVal := .flt .f64 b
theorem fslen_of {H : AHeap} {s : AVal} {l : List Nat} (h : Sl H 1 s (l.map flA)) : slen s = l.length := by
  have := h.length
  simp at this
  omega
theorem fget_mk {R : List Nat} {i : Nat} (h : i < R.length) : (R.map flA)[i]? = some (.flt .f64 R[i]) := by
  rw [List.getElem?_map, List.getElem?_eq_getElem h]
  rfl
/-- What is added up of those that are numbers, from a sum on; how many they are. -/
def msum : Nat → List Nat → Nat
  | s, [] => s
  | s, x :: l => msum (if Fl.num x then fadd s x else s) l
def nums (l : List Nat) : List Nat := l.filter fun x => decide (Fl.num x)
def mean (l : List Nat) : Nat := fdiv (msum 0 l) (fint (nums l).length)
theorem msum_app (l k : List Nat) : ∀ s, msum s (l ++ k) = msum (msum s l) k := by
  induction l with
  | nil => intro s; rfl
  | cons x l ih => intro s; simp only [List.cons_append, msum, ih]
theorem nums_app (l k : List Nat) : nums (l ++ k) = nums l ++ nums k := by simp [nums]
theorem msum_nums (l : List Nat) : ∀ s, msum s (nums l) = msum s l := by
  induction l with
  | nil => intro s; rfl
  | cons x l ih =>
    intro s
    by_cases h : Fl.num x
    · have : nums (x :: l) = x :: nums l := by simp [nums, h]
      rw [this]; simp only [msum, h, if_true, ih]
    · have : nums (x :: l) = nums l := by simp [nums, h]
      rw [this]; simp only [msum, h, if_false, ih]
theorem nums_nums (l : List Nat) : nums (nums l) = nums l := by simp [nums, List.filter_filter]
theorem mean_nums (l : List Nat) : mean (nums l) = mean l := by simp only [mean, msum_nums, nums_nums]

def b25 : ACode := (.seq (.region [⟨(some 11), (.bin .lss (.tmp 10) (.tmp 9)), none, none⟩]) (.seq (.cond (.tmp 11) .skip (.exit 0)) (.seq (.block 1 (.seq (.region [⟨(some 12), (.idxASl 1 (.tmp 8) (.tmp 10)), none, none⟩, ⟨(some 13), (.load false 1 (.tmp 12)), none, none⟩, ⟨(some 7), (.mv (.tmp 13)), none, none⟩]) (.seq (.region [⟨(some 14), (.mv (.tmp 7)), none, none⟩, ⟨(some 15), (.call (.con (.func 61 [] [])) [(.tmp 14)]), none, none⟩, ⟨(some 16), (.un .not (.tmp 15)), none, none⟩]) (.cond (.tmp 16) (.seq (.region [⟨(some 17), (.mv (.tmp 4)), none, none⟩, ⟨(some 18), (.mv (.tmp 7)), none, none⟩, ⟨(some 19), (.bin .add (.tmp 17) (.tmp 18)), none, none⟩, ⟨(some 4), (.mv (.tmp 19)), none, none⟩]) (.region [⟨(some 20), (.mv (.tmp 5)), none, none⟩, ⟨(some 21), (.bin .add (.tmp 20) (.con (.int .i64 1))), none, none⟩, ⟨(some 5), (.mv (.tmp 21)), none, none⟩])) .skip)))) (.region [⟨(some 22), (.bin .add (.tmp 10) (.con (.int .i64 1))), none, none⟩, ⟨(some 10), (.mv (.tmp 22)), none, none⟩]))))
theorem loop25 {H : AHeap} {s : AVal} {l : List Nat} (hs : Sl H 1 s (l.map flA)) (hb : l.length < 9223372036854775807) {env : Env} (h4 : env 4 = .flt .f64 0) (h5 : env 5 = .int .i64 0) (h8 : env 8 = s) (h9 : env 9 = .int .i64 (l.length : Int)) (h10 : env 10 = .int .i64 0) :
    Outs (AX A (.loop b25) env H) fun e env' H' => H' = H ∧ e = .exit 0 ∧ env' 4 = .flt .f64 (msum 0 l) ∧ env' 5 = .int .i64 ((nums l).length : Int) := by
  refine loop_ends (I := fun (j : Nat) env' H' => j ≤ l.length ∧ H' = H ∧ env' 4 = .flt .f64 (msum 0 (l.take j)) ∧ env' 5 = .int .i64 ((nums (l.take j)).length : Int) ∧ env' 8 = s ∧ env' 9 = .int .i64 (l.length : Int) ∧ env' 10 = .int .i64 (j : Int)) (fun j => l.length - j) ?_ 0 env H
    ⟨Nat.zero_le _, rfl, h4, h5, h8, h9, h10⟩
  rintro j env' _ ⟨hj, rfl, h4, h5, h8, h9, h10⟩
  by_cases hlt : j < l.length
  · have e1 : decide ((j : Int) < (l.length : Int)) = true := by simp; omega
    have w1 : IntKind.i64.wrap ((j : Int) + 1) = ((j + 1 : Nat) : Int) := by rw [wrap_i64]; omega
    obtain ⟨id, off, cap, g, c, own, es, ho, _, hc, _⟩ := hs.at (i := j) (by rw [fslen_of hs]; exact hlt)
    have hc0 := hc 0 (by decide)
    simp only [Nat.mul_one, Nat.add_zero] at hc0
    rw [fget_mk hlt] at hc0
    rw [fslen_of hs] at es
    have ha : aidx l.length (.int .i64 (j : Int)) = some j := by simp [aidx]; omega
    subst es
    have hte : l.take (j + 1) = l.take j ++ [l[j]] := by rw [List.take_add_one, List.getElem?_eq_getElem hlt]; rfl
    have hcl : (nums (l.take j)).length ≤ j := by
      have := List.length_filter_le (fun x => decide (Fl.num x)) (l.take j)
      simp only [nums]; simp at this ⊢; omega
    have w2 : IntKind.i64.wrap (((nums (l.take j)).length : Int) + 1) = (((nums (l.take j)).length + 1 : Nat) : Int) := by rw [wrap_i64]; omega
    by_cases hn : Fl.num l[j]
    · simp only [b25, h4, h5, h8, h9, h10, e1, ha, ho, hc0, w1, w2, hn, decide_true, Bool.not_true, Bool.not_false, U61, rwA, rwB, Nat.reduceAdd, Nat.reduceMul, Nat.reduceLeDiff, Int.reduceEq, Int.reduceLT, Int.reduceLE, Int.reduceAdd, Int.reduceSub, Int.reduceMul, ↓reduceIte, Nat.reduceEqDiff, reduceCtorEq, ↓cnd_true, ↓cnd_false]
      rw [outs_some]
      refine .inl ⟨rfl, j + 1, by omega, by omega, rfl, ?_, ?_, by simp [Env.set, h8], by simp [Env.set, h9], by simp [Env.set]⟩
      · rw [hte, msum_app]; simp [Env.set, msum, hn]
      · rw [hte, nums_app]; simp [Env.set, nums, hn]
    · simp only [b25, h4, h5, h8, h9, h10, e1, ha, ho, hc0, w1, w2, hn, decide_false, Bool.not_true, Bool.not_false, U61, rwA, rwB, Nat.reduceAdd, Nat.reduceMul, Nat.reduceLeDiff, Int.reduceEq, Int.reduceLT, Int.reduceLE, Int.reduceAdd, Int.reduceSub, Int.reduceMul, ↓reduceIte, Nat.reduceEqDiff, reduceCtorEq, ↓cnd_true, ↓cnd_false]
      rw [outs_some]
      refine .inl ⟨rfl, j + 1, by omega, by omega, rfl, ?_, ?_, by simp [Env.set, h8], by simp [Env.set, h9], by simp [Env.set]⟩
      · rw [hte, msum_app]; simp [Env.set, msum, hn, h4]
      · rw [hte, nums_app]; simp [Env.set, nums, hn, h5]
  · have : j = l.length := by omega
    subst this
    have e1 : decide ((l.length : Int) < (l.length : Int)) = false := by simp
    simp only [b25, h4, h5, h8, h9, h10, e1, rwA, rwB, Nat.reduceAdd, Nat.reduceMul, Nat.reduceLeDiff, Int.reduceEq, Int.reduceLT, Int.reduceLE, Int.reduceAdd, Int.reduceSub, Int.reduceMul, ↓reduceIte, Nat.reduceEqDiff, reduceCtorEq, ↓cnd_true, ↓cnd_false]
    rw [outs_some]
    refine .inr ⟨by simp, rfl, rfl, ?_, ?_⟩
    · rw [List.take_length] at h4; simp [Env.set, h4]
    · rw [List.take_length] at h5; simp [Env.set, h5]

theorem U25 {H : AHeap} {s : AVal} {l : List Nat} (hs : Sl H 1 s (l.map flA)) (hb : l.length < 9223372036854775807) : AC A 25 [s] H = some (.tuple [.flt .f64 (mean l), .int .i64 ((nums l).length : Int)], H) := by
  refine look_val (x := GaFns.c25) rfl rfl rfl rfl ?_
  have hl := hs.frz.len1
  rw [List.length_map] at hl
  simp only [c25, hl, rwA, rwB, Nat.reduceAdd, Nat.reduceMul, Nat.reduceLeDiff, Int.reduceEq, Int.reduceLT, Int.reduceLE, Int.reduceAdd, Int.reduceSub, Int.reduceMul, ↓reduceIte, Nat.reduceEqDiff, reduceCtorEq, ↓cnd_true, ↓cnd_false]
  repeat (first | refine outs_seq ?_ | refine outs_block ?_ | refine outs_step ?_ | refine outs_stepD ?_ | refine rets_end ?_ | refine ans_end ?_)
  refine (loop25 hs.frz hb ?_ ?_ ?_ ?_ ?_).mono ?_
  · simp [Env.set]
  · simp [Env.set]
  · simp [Env.set, ainit]
  · simp [Env.set]
  · simp [Env.set]
  · rintro e env K ⟨rfl, rfl, h4, h5⟩
    simp only [outs_some, h4, h5, mean, rwA, rwB, Nat.reduceAdd, Nat.reduceMul, Nat.reduceLeDiff, Int.reduceEq, Int.reduceLT, Int.reduceLE, Int.reduceAdd, Int.reduceSub, Int.reduceMul, ↓reduceIte, Nat.reduceEqDiff, reduceCtorEq, ↓cnd_true, ↓cnd_false]

theorem mean_one (x : Nat) : feq (mean [x]) x = decide (Fl.num x) ∧ (¬ Fl.num x → ¬ Fl.num (mean [x])) := by
  have e1 : fint 1 = Fl.o1 := by decide +kernel
  by_cases h : Fl.num x
  · have hm : mean [x] = fdiv (fadd 0 x) Fl.o1 := by
      simp only [mean, msum, nums, h, decide_true, List.filter_cons, if_true, List.filter_nil, List.length_cons, List.length_nil, ← e1]; rfl
    have h1 := (Fl.fadd_zero h (z := 0) rfl).2
    have h2 := Fl.fdiv_one h1.1
    rw [hm, Fl.feq_is]
    refine ⟨?_, fun hh => absurd h hh⟩
    simp [h2.1, h, h2.2, h1.2]
  · have hm : mean [x] = fdiv 0 (fint 0) := by
      simp only [mean, msum, nums, h, decide_false, List.filter_cons, Bool.false_eq_true, if_false, List.filter_nil, List.length_nil]; rfl
    have hq : ¬ Fl.num (mean [x]) := by rw [hm]; decide +kernel
    refine ⟨?_, fun _ => hq⟩
    rw [Fl.feq_is]
    simp [h]
theorem k_pos (k : Int) (h : k ≤ 9223372036854775807) : 0 < Fl.rg (fint (if k < 1 then 1 else k)) ∧ Fl.rg (fint (if k < 1 then 1 else k)) < 9218868437227405312 := by
  split
  · exact ⟨Fl.fint_pos (by decide), Fl.fint_lt_inf (by decide)⟩
  · exact ⟨Fl.fint_pos (by omega), Fl.fint_lt_inf (by rw [show (2:Nat) ^ 64 = 18446744073709551616 by decide]; omega)⟩
theorem blend_self (x : Nat) (k : Int) (hk : k ≤ 9223372036854775807) : feq (blend x x k) x = decide (Fl.num x) ∧ (¬ Fl.num x → ¬ Fl.num (blend x x k)) := by
  unfold blend
  by_cases h : Fl.num x
  · simp only [h, if_true, decide_true, not_true_eq_false, false_implies, and_true]
    by_cases hi : Fl.rg x = 9218868437227405312
    · have : step x x k = qnan := by
        unfold step
        rw [Fl.fsub_inf hi, Fl.fdiv_nan (.inl Fl.nan_not), Fl.fadd_nan (.inr Fl.nan_not)]
      rw [this, if_neg Fl.nan_not, Fl.feq_self]; simpa using h
    · have hlt : Fl.rg x < 9218868437227405312 := by unfold Fl.num at h; omega
      obtain ⟨k1, k2⟩ := k_pos k hk
      have hz : Fl.rg (fdiv 0 (fint (if k < 1 then 1 else k))) = 0 := by
        rw [Fl.fdiv_is (by decide) k1 k2, Fl.rg_word _ (Fl.rn_lt _ _), show Fl.u (Fl.rg 0) = 0 from Fl.u_zero, Nat.zero_mul, Fl.rn_zero]
      have hs := (Fl.fadd_zero h hz).1
      have e : step x x k = fadd x (fdiv 0 (fint (if k < 1 then 1 else k))) := by unfold step; rw [Fl.fsub_self hlt]
      rw [e, if_pos hs.1, Fl.feq_is]
      simp [hs.1, hs.2, h]
  · simp only [h, if_false, decide_false, not_false_eq_true, imp_self, and_true]
    rw [Fl.feq_self]; simpa using h
theorem none_not : ¬ Fl.num (off 0 0) := by decide +kernel
theorem blend_none (x : Nat) (k : Int) : Fl.ord (blend x (off 0 0) k) x = 0 ∧ Fl.ord (blend (off 0 0) x k) x = 0 := by
  constructor
  · rw [Fl.ord_zero]
    unfold blend
    by_cases h : Fl.num x
    · rw [if_pos h, if_neg none_not]
    · rw [if_neg h]; simp [Fl.ky, h, none_not]
  · unfold blend
    rw [if_neg none_not, Fl.ord_self]

def b6 : ACode := (.seq (.region [⟨(some 26), (.bin .lss (.tmp 25) (.tmp 24)), none, none⟩]) (.seq (.cond (.tmp 26) .skip (.exit 0)) (.seq (.block 1 (.seq (.region [⟨(some 27), (.idxASl 1 (.tmp 23) (.tmp 25)), none, none⟩, ⟨(some 28), (.load false 1 (.tmp 27)), none, none⟩, ⟨(some 9), (.mv (.tmp 28)), none, none⟩]) (.seq (.region [⟨(some 29), (.mv (.tmp 9)), none, none⟩, ⟨(some 30), (.mv (.tmp 9)), none, none⟩, ⟨(some 31), (.bin .eql (.tmp 29) (.tmp 30)), none, none⟩]) (.cond (.tmp 31) (.region [⟨(some 32), (.mv (.tmp 7)), none, none⟩, ⟨(some 33), (.mv (.tmp 9)), none, none⟩, ⟨(some 34), (.buildS 1 [(.flt .f64 0)] [(0, (1, (.tmp 33)))]), none, none⟩, ⟨(some 35), (.append 1 8 (.tmp 32) (.tmp 34)), none, none⟩, ⟨(some 7), (.mv (.tmp 35)), none, none⟩]) .skip)))) (.region [⟨(some 36), (.bin .add (.tmp 25) (.con (.int .i64 1))), none, none⟩, ⟨(some 25), (.mv (.tmp 36)), none, none⟩]))))
/-- The numbers are put one behind the other. -/
theorem loop6 {H0 : AHeap} {s : AVal} {l : List Nat} (hs : Sl H0 1 s (l.map flA)) (hid : ∀ i, i ∈ s.ids → i < H0.next) (hb : l.length ≤ 200) {env : Env} (h0 : env 0 = s) (h7 : env 7 = .nils) (h23 : env 23 = s) (h24 : env 24 = .int .i64 (l.length : Int)) (h25 : env 25 = .int .i64 0) {x1 x2 : AVal} (h1 : env 1 = x1) (h2 : env 2 = x2) :
    Outs (AX A (.loop b6) env H0) fun e env' K => e = .exit 0 ∧ Keeps H0 K ∧ Ow K 1 (env' 7) ((nums l).map flA) ∧ env' 0 = s ∧ env' 1 = x1 ∧ env' 2 = x2 := by
  refine loop_ends (I := fun (j : Nat) env' K => j ≤ l.length ∧ Keeps H0 K ∧ Ow K 1 (env' 7) ((nums (l.take j)).map flA) ∧ (∀ i, i ∈ (env' 7).ids → H0.next ≤ i) ∧ env' 0 = s ∧ env' 1 = x1 ∧ env' 2 = x2 ∧ env' 23 = s ∧ env' 24 = .int .i64 (l.length : Int) ∧ env' 25 = .int .i64 (j : Int)) (fun j => l.length - j) ?_ 0 env H0
    ⟨Nat.zero_le _, Keeps.refl _, by rw [h7]; exact .inl ⟨rfl, rfl⟩, by rw [h7]; simp [AVal.ids], h0, h1, h2, h23, h24, h25⟩
  rintro j env' K ⟨hj, hk, ho7, hi7, h0, h1, h2, h23, h24, h25⟩
  by_cases hlt : j < l.length
  · have e1 : decide ((j : Int) < (l.length : Int)) = true := by simp; omega
    have w1 : IntKind.i64.wrap ((j : Int) + 1) = ((j + 1 : Nat) : Int) := by rw [wrap_i64]; omega
    have hsK := hs.keep hid hk
    obtain ⟨id, off, cap, g, c, own, es, ho, _, hc, _⟩ := hsK.at (i := j) (by rw [fslen_of hs]; exact hlt)
    have hc0 := hc 0 (by decide)
    simp only [Nat.mul_one, Nat.add_zero] at hc0
    rw [fget_mk hlt] at hc0
    rw [fslen_of hs] at es
    have ha : aidx l.length (.int .i64 (j : Int)) = some j := by simp [aidx]; omega
    have hte : l.take (j + 1) = l.take j ++ [l[j]] := by rw [List.take_add_one, List.getElem?_eq_getElem hlt]; rfl
    have hcl : (nums (l.take j)).length ≤ j := by
      have := List.length_filter_le (fun x => decide (Fl.num x)) (l.take j)
      simp only [nums]; simp at this ⊢; omega
    have e23 := h23
    rw [es] at e23
    by_cases hn : Fl.num l[j]
    · have ap := ho7.push2 (by' := 8) (.flt .f64 l[j]) (by rw [List.length_map]; omega)
      rw [List.length_map] at ap
      simp only [b6, h24, e23, h25, e1, ha, ho, hc0, w1, hn, Fl.feq_self, ap, decide_true, rwA, rwB, Nat.reduceAdd, Nat.reduceMul, Nat.reduceLeDiff, Int.reduceEq, Int.reduceLT, Int.reduceLE, Int.reduceAdd, Int.reduceSub, Int.reduceMul, ↓reduceIte, Nat.reduceEqDiff, reduceCtorEq, ↓cnd_true, ↓cnd_false]
      rw [outs_some]
      refine .inl ⟨rfl, j + 1, by omega, by omega, Keeps.push' hi7 hk, ?_, ?_, by simp [Env.set, h0], by simp [Env.set, h1], by simp [Env.set, h2], by simp [Env.set, e23, es], by simp [Env.set, h24], by simp [Env.set]⟩
      · have := Ow_pushed K (env' 7) (.flt .f64 l[j]) ((nums (l.take j)).map flA)
        rw [List.length_map] at this
        rw [hte, nums_app]
        simpa [Env.set, nums, hn, flA] using this
      · intro i hi
        have hkn := hk.1
        simp [Env.set, AVal.ids] at hi
        omega
    · simp only [b6, h24, e23, h25, e1, ha, ho, hc0, w1, hn, Fl.feq_self, decide_false, rwA, rwB, Nat.reduceAdd, Nat.reduceMul, Nat.reduceLeDiff, Int.reduceEq, Int.reduceLT, Int.reduceLE, Int.reduceAdd, Int.reduceSub, Int.reduceMul, ↓reduceIte, Nat.reduceEqDiff, reduceCtorEq, ↓cnd_true, ↓cnd_false]
      rw [outs_some]
      refine .inl ⟨rfl, j + 1, by omega, by omega, hk, ?_, ?_, by simp [Env.set, h0], by simp [Env.set, h1], by simp [Env.set, h2], by simp [Env.set, e23, es], by simp [Env.set, h24], by simp [Env.set]⟩
      · rw [hte, nums_app]
        simpa [Env.set, nums, hn] using ho7
      · intro i hi
        exact hi7 i (by simpa [Env.set] using hi)
  · have : j = l.length := by omega
    subst this
    have e1 : decide ((l.length : Int) < (l.length : Int)) = false := by simp
    simp only [b6, h24, h23, h25, e1, rwA, rwB, Nat.reduceAdd, Nat.reduceMul, Nat.reduceLeDiff, Int.reduceEq, Int.reduceLT, Int.reduceLE, Int.reduceAdd, Int.reduceSub, Int.reduceMul, ↓reduceIte, Nat.reduceEqDiff, reduceCtorEq, ↓cnd_true, ↓cnd_false]
    rw [outs_some]
    rw [List.take_length] at ho7
    exact .inr ⟨by simp, rfl, hk, by simpa [Env.set] using ho7, by simp [Env.set, h0], by simp [Env.set, h1], by simp [Env.set, h2]⟩

theorem run6 {H : AHeap} {s : AVal} {l : List Nat} (hs : Sl H 1 s (l.map flA)) (hid : ∀ i, i ∈ s.ids → i < H.next) (hb : l.length < 9223372036854775807) (x : Nat) (k : Int) (hk : k ≤ 9223372036854775807) : ∃ H', AC A 6 [s, .flt .f64 x, .int .i64 k] H = some (.bool true, H') := by
  show Ans (AC A 6 [s, .flt .f64 x, .int .i64 k] H) (.bool true)
  rw [s_fn (A := A) (f := 6) (x := GaFns.c6) rfl rfl rfl]
  have hl := hs.len1
  rw [List.length_map] at hl
  by_cases hbig : (200 : Int) < (l.length : Int)
  · simp only [c6, U14, hl, hbig, decide_true, Bool.not_true, rwA, rwB, Nat.reduceAdd, Nat.reduceMul, Nat.reduceLeDiff, Int.reduceEq, Int.reduceLT, Int.reduceLE, Int.reduceAdd, Int.reduceSub, Int.reduceMul, ↓reduceIte, Nat.reduceEqDiff, reduceCtorEq, ↓cnd_true, ↓cnd_false]
  · simp only [c6, U14, hl, hbig, decide_false, Bool.not_true, rwA, rwB, Nat.reduceAdd, Nat.reduceMul, Nat.reduceLeDiff, Int.reduceEq, Int.reduceLT, Int.reduceLE, Int.reduceAdd, Int.reduceSub, Int.reduceMul, ↓reduceIte, Nat.reduceEqDiff, reduceCtorEq, ↓cnd_true, ↓cnd_false]
    repeat (first | refine outs_seq ?_ | refine outs_block ?_ | refine outs_step ?_ | refine outs_stepD ?_ | refine rets_end ?_ | refine ans_end ?_)
    refine (loop6 hs hid (by omega) ?_ ?_ ?_ ?_ ?_ (x1 := .flt .f64 x) (x2 := .int .i64 k) ?_ ?_).mono ?_
    · simp [Env.set, ainit]
    · simp [Env.set]
    · simp [Env.set, ainit]
    · simp [Env.set]
    · simp [Env.set]
    · simp [Env.set, ainit]
    · simp [Env.set, ainit]
    · rintro e env K ⟨rfl, hkp, ho, h0, h1, h2⟩
      have hsK := hs.keep hid hkp
      have f1 := U25 hsK (by omega)
      have hnl : (nums l).length ≤ l.length := List.length_filter_le _ _
      have f2 := U25 ho.sl (by omega)
      rw [mean_nums, nums_nums] at f2
      have hone : Sl (K.new (.cells [.flt .f64 x] true)) 1 (.slice K.next 0 1 1 none) ([x].map flA) :=
        .inr ⟨K.next, 0, 1, 1, none, rfl, rfl, .inr ⟨[.flt .f64 x], true, by simp [AHeap.new], by simp, by simp [flA]⟩⟩
      have f3 := U25 hone (by simp)
      have hl7 := ho.sl.len1
      rw [List.length_map] at hl7
      obtain ⟨m1, m2⟩ := mean_one x
      obtain ⟨s1, s2⟩ := blend_self x k hk
      obtain ⟨n1, n2⟩ := blend_none x k
      have hl7' : alenT false (env 7) = some (nums l).length := hl7
      obtain ⟨K1, eK1⟩ : ∃ X, K.new (.cells [.flt .f64 x] true) = X := ⟨_, rfl⟩
      rw [eK1] at f3
      by_cases hn : Fl.num x
      · simp only [outs_some, h0, h1, h2, f1, f2, f3, eK1, hl7', m1, s1, n1, n2, hn, U22, U16, U24, Fl.ord_self, decide_true, rwA, rwB, Nat.reduceAdd, Nat.reduceMul, Nat.reduceLeDiff, Int.reduceEq, Int.reduceLT, Int.reduceLE, Int.reduceAdd, Int.reduceSub, Int.reduceMul, ↓reduceIte, Nat.reduceEqDiff, reduceCtorEq, ↓cnd_true, ↓cnd_false]
      · have q1 : feq (mean [x]) (mean [x]) = false := by rw [Fl.feq_self]; simpa using m2 hn
        have q2 : feq (blend x x k) (blend x x k) = false := by rw [Fl.feq_self]; simpa using s2 hn
        have q3 : feq x x = false := by rw [Fl.feq_self]; simpa using hn
        simp only [outs_some, h0, h1, h2, f1, f2, f3, eK1, hl7', m1, s1, n1, n2, hn, q1, q2, q3, U22, U16, U24, Fl.ord_self, decide_true, decide_false, Bool.not_false, rwA, rwB, Nat.reduceAdd, Nat.reduceMul, Nat.reduceLeDiff, Int.reduceEq, Int.reduceLT, Int.reduceLE, Int.reduceAdd, Int.reduceSub, Int.reduceMul, ↓reduceIte, Nat.reduceEqDiff, reduceCtorEq, ↓cnd_true, ↓cnd_false]

theorem bytes22 : Try.prog.bytesOf 22 = 8 := by kernel_rfl
theorem cells22 : Try.prog.cellsOf 22 = 1 := by kernel_rfl
theorem arg_flts {P : Program} {H : AHeap} {t e : TypeId} {v : AVal} {d : Dat} (hu : P.underlying t = some (.slice e)) (he : P.underlying e = some (.float .f64)) (hc : P.cellsOf e = 1) (h : AArg P H t v d) :
    ∃ l : List Nat, Sl H 1 v (l.map flA) ∧ (∀ i, i ∈ v.ids → i < H.next) ∧ l.length * P.bytesOf e ≤ reachBytes := by
  obtain ⟨f, ds, cs, h1, h2, h3, h4, h5, h7, h6⟩ := arg_slice hu h
  rw [hc] at h1 h3 h6
  have h3' : cs.length = ds.length * 1 := h3
  obtain ⟨l, hl, hcs⟩ := cells_of (enc := fun b : Nat => [flA b]) (n := 1) ds.length cs h3' (fun i hi => by
    have := h6 i ds[i] (by simp [hi])
    cases f with
    | zero => simp [AReads] at this
    | succ f =>
      simp only [AReads, he] at this
      obtain ⟨b, hb, _⟩ := this
      exact ⟨b, hb⟩)
  rw [flatMap_one] at hcs
  subst hcs
  exact ⟨l, h1, h4, by rw [hl]; exact h7⟩

theorem law6 (H : AHeap) (args : List AVal) (dats : List Dat) (h : AArgs Try.prog H [32, 22, 3] args dats) : ∃ k H', acall A k 6 args H = some (.bool true, H') := by
  obtain ⟨v0, r, d0, ds, rfl, rfl, h0, h⟩ := args_cons h
  obtain ⟨v1, r, d1, ds, rfl, rfl, h1, h⟩ := args_cons h
  obtain ⟨v2, r, d2, ds, rfl, rfl, h2, h⟩ := args_cons h
  obtain rfl := args_nil h
  obtain ⟨l, hs, hid, hb⟩ := arg_flts Try.underlying32 Try.underlying22 cells22 h0
  obtain ⟨x, rfl⟩ := arg_flt Try.underlying22 h1
  obtain ⟨k, rfl, _, _, hk⟩ := arg_int Try.underlying3 h2
  simp [IntKind.max, IntKind.signed, IntKind.bits] at hk
  obtain ⟨H', hr⟩ := run6 hs hid (by rw [bytes22] at hb
                                     have : reachBytes = 140737488351232 := rfl
                                     omega) x k hk
  obtain ⟨k, hk⟩ := AC_iff.1 hr
  exact ⟨k, H', hk⟩

end Go.Proofs.Ytfpbmoiconopcaa.Ga
