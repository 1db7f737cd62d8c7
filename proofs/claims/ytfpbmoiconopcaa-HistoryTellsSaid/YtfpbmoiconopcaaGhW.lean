/- HistoryTells: the reference's Slope and Left. -/
import Derived.Test.YtfpbmoiconopcaaGhV
set_option maxRecDepth 100000
set_option linter.unusedSimpArgs false
set_option linter.unusedVariables false
set_option maxHeartbeats 4000000
namespace Go.Proofs.Ytfpbmoiconopcaa.Gh
open Go Go.Proofs.Ytfpbmoiconopcaa.Am GaFns Go.RowKit

theorem U45 {H : AHeap} {r : Int} {s : AVal} {ps : List (Int × Int)} (hs : Sl H 2 s (PS ps)) (hid : ∀ i, i ∈ s.ids → i < H.next) (hl : ps.length < 9223372036854775807) :
    AC A 45 [.agg [.int .i64 r, s]] H = some (.flt .f64 (slope r ps), H) := by
  refine look_val (x := GaFns.c45) rfl rfl rfl rfl ?_
  have hsf := hs.frz
  have hn : (frz H).next = H.next := rfl
  obtain ⟨K, eK⟩ : ∃ K, (frz H).new (.cells [.int .i64 r, s] true) = K := ⟨_, rfl⟩
  have kK : Keeps (frz H) K := by rw [← eK]; exact Keeps.new _ _
  have hsK := hsf.keep hid kK
  have nK : K.next = H.next + 1 := by rw [← eK]; simp [new_next, hn]
  have hidK : ∀ i, i ∈ s.ids → i < K.next := fun i hi => by have := hid i hi; omega
  have u41 := U41 (r := r) hsK hidK hl
  have oK : K.obj H.next = some (.cells [.int .i64 r, s] true) := by rw [← eK]; simp [AHeap.new, hn]
  have hlen := PS_alen hsK
  cases hr : right r ps
  · rw [hr] at u41
    have e1 : slope r ps = 9221120237041090561 := by simp [slope, has, hr]
    rw [e1]
    simp only [c45, eK, nK, oK, hn, u41, hlen, U73, Bool.not_false, Bool.not_true, rwA, rwB, Nat.reduceAdd, Nat.reduceMul, Nat.reduceLeDiff, Int.reduceEq, Int.reduceLT, Int.reduceLE, Int.reduceAdd, Int.reduceSub, Int.reduceMul, ↓reduceIte, Nat.reduceEqDiff, reduceCtorEq, ↓cnd_true, ↓cnd_false]
  · rw [hr] at u41
    obtain ⟨_, _, hg⟩ := right_good hr
    by_cases h2 : ps.length < 2
    · have e1 : slope r ps = 9221120237041090561 := by simp [slope, h2]
      have d2 : decide ((ps.length : Int) < 2) = true := by simp; omega
      rw [e1]
      simp only [c45, eK, nK, oK, hn, u41, hlen, d2, U73, Bool.not_false, Bool.not_true, rwA, rwB, Nat.reduceAdd, Nat.reduceMul, Nat.reduceLeDiff, Int.reduceEq, Int.reduceLT, Int.reduceLE, Int.reduceAdd, Int.reduceSub, Int.reduceMul, ↓reduceIte, Nat.reduceEqDiff, reduceCtorEq, ↓cnd_true, ↓cnd_false]
    · have hh : has r ps = true := by simp [has, hr]; intro e; simp [e] at h2
      have hi : ps.length - 1 < ps.length := by omega
      have d2 : decide ((ps.length : Int) < 2) = false := by simp; omega
      obtain ⟨id, off, cap, g, l, own, et, ho, hk, hall⟩ := pts_at hsK (by omega)
      obtain ⟨g1, _, _⟩ := hall 0 (by omega)
      simp only [Nat.zero_mul, Nat.add_zero] at g1
      obtain ⟨k1, _, _⟩ := hall (ps.length - 1) hi
      have ha2 : aidx ps.length (.int .i64 0) = some 0 := by simp only [aidx]; rw [if_pos ⟨by omega, by omega⟩]; rfl
      have w0 : IntKind.i64.wrap ((ps.length : Int) - 1) = ((ps.length - 1 : Nat) : Int) := by rw [wrap_i64]; omega
      have ha3 : aidx ps.length (.int .i64 ((ps.length - 1 : Nat) : Int)) = some (ps.length - 1) := by simp [aidx]; omega
      have b1 := good_cnt hg hi
      have b0 := good_cnt hg (show 0 < ps.length by omega)
      have e0 := at0_get (show 0 < ps.length by omega)
      have el := at0_get hi
      obtain ⟨⟨x, y⟩, elo⟩ : ∃ q, ps[ps.length - 1] = q := ⟨_, rfl⟩
      obtain ⟨⟨u, v⟩, e00⟩ : ∃ q, ps[0]'(by omega) = q := ⟨_, rfl⟩
      rw [e00] at b0 g1 e0
      rw [elo] at b1 k1 el
      have e1 : slope r ps = fdiv (fint (y - v)) (fint (x - u)) := by simp [slope, hh, h2, lastP, el, e0]
      have w1 : IntKind.i64.wrap (y - v) = y - v := by rw [wrap_i64]; omega
      have w2 : IntKind.i64.wrap (x - u) = x - u := by rw [wrap_i64]; omega
      have hid1 : id < H.next := by have := hid id (by rw [et]; simp [AVal.ids]); omega
      have n1 : (id = H.next + 1) = False := by simp; omega
      have n2 : (id = H.next + 2) = False := by simp; omega
      rw [e1]
      subst et
      simp only [c45, eK, nK, oK, hn, u41, hlen, d2, ha2, w0, ha3, ho, g1, k1, n1, n2, w1, w2, Nat.zero_mul, if_false, Bool.not_false, Bool.not_true, rwA, rwB, Nat.reduceAdd, Nat.reduceMul, Nat.reduceLeDiff, Int.reduceEq, Int.reduceLT, Int.reduceLE, Int.reduceAdd, Int.reduceSub, Int.reduceMul, ↓reduceIte, Nat.reduceEqDiff, reduceCtorEq, ↓cnd_true, ↓cnd_false]

theorem U42 {H : AHeap} {r : Int} {s : AVal} {ps : List (Int × Int)} (hs : Sl H 2 s (PS ps)) (hid : ∀ i, i ∈ s.ids → i < H.next) (hl : ps.length < 9223372036854775807) (lim : Int) (hm : lim ≤ 9223372036854775807) :
    AC A 42 [.agg [.int .i64 r, s], .int .i64 lim] H = some (.flt .f64 (leftH r ps lim), H) := by
  refine look_val (x := GaFns.c42) rfl rfl rfl rfl ?_
  have hsf := hs.frz
  have hn : (frz H).next = H.next := rfl
  obtain ⟨K, eK⟩ : ∃ K, (frz H).new (.cells [.int .i64 r, s] true) = K := ⟨_, rfl⟩
  have kK : Keeps (frz H) K := by rw [← eK]; exact Keeps.new _ _
  have hsK := hsf.keep hid kK
  have nK : K.next = H.next + 1 := by rw [← eK]; simp [new_next, hn]
  have hidK : ∀ i, i ∈ s.ids → i < K.next := fun i hi => by have := hid i hi; omega
  have u41 := U41 (r := r) hsK hidK hl
  have u45 := U45 (r := r) hsK hidK hl
  have oK : K.obj H.next = some (.cells [.int .i64 r, s] true) := by rw [← eK]; simp [AHeap.new, hn]
  have hlen := PS_alen hsK
  cases hr : right r ps
  · rw [hr] at u41
    have e1 : leftH r ps lim = 9221120237041090561 := by simp [leftH, has, hr]
    rw [e1]
    simp only [c42, eK, nK, oK, hn, u41, hlen, U73, Bool.not_false, Bool.not_true, rwA, rwB, Nat.reduceAdd, Nat.reduceMul, Nat.reduceLeDiff, Int.reduceEq, Int.reduceLT, Int.reduceLE, Int.reduceAdd, Int.reduceSub, Int.reduceMul, ↓reduceIte, Nat.reduceEqDiff, reduceCtorEq, ↓cnd_true, ↓cnd_false]
  · rw [hr] at u41
    obtain ⟨_, _, hg⟩ := right_good hr
    by_cases h0 : ps.length = 0
    · have e1 : leftH r ps lim = 9221120237041090561 := by simp [leftH, has, h0]
      have d0 : decide ((ps.length : Int) = 0) = true := decide_eq_true (by omega)
      rw [e1]
      simp only [c42, eK, nK, oK, hn, u41, hlen, d0, U73, Bool.not_false, Bool.not_true, rwA, rwB, Nat.reduceAdd, Nat.reduceMul, Nat.reduceLeDiff, Int.reduceEq, Int.reduceLT, Int.reduceLE, Int.reduceAdd, Int.reduceSub, Int.reduceMul, ↓reduceIte, Nat.reduceEqDiff, reduceCtorEq, ↓cnd_true, ↓cnd_false]
    · have hh : has r ps = true := by simp [has, hr, h0]
      have d0 : decide ((ps.length : Int) = 0) = false := decide_eq_false (by omega)
      have hi : ps.length - 1 < ps.length := by omega
      obtain ⟨id, off, cap, g, l, own, et, ho, hk, hall⟩ := pts_at hsK (by omega)
      obtain ⟨_, _, k3⟩ := hall (ps.length - 1) hi
      rw [Nat.add_assoc] at k3
      have w0 : IntKind.i64.wrap ((ps.length : Int) - 1) = ((ps.length - 1 : Nat) : Int) := by rw [wrap_i64]; omega
      have ha3 : aidx ps.length (.int .i64 ((ps.length - 1 : Nat) : Int)) = some (ps.length - 1) := by simp [aidx]; omega
      have b1 := good_cnt hg hi
      have el := at0_get hi
      obtain ⟨⟨x, y⟩, elo⟩ : ∃ q, ps[ps.length - 1] = q := ⟨_, rfl⟩
      rw [elo] at b1 k3 el
      have e1 : leftH r ps lim = if lim < 0 then 9218868437227405312 else if lim ≤ y then 0 else if fgtr (slope r ps) 0 then fdiv (fint (lim - y)) (slope r ps) else 9218868437227405312 := by simp only [leftH, hh, if_true, lastP, el]
      rw [e1]
      subst et
      by_cases q1 : lim < 0
      · simp only [c42, eK, nK, oK, hn, u41, hlen, d0, U74, q1, decide_true, if_true, Bool.not_false, Bool.not_true, rwA, rwB, Nat.reduceAdd, Nat.reduceMul, Nat.reduceLeDiff, Int.reduceEq, Int.reduceLT, Int.reduceLE, Int.reduceAdd, Int.reduceSub, Int.reduceMul, ↓reduceIte, Nat.reduceEqDiff, reduceCtorEq, ↓cnd_true, ↓cnd_false]
      · by_cases q2 : lim ≤ y
        · simp only [c42, eK, nK, oK, hn, u41, hlen, d0, w0, ha3, ho, k3, U74, q1, q2, decide_true, decide_false, if_true, if_false, Bool.not_false, Bool.not_true, rwA, rwB, Nat.reduceAdd, Nat.reduceMul, Nat.reduceLeDiff, Int.reduceEq, Int.reduceLT, Int.reduceLE, Int.reduceAdd, Int.reduceSub, Int.reduceMul, ↓reduceIte, Nat.reduceEqDiff, reduceCtorEq, ↓cnd_true, ↓cnd_false]
        · have w1 : IntKind.i64.wrap (lim - y) = lim - y := by rw [wrap_i64]; omega
          cases q3 : fgtr (slope r ps) 0 <;> simp only [c42, eK, nK, oK, hn, u41, hlen, d0, w0, ha3, ho, k3, U74, u45, w1, q1, q2, q3, decide_true, decide_false, if_true, if_false, Bool.false_eq_true, Bool.not_false, Bool.not_true, rwA, rwB, Nat.reduceAdd, Nat.reduceMul, Nat.reduceLeDiff, Int.reduceEq, Int.reduceLT, Int.reduceLE, Int.reduceAdd, Int.reduceSub, Int.reduceMul, ↓reduceIte, Nat.reduceEqDiff, reduceCtorEq, ↓cnd_true, ↓cnd_false]

/-! ### Lists of points compared -/
def b75 : ACode := (.seq (.seq (.region [⟨(some 11), (.mv (.tmp 5)), none, none⟩, ⟨(some 12), (.mv (.tmp 0)), none, none⟩, ⟨(some 13), (.len false (.tmp 12)), none, none⟩, ⟨(some 14), (.bin .lss (.tmp 11) (.tmp 13)), none, none⟩]) (.cond (.tmp 14) .skip (.exit 0))) (.seq (.block 1 (.seq (.draw [⟨(some 17), (.mv (.tmp 0)), none, none⟩, ⟨(some 18), (.mv (.tmp 5)), none, none⟩, ⟨(some 19), (.idxASl 2 (.tmp 17) (.tmp 18)), none, none⟩, ⟨(some 20), (.load true 2 (.tmp 19)), none, none⟩, ⟨(some 21), (.mv (.tmp 1)), none, none⟩, ⟨(some 22), (.mv (.tmp 5)), none, none⟩, ⟨(some 23), (.idxASl 2 (.tmp 21) (.tmp 22)), none, none⟩, ⟨(some 24), (.load true 2 (.tmp 23)), none, none⟩, ⟨(some 25), (.eq true (.fld 0 1 false (.int .i64) (.fld 1 1 false (.int .i64) .fend)) (.tmp 20) (.tmp 24)), none, none⟩]) (.cond (.tmp 25) (.seq (.region [⟨(some 4), (.mv (.con (.bool false))), none, none⟩]) .ret) .skip))) (.region [⟨(some 15), (.mv (.tmp 5)), none, none⟩, ⟨(some 16), (.bin .add (.tmp 15) (.con (.int .i64 1))), none, none⟩, ⟨(some 5), (.mv (.tmp 16)), none, none⟩])))
theorem loop75 {K : AHeap} {s t : AVal} {ps qs : List (Int × Int)} {env : Env} (hs : Sl K 2 s (PS ps)) (ht : Sl K 2 t (PS qs)) (hl : ps.length < 9223372036854775807) (he : ps.length = qs.length)
    (h0 : env 0 = s) (h1 : env 1 = t) (h5 : env 5 = .int .i64 0) :
    Outs (AX A (.loop b75) env K) fun e env' K' => (e = .exit 0 ∧ ps = qs) ∨ (e = .ret ∧ env' 4 = .bool false ∧ ps ≠ qs) := by
  have l1 := PS_alen hs
  refine loop_ends (I := fun (j : Nat) env' K' => K' = K ∧ j ≤ ps.length ∧ env' 0 = s ∧ env' 1 = t ∧ env' 5 = .int .i64 (j : Int) ∧ ps.take j = qs.take j) (fun j => ps.length - j) ?_ 0 env K ⟨rfl, Nat.zero_le _, h0, h1, h5, rfl⟩
  rintro j env' K' ⟨rfl, hj, h0, h1, h5, hE⟩
  by_cases hlt : j < ps.length
  · obtain ⟨id, off, cap, g, l, own, et, ho, hkk, hall⟩ := pts_at hs (by omega)
    obtain ⟨id2, off2, cap2, gg2, l2, own2, et2, ho2, hkk2, hall2⟩ := pts_at ht (by omega)
    have e1 : decide ((j : Int) < (ps.length : Int)) = true := by simp; omega
    have w1 : IntKind.i64.wrap ((j : Int) + 1) = ((j + 1 : Nat) : Int) := by rw [wrap_i64]; omega
    have ha : aidx ps.length (.int .i64 (j : Int)) = some j := by simp [aidx]; omega
    have ha' : aidx qs.length (.int .i64 (j : Int)) = some j := by rw [← he]; exact ha
    obtain ⟨g1, _, _⟩ := hall j hlt
    obtain ⟨g2, _, _⟩ := hall2 j (by omega)
    have tp := List.take_succ_eq_append_getElem hlt
    have tq := List.take_succ_eq_append_getElem (show j < qs.length by omega)
    have bad : ps[j] ≠ qs[j]'(by omega) → ps ≠ qs := fun h e => by subst e; exact h rfl
    obtain ⟨⟨x, y⟩, exy⟩ : ∃ q, ps[j] = q := ⟨_, rfl⟩
    obtain ⟨⟨z, w⟩, ezw⟩ : ∃ q, qs[j]'(by omega) = q := ⟨_, rfl⟩
    rw [exy] at g1 tp bad
    rw [ezw] at g2 tq bad
    subst et et2
    cases c1 : decide (x = z)
    · simp only [b75, h0, h1, h5, l1, e1, w1, ha, ha', ho, ho2, g1, g2, c1, Bool.false_and, Bool.not_false, Bool.not_true, rwA, rwB, Nat.reduceAdd, Nat.reduceMul, Nat.reduceLeDiff, Int.reduceEq, Int.reduceLT, Int.reduceLE, Int.reduceAdd, Int.reduceSub, Int.reduceMul, ↓reduceIte, Nat.reduceEqDiff, reduceCtorEq, ↓cnd_true, ↓cnd_false]
      rw [outs_some]
      exact .inr ⟨by simp, .inr ⟨rfl, by simp [Env.set], bad (by intro e; injection e with e1 e2; exact (of_decide_eq_false c1) e1)⟩⟩
    · cases c2 : decide (y = w)
      · simp only [b75, h0, h1, h5, l1, e1, w1, ha, ha', ho, ho2, g1, g2, c1, c2, Bool.and_false, Bool.false_and, Bool.not_false, Bool.not_true, rwA, rwB, Nat.reduceAdd, Nat.reduceMul, Nat.reduceLeDiff, Int.reduceEq, Int.reduceLT, Int.reduceLE, Int.reduceAdd, Int.reduceSub, Int.reduceMul, ↓reduceIte, Nat.reduceEqDiff, reduceCtorEq, ↓cnd_true, ↓cnd_false]
        rw [outs_some]
        exact .inr ⟨by simp, .inr ⟨rfl, by simp [Env.set], bad (by intro e; injection e with e1 e2; exact (of_decide_eq_false c2) e2)⟩⟩
      · simp only [b75, h0, h1, h5, l1, e1, w1, ha, ha', ho, ho2, g1, g2, c1, c2, Bool.and_self, Bool.not_false, Bool.not_true, rwA, rwB, Nat.reduceAdd, Nat.reduceMul, Nat.reduceLeDiff, Int.reduceEq, Int.reduceLT, Int.reduceLE, Int.reduceAdd, Int.reduceSub, Int.reduceMul, ↓reduceIte, Nat.reduceEqDiff, reduceCtorEq, ↓cnd_true, ↓cnd_false]
        rw [outs_some]
        refine .inl ⟨rfl, j + 1, by omega, rfl, by omega, by simp [Env.set, h0], by simp [Env.set, h1], by simp [Env.set], ?_⟩
        rw [tp, tq, hE, of_decide_eq_true c1, of_decide_eq_true c2]
  · have : j = ps.length := by omega
    subst this
    have e1 : decide ((ps.length : Int) < (ps.length : Int)) = false := by simp
    have eq : ps = qs := by
      rw [List.take_length, List.take_of_length_le (by omega)] at hE
      exact hE
    simp only [b75, h0, h1, h5, l1, e1, rwA, rwB, Nat.reduceAdd, Nat.reduceMul, Nat.reduceLeDiff, Int.reduceEq, Int.reduceLT, Int.reduceLE, Int.reduceAdd, Int.reduceSub, Int.reduceMul, ↓reduceIte, Nat.reduceEqDiff, reduceCtorEq, ↓cnd_true, ↓cnd_false]
    rw [outs_some]
    exact .inr ⟨by simp, .inl ⟨rfl, eq⟩⟩

theorem U75 {H : AHeap} {s t : AVal} {ps qs : List (Int × Int)} (hs : Sl H 2 s (PS ps)) (ht : Sl H 2 t (PS qs)) (hl : ps.length < 9223372036854775807) : AC A 75 [s, t] H = some (.bool (decide (ps = qs)), H) := by
  refine look_val (x := GaFns.c75) rfl rfl rfl rfl ?_
  have hsf := hs.frz
  have htf := ht.frz
  have l1 := PS_alen hsf
  have l2 := PS_alen htf
  by_cases he : ps.length = qs.length
  · have d0 : decide ((ps.length : Int) = (qs.length : Int)) = true := decide_eq_true (by omega)
    simp only [c75, l1, l2, d0, Bool.not_true, rwA, rwB, Nat.reduceAdd, Nat.reduceMul, Nat.reduceLeDiff, Int.reduceEq, Int.reduceLT, Int.reduceLE, Int.reduceAdd, Int.reduceSub, Int.reduceMul, ↓reduceIte, Nat.reduceEqDiff, reduceCtorEq, ↓cnd_true, ↓cnd_false]
    repeat (first | refine outs_seq ?_ | refine outs_block ?_ | refine outs_step ?_ | refine outs_stepD ?_ | refine rets_end ?_ | refine ans_end ?_)
    refine (loop75 hsf htf hl he ?_ ?_ ?_).mono ?_
    · simp [Env.set, ainit]
    · simp [Env.set, ainit]
    · simp [Env.set]
    · rintro e env K (⟨rfl, h⟩ | ⟨rfl, h4, h⟩)
      · rw [decide_eq_true h]
        simp only [outs_some, rwA, rwB, Nat.reduceAdd, Nat.reduceMul, Nat.reduceLeDiff, Int.reduceEq, Int.reduceLT, Int.reduceLE, Int.reduceAdd, Int.reduceSub, Int.reduceMul, ↓reduceIte, Nat.reduceEqDiff, reduceCtorEq, ↓cnd_true, ↓cnd_false]
      · rw [decide_eq_false h]
        simp only [outs_some, h4, rwA, rwB, Nat.reduceAdd, Nat.reduceMul, Nat.reduceLeDiff, Int.reduceEq, Int.reduceLT, Int.reduceLE, Int.reduceAdd, Int.reduceSub, Int.reduceMul, ↓reduceIte, Nat.reduceEqDiff, reduceCtorEq, ↓cnd_true, ↓cnd_false]
  · have d0 : decide ((ps.length : Int) = (qs.length : Int)) = false := decide_eq_false (by omega)
    have d1 : decide (ps = qs) = false := decide_eq_false (fun e => he (by rw [e]))
    rw [d1]
    simp only [c75, l1, l2, d0, Bool.not_false, rwA, rwB, Nat.reduceAdd, Nat.reduceMul, Nat.reduceLeDiff, Int.reduceEq, Int.reduceLT, Int.reduceLE, Int.reduceAdd, Int.reduceSub, Int.reduceMul, ↓reduceIte, Nat.reduceEqDiff, reduceCtorEq, ↓cnd_true, ↓cnd_false]

end Go.Proofs.Ytfpbmoiconopcaa.Gh
