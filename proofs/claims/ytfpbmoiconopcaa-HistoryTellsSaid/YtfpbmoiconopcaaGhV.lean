/- HistoryTells: the reference's Right, Slope, Left, At. -/
import Derived.Test.YtfpbmoiconopcaaGhR
set_option maxRecDepth 100000
set_option linter.unusedSimpArgs false
set_option linter.unusedVariables false
set_option maxHeartbeats 4000000
namespace Go.Proofs.Ytfpbmoiconopcaa.Gh
open Go Go.Proofs.Ytfpbmoiconopcaa.Am GaFns Go.RowKit

theorem U90 (a : Int) (H : AHeap) : AC A 90 [.int .i64 a] H = some (.bool (cnt a), H) := by
  refine one_val (x := GaFns.c90) rfl rfl rfl rfl rfl ?_ H
  unfold cnt
  cases h1 : decide (0 ≤ a) <;> cases h2 : decide (a ≤ 1125899906842624) <;> simp only [c90, h1, h2, Bool.true_and, Bool.false_and, rwA, rwB, Nat.reduceAdd, Nat.reduceMul, Nat.reduceLeDiff, Int.reduceEq, Int.reduceLT, Int.reduceLE, Int.reduceAdd, Int.reduceSub, Int.reduceMul, ↓reduceIte, Nat.reduceEqDiff, reduceCtorEq, ↓cnd_true, ↓cnd_false]

theorem U71 (a b : Int) (H : AHeap) : AC A 71 [.agg [.int .i64 a, .int .i64 b]] H = some (.bool (okp (a, b)), H) := by
  refine one_val (x := GaFns.c71) rfl rfl rfl rfl rfl ?_ H
  unfold okp
  cases h1 : cnt a <;> cases h2 : cnt b <;> simp only [c71, U90, h1, h2, Bool.true_and, Bool.false_and, Bool.and_true, Bool.and_false, rwA, rwB, Nat.reduceAdd, Nat.reduceMul, Nat.reduceLeDiff, Int.reduceEq, Int.reduceLT, Int.reduceLE, Int.reduceAdd, Int.reduceSub, Int.reduceMul, ↓reduceIte, Nat.reduceEqDiff, reduceCtorEq, ↓cnd_true, ↓cnd_false]

theorem U73_is : (arun (acall A 30) A.fn 30 (some GaFns.c73) [] noH).map (·.1) = some (.flt .f64 9221120237041090561) := by kernel_rfl
theorem U73 (H : AHeap) : AC A 73 [] H = some (.flt .f64 9221120237041090561, H) := one_closed (x := GaFns.c73) rfl rfl rfl rfl rfl U73_is H
theorem U74_is : (arun (acall A 30) A.fn 30 (some GaFns.c74) [] noH).map (·.1) = some (.flt .f64 9218868437227405312) := by kernel_rfl
theorem U74 (H : AHeap) : AC A 74 [] H = some (.flt .f64 9218868437227405312, H) := one_closed (x := GaFns.c74) rfl rfl rfl rfl rfl U74_is H

def b41 : ACode := (.seq (.seq (.region [⟨(some 4), (.mv (.tmp 3)), none, none⟩, ⟨(some 5), (.fieldA 1 (.tmp 1)), none, none⟩, ⟨(some 6), (.load false 1 (.tmp 5)), none, none⟩, ⟨(some 7), (.len false (.tmp 6)), none, none⟩, ⟨(some 8), (.bin .lss (.tmp 4) (.tmp 7)), none, none⟩]) (.cond (.tmp 8) .skip (.exit 0))) (.seq (.block 1 (.seq (.draw [⟨(some 11), (.fieldA 1 (.tmp 1)), none, none⟩, ⟨(some 12), (.load false 1 (.tmp 11)), none, none⟩, ⟨(some 13), (.mv (.tmp 3)), none, none⟩, ⟨(some 14), (.idxASl 2 (.tmp 12) (.tmp 13)), none, none⟩, ⟨(some 15), (.load true 2 (.tmp 14)), none, none⟩, ⟨(some 16), (.call (.con (.func 71 [] [])) [(.tmp 15)]), none, none⟩, ⟨(some 17), (.un .not (.tmp 16)), none, none⟩, ⟨(some 18), (.mv (.tmp 17)), none, none⟩, ⟨(some 19), (.mv (.tmp 3)), (some (18, false)), none⟩, ⟨(some 20), (.bin .gtr (.tmp 19) (.con (.int .i64 0))), (some (18, false)), none⟩, ⟨(some 21), (.mv (.tmp 20)), (some (18, false)), none⟩, ⟨(some 22), (.fieldA 1 (.tmp 1)), (some (21, true)), none⟩, ⟨(some 23), (.load false 1 (.tmp 22)), (some (21, true)), none⟩, ⟨(some 24), (.mv (.tmp 3)), (some (21, true)), none⟩, ⟨(some 25), (.idxASl 2 (.tmp 23) (.tmp 24)), (some (21, true)), none⟩, ⟨(some 26), (.fieldA 0 (.tmp 25)), (some (21, true)), none⟩, ⟨(some 27), (.load false 1 (.tmp 26)), (some (21, true)), none⟩, ⟨(some 28), (.fieldA 1 (.tmp 1)), (some (21, true)), none⟩, ⟨(some 29), (.load false 1 (.tmp 28)), (some (21, true)), none⟩, ⟨(some 30), (.mv (.tmp 3)), (some (21, true)), none⟩, ⟨(some 31), (.bin .sub (.tmp 30) (.con (.int .i64 1))), (some (21, true)), none⟩, ⟨(some 32), (.idxASl 2 (.tmp 29) (.tmp 31)), (some (21, true)), none⟩, ⟨(some 33), (.fieldA 0 (.tmp 32)), (some (21, true)), none⟩, ⟨(some 34), (.load false 1 (.tmp 33)), (some (21, true)), none⟩, ⟨(some 35), (.bin .leq (.tmp 27) (.tmp 34)), (some (21, true)), none⟩, ⟨(some 36), (.pick (.tmp 21) (.tmp 35) (.con (.bool false))), (some (18, false)), none⟩, ⟨(some 37), (.pick (.tmp 18) (.con (.bool true)) (.tmp 36)), none, none⟩]) (.cond (.tmp 37) (.seq (.region [⟨(some 2), (.mv (.con (.bool false))), none, none⟩]) .ret) .skip))) (.region [⟨(some 9), (.mv (.tmp 3)), none, none⟩, ⟨(some 10), (.bin .add (.tmp 9) (.con (.int .i64 1))), none, none⟩, ⟨(some 3), (.mv (.tmp 10)), none, none⟩])))
theorem loop41 {K : AHeap} {p : Nat} {r : Int} {s : AVal} {ps : List (Int × Int)} {env : Env} (op : K.obj p = some (.cells [.int .i64 r, s] true)) (hs : Sl K 2 s (PS ps)) (hl : ps.length < 9223372036854775807)
    (h1 : env 1 = .ptr p 0) (h3 : env 3 = .int .i64 0) :
    Outs (AX A (.loop b41) env K) fun e env' K' => K' = K ∧ env' 1 = .ptr p 0 ∧ ((e = .exit 0 ∧ goodN ps ps.length = true) ∨ (e = .ret ∧ env' 2 = .bool false ∧ goodN ps ps.length = false)) := by
  have hlen := PS_alen hs
  refine loop_ends (I := fun (j : Nat) env' K' => K' = K ∧ j ≤ ps.length ∧ goodN ps j = true ∧ env' 1 = .ptr p 0 ∧ env' 3 = .int .i64 (j : Int)) (fun j => ps.length - j) ?_ 0 env K ⟨rfl, Nat.zero_le _, by simp [goodN], h1, h3⟩
  rintro j env' K' ⟨rfl, hj, hgo, h1, h3⟩
  by_cases hlt : j < ps.length
  · obtain ⟨id, off, cap, g, l, own, et, ho, hkk, hall⟩ := pts_at hs (by omega)
    have e1 : decide ((j : Int) < (ps.length : Int)) = true := by simp; omega
    have w1 : IntKind.i64.wrap ((j : Int) + 1) = ((j + 1 : Nat) : Int) := by rw [wrap_i64]; omega
    have ha : aidx ps.length (.int .i64 (j : Int)) = some j := by simp [aidx]; omega
    obtain ⟨g1, g2, _⟩ := hall j hlt
    have ej := at0_get hlt
    obtain ⟨⟨x, y⟩, exy⟩ : ∃ q, ps[j] = q := ⟨_, rfl⟩
    rw [exy] at g1 g2 ej
    have bad : stp ps j = false → goodN ps ps.length = false := by
      intro hb
      cases hc : goodN ps ps.length with
      | false => rfl
      | true => have := goodN_at hc hlt; rw [hb] at this; cases this
    subst et
    cases c1 : okp (x, y)
    · have es : stp ps j = false := by unfold stp; rw [ej, c1]; rfl
      simp only [b41, h1, h3, op, hlen, e1, w1, ha, ho, g1, g2, U71, c1, Bool.not_false, Bool.not_true, rwA, rwB, Nat.reduceAdd, Nat.reduceMul, Nat.reduceLeDiff, Int.reduceEq, Int.reduceLT, Int.reduceLE, Int.reduceAdd, Int.reduceSub, Int.reduceMul, ↓reduceIte, Nat.reduceEqDiff, reduceCtorEq, ↓cnd_true, ↓cnd_false]
      rw [outs_some]
      exact .inr ⟨by simp, rfl, by simp [Env.set, h1], .inr ⟨rfl, by simp [Env.set], bad es⟩⟩
    · by_cases hj0 : j = 0
      · have d0 : decide (0 < (j : Int)) = false := decide_eq_false (by omega)
        have es : stp ps j = true := by unfold stp; rw [ej, c1, decide_eq_true hj0]; rfl
        simp only [b41, h1, h3, op, hlen, e1, w1, ha, ho, g1, g2, U71, c1, d0, Bool.not_false, Bool.not_true, rwA, rwB, Nat.reduceAdd, Nat.reduceMul, Nat.reduceLeDiff, Int.reduceEq, Int.reduceLT, Int.reduceLE, Int.reduceAdd, Int.reduceSub, Int.reduceMul, ↓reduceIte, Nat.reduceEqDiff, reduceCtorEq, ↓cnd_true, ↓cnd_false]
        rw [outs_some]
        exact .inl ⟨rfl, j + 1, by omega, rfl, by omega, by rw [goodN_succ, hgo, es]; rfl, by simp [Env.set, h1], by simp [Env.set]⟩
      · have d0 : decide (0 < (j : Int)) = true := decide_eq_true (by omega)
        have hj1 : j - 1 < ps.length := by omega
        obtain ⟨_, u2, _⟩ := hall (j - 1) hj1
        have ej1 := at0_get hj1
        obtain ⟨⟨x1, y1⟩, exy1⟩ : ∃ q, ps[j - 1] = q := ⟨_, rfl⟩
        rw [exy1] at u2 ej1
        have w2 : IntKind.i64.wrap ((j : Int) - 1) = ((j - 1 : Nat) : Int) := by rw [wrap_i64]; omega
        have ha2 : aidx ps.length (.int .i64 ((j - 1 : Nat) : Int)) = some (j - 1) := by simp [aidx]; omega
        cases c2 : decide (x ≤ x1)
        · have es : stp ps j = true := by
            unfold stp
            rw [ej, ej1, c1, decide_eq_false hj0, Bool.true_and, Bool.false_or, decide_eq_true_eq]
            have := of_decide_eq_false c2
            simp; omega
          simp only [b41, h1, h3, op, hlen, e1, w1, ha, ho, g1, g2, U71, c1, d0, w2, ha2, u2, c2, Bool.not_false, Bool.not_true, rwA, rwB, Nat.reduceAdd, Nat.reduceMul, Nat.reduceLeDiff, Int.reduceEq, Int.reduceLT, Int.reduceLE, Int.reduceAdd, Int.reduceSub, Int.reduceMul, ↓reduceIte, Nat.reduceEqDiff, reduceCtorEq, ↓cnd_true, ↓cnd_false]
          rw [outs_some]
          exact .inl ⟨rfl, j + 1, by omega, rfl, by omega, by rw [goodN_succ, hgo, es]; rfl, by simp [Env.set, h1], by simp [Env.set]⟩
        · have es : stp ps j = false := by
            unfold stp
            rw [ej, ej1, c1, decide_eq_false hj0, Bool.true_and, Bool.false_or, decide_eq_false_iff_not]
            have := of_decide_eq_true c2
            simp; omega
          simp only [b41, h1, h3, op, hlen, e1, w1, ha, ho, g1, g2, U71, c1, d0, w2, ha2, u2, c2, Bool.not_false, Bool.not_true, rwA, rwB, Nat.reduceAdd, Nat.reduceMul, Nat.reduceLeDiff, Int.reduceEq, Int.reduceLT, Int.reduceLE, Int.reduceAdd, Int.reduceSub, Int.reduceMul, ↓reduceIte, Nat.reduceEqDiff, reduceCtorEq, ↓cnd_true, ↓cnd_false]
          rw [outs_some]
          exact .inr ⟨by simp, rfl, by simp [Env.set, h1], .inr ⟨rfl, by simp [Env.set], bad es⟩⟩
  · have : j = ps.length := by omega
    subst this
    have e1 : decide ((ps.length : Int) < (ps.length : Int)) = false := by simp
    simp only [b41, h1, h3, op, hlen, e1, rwA, rwB, Nat.reduceAdd, Nat.reduceMul, Nat.reduceLeDiff, Int.reduceEq, Int.reduceLT, Int.reduceLE, Int.reduceAdd, Int.reduceSub, Int.reduceMul, ↓reduceIte, Nat.reduceEqDiff, reduceCtorEq, ↓cnd_true, ↓cnd_false]
    rw [outs_some]
    exact .inr ⟨by simp, rfl, by simp [Env.set, h1], .inl ⟨rfl, hgo⟩⟩

theorem U41 {H : AHeap} {r : Int} {s : AVal} {ps : List (Int × Int)} (hs : Sl H 2 s (PS ps)) (hid : ∀ i, i ∈ s.ids → i < H.next) (hl : ps.length < 9223372036854775807) : AC A 41 [.agg [.int .i64 r, s]] H = some (.bool (right r ps), H) := by
  refine look_val (x := GaFns.c41) rfl rfl rfl rfl ?_
  have hsf := hs.frz
  have hn : (frz H).next = H.next := rfl
  obtain ⟨K, eK⟩ : ∃ K, (frz H).new (.cells [.int .i64 r, s] true) = K := ⟨_, rfl⟩
  have kK : Keeps (frz H) K := by rw [← eK]; exact Keeps.new _ _
  have hsK := hsf.keep hid kK
  have oK : K.obj H.next = some (.cells [.int .i64 r, s] true) := by rw [← eK]; simp [AHeap.new, hn]
  have hlen := PS_alen hsK
  simp only [c41, eK, hn, rwA, rwB, Nat.reduceAdd, Nat.reduceMul, Nat.reduceLeDiff, Int.reduceEq, Int.reduceLT, Int.reduceLE, Int.reduceAdd, Int.reduceSub, Int.reduceMul, ↓reduceIte, Nat.reduceEqDiff, reduceCtorEq, ↓cnd_true, ↓cnd_false]
  repeat (first | refine outs_seq ?_ | refine outs_block ?_ | refine outs_step ?_ | refine outs_stepD ?_ | refine rets_end ?_ | refine ans_end ?_)
  refine (loop41 (K := K) (p := H.next) (r := r) (s := s) (ps := ps) oK hsK hl ?_ ?_).mono ?_
  · simp [Env.set]
  · simp [Env.set]
  · rintro e env K' ⟨rfl, h1, (⟨rfl, hg⟩ | ⟨rfl, h2, hg⟩)⟩
    · have er : right r ps = (decide (1 ≤ r) && decide (r ≤ 64) && decide ((ps.length : Int) ≤ r)) := by unfold right; rw [hg, Bool.and_true]
      rw [er]
      cases t1 : decide (1 ≤ r) <;> cases t2 : decide (r ≤ 64) <;> cases t3 : decide ((ps.length : Int) ≤ r) <;> simp only [outs_some, h1, oK, hlen, t1, t2, t3, Bool.and_true, Bool.and_false, Bool.false_and, rwA, rwB, Nat.reduceAdd, Nat.reduceMul, Nat.reduceLeDiff, Int.reduceEq, Int.reduceLT, Int.reduceLE, Int.reduceAdd, Int.reduceSub, Int.reduceMul, ↓reduceIte, Nat.reduceEqDiff, reduceCtorEq, ↓cnd_true, ↓cnd_false]
    · have er : right r ps = false := by unfold right; rw [hg, Bool.and_false]
      rw [er]
      simp only [outs_some, h1, h2, rwA, rwB, Nat.reduceAdd, Nat.reduceMul, Nat.reduceLeDiff, Int.reduceEq, Int.reduceLT, Int.reduceLE, Int.reduceAdd, Int.reduceSub, Int.reduceMul, ↓reduceIte, Nat.reduceEqDiff, reduceCtorEq, ↓cnd_true, ↓cnd_false]

/-- Where the tick is. -/
def atN (ps : List (Int × Int)) (tk : Int) : Nat → Int × Bool
  | 0 => (0, false)
  | j + 1 => if (at0 ps j).1 ≤ tk then ((at0 ps j).2, true) else atN ps tk j
def atH (r : Int) (ps : List (Int × Int)) (tk : Int) : Int × Bool := if right r ps then atN ps tk ps.length else (0, false)

def b39 : ACode := (.seq (.seq (.region [⟨(some 9), (.mv (.tmp 8)), none, none⟩, ⟨(some 10), (.fieldA 1 (.tmp 2)), none, none⟩, ⟨(some 11), (.load false 1 (.tmp 10)), none, none⟩, ⟨(some 12), (.len false (.tmp 11)), none, none⟩, ⟨(some 13), (.bin .lss (.tmp 9) (.tmp 12)), none, none⟩, ⟨(some 14), (.mv (.tmp 13)), none, none⟩, ⟨(some 15), (.load true 2 (.tmp 2)), (some (14, true)), none⟩, ⟨(some 16), (.call (.con (.func 41 [] [])) [(.tmp 15)]), (some (14, true)), none⟩, ⟨(some 17), (.pick (.tmp 14) (.tmp 16) (.con (.bool false))), none, none⟩]) (.cond (.tmp 17) .skip (.exit 0))) (.seq (.block 1 (.seq (.region [⟨(some 20), (.fieldA 1 (.tmp 2)), none, none⟩, ⟨(some 21), (.load false 1 (.tmp 20)), none, none⟩, ⟨(some 22), (.mv (.tmp 8)), none, none⟩, ⟨(some 23), (.idxASl 2 (.tmp 21) (.tmp 22)), none, none⟩, ⟨(some 24), (.fieldA 0 (.tmp 23)), none, none⟩, ⟨(some 25), (.load false 1 (.tmp 24)), none, none⟩, ⟨(some 26), (.mv (.tmp 1)), none, none⟩, ⟨(some 27), (.bin .leq (.tmp 25) (.tmp 26)), none, none⟩]) (.cond (.tmp 27) (.region [⟨(some 28), (.fieldA 1 (.tmp 2)), none, none⟩, ⟨(some 29), (.load false 1 (.tmp 28)), none, none⟩, ⟨(some 30), (.mv (.tmp 8)), none, none⟩, ⟨(some 31), (.idxASl 2 (.tmp 29) (.tmp 30)), none, none⟩, ⟨(some 32), (.fieldA 1 (.tmp 31)), none, none⟩, ⟨(some 33), (.load false 1 (.tmp 32)), none, none⟩, ⟨(some 6), (.mv (.tmp 33)), none, none⟩, ⟨(some 7), (.mv (.con (.bool true))), none, none⟩]) .skip))) (.region [⟨(some 18), (.mv (.tmp 8)), none, none⟩, ⟨(some 19), (.bin .add (.tmp 18) (.con (.int .i64 1))), none, none⟩, ⟨(some 8), (.mv (.tmp 19)), none, none⟩])))
theorem loop39 {K : AHeap} {p : Nat} {r tk : Int} {s : AVal} {ps : List (Int × Int)} {env : Env} (op : K.obj p = some (.cells [.int .i64 r, s] true)) (hs : Sl K 2 s (PS ps)) (hid : ∀ i, i ∈ s.ids → i < K.next) (hl : ps.length < 9223372036854775807) (hr : right r ps = true)
    (h1 : env 1 = .int .i64 tk) (h2 : env 2 = .ptr p 0) (h6 : env 6 = .int .i64 0) (h7 : env 7 = .bool false) (h8 : env 8 = .int .i64 0) (hsc : s = .nils ∨ ∃ a b c d e, s = .slice a b c d e) :
    Outs (AX A (.loop b39) env K) fun e env' K' => e = .exit 0 ∧ env' 6 = .int .i64 (atN ps tk ps.length).1 ∧ env' 7 = .bool (atN ps tk ps.length).2 := by
  have hlen := PS_alen hs
  have u41 := U41 (r := r) hs hid hl
  rw [hr] at u41
  refine loop_ends (I := fun (j : Nat) env' K' => K' = K ∧ j ≤ ps.length ∧ env' 1 = .int .i64 tk ∧ env' 2 = .ptr p 0 ∧ env' 6 = .int .i64 (atN ps tk j).1 ∧ env' 7 = .bool (atN ps tk j).2 ∧ env' 8 = .int .i64 (j : Int)) (fun j => ps.length - j) ?_ 0 env K ⟨rfl, Nat.zero_le _, h1, h2, h6, h7, h8⟩
  rintro j env' K' ⟨rfl, hj, h1, h2, h6, h7, h8⟩
  by_cases hlt : j < ps.length
  · obtain ⟨id, off, cap, g, l, own, et, ho, hkk, hall⟩ := pts_at hs (by omega)
    have e1 : decide ((j : Int) < (ps.length : Int)) = true := by simp; omega
    have w1 : IntKind.i64.wrap ((j : Int) + 1) = ((j + 1 : Nat) : Int) := by rw [wrap_i64]; omega
    have ha : aidx ps.length (.int .i64 (j : Int)) = some j := by simp [aidx]; omega
    obtain ⟨g1, g2, g3⟩ := hall j hlt
    rw [Nat.add_assoc] at g3
    have ej := at0_get hlt
    obtain ⟨⟨x, y⟩, exy⟩ : ∃ q, ps[j] = q := ⟨_, rfl⟩
    rw [exy] at g1 g2 g3 ej
    subst et
    by_cases c1 : x ≤ tk
    · have es : atN ps tk (j + 1) = (y, true) := by simp [atN, ej, c1]
      simp only [b39, h1, h2, h6, h7, h8, op, hlen, e1, w1, ha, ho, g2, g3, u41, c1, decide_true, Bool.not_false, Bool.not_true, rwA, rwB, Nat.reduceAdd, Nat.reduceMul, Nat.reduceLeDiff, Int.reduceEq, Int.reduceLT, Int.reduceLE, Int.reduceAdd, Int.reduceSub, Int.reduceMul, ↓reduceIte, Nat.reduceEqDiff, reduceCtorEq, ↓cnd_true, ↓cnd_false]
      rw [outs_some]
      exact .inl ⟨rfl, j + 1, by omega, rfl, by omega, by simp [Env.set, h1], by simp [Env.set, h2], by rw [es]; simp [Env.set], by rw [es]; simp [Env.set], by simp [Env.set]⟩
    · have es : atN ps tk (j + 1) = atN ps tk j := by simp [atN, ej, c1]
      simp only [b39, h1, h2, h6, h7, h8, op, hlen, e1, w1, ha, ho, g2, g3, u41, c1, decide_false, Bool.not_false, Bool.not_true, rwA, rwB, Nat.reduceAdd, Nat.reduceMul, Nat.reduceLeDiff, Int.reduceEq, Int.reduceLT, Int.reduceLE, Int.reduceAdd, Int.reduceSub, Int.reduceMul, ↓reduceIte, Nat.reduceEqDiff, reduceCtorEq, ↓cnd_true, ↓cnd_false]
      rw [outs_some]
      exact .inl ⟨rfl, j + 1, by omega, rfl, by omega, by simp [Env.set, h1], by simp [Env.set, h2], by rw [es]; simp [Env.set, h6], by rw [es]; simp [Env.set, h7], by simp [Env.set]⟩
  · have : j = ps.length := by omega
    subst this
    have e1 : decide ((ps.length : Int) < (ps.length : Int)) = false := by simp
    rcases hsc with rfl | ⟨_, _, _, _, _, rfl⟩ <;> simp only [b39, h1, h2, h6, h7, h8, op, hlen, e1, rwA, rwB, Nat.reduceAdd, Nat.reduceMul, Nat.reduceLeDiff, Int.reduceEq, Int.reduceLT, Int.reduceLE, Int.reduceAdd, Int.reduceSub, Int.reduceMul, ↓reduceIte, Nat.reduceEqDiff, reduceCtorEq, ↓cnd_true, ↓cnd_false] <;> rw [outs_some] <;> exact .inr ⟨by simp, rfl, by simp [Env.set, h6], by simp [Env.set, h7]⟩

theorem sl_shape {H : AHeap} {es : Nat} {s : AVal} {cs : List AVal} (h : Sl H es s cs) : s = .nils ∨ ∃ a b c d e, s = .slice a b c d e := by
  rcases h with ⟨h, _⟩ | ⟨a, b, c, d, e, h, _⟩
  · exact .inl h
  · exact .inr ⟨a, b, c, d, e, h⟩

theorem U39 {H : AHeap} {r : Int} {s : AVal} {ps : List (Int × Int)} (hs : Sl H 2 s (PS ps)) (hid : ∀ i, i ∈ s.ids → i < H.next) (hl : ps.length < 9223372036854775807) (tk : Int) :
    AC A 39 [.agg [.int .i64 r, s], .int .i64 tk] H = some (.tuple [.int .i64 (atH r ps tk).1, .bool (atH r ps tk).2], H) := by
  refine look_val (x := GaFns.c39) rfl rfl rfl rfl ?_
  have hsf := hs.frz
  have hn : (frz H).next = H.next := rfl
  obtain ⟨K, eK⟩ : ∃ K, (frz H).new (.cells [.int .i64 r, s] true) = K := ⟨_, rfl⟩
  have kK : Keeps (frz H) K := by rw [← eK]; exact Keeps.new _ _
  have nK : K.next = H.next + 1 := by rw [← eK]; simp [new_next, hn]
  have hsK := hsf.keep hid kK
  have hidK : ∀ i, i ∈ s.ids → i < K.next := fun i hi => by have := hid i hi; omega
  have oK : K.obj H.next = some (.cells [.int .i64 r, s] true) := by rw [← eK]; simp [AHeap.new, hn]
  have hlen := PS_alen hsK
  have u41 := U41 (r := r) hsK hidK hl
  cases hr : right r ps
  · rw [hr] at u41
    have ea : atH r ps tk = (0, false) := by simp [atH, hr]
    rw [ea]
    by_cases h0 : ps.length = 0
    · have d0 : decide ((0 : Int) < (ps.length : Int)) = false := decide_eq_false (by omega)
      simp only [c39, eK, hn, s_loop, oK, hlen, d0, u41, rwA, rwB, Nat.reduceAdd, Nat.reduceMul, Nat.reduceLeDiff, Int.reduceEq, Int.reduceLT, Int.reduceLE, Int.reduceAdd, Int.reduceSub, Int.reduceMul, ↓reduceIte, Nat.reduceEqDiff, reduceCtorEq, ↓cnd_true, ↓cnd_false]
    · have d0 : decide ((0 : Int) < (ps.length : Int)) = true := decide_eq_true (by omega)
      rcases (sl_shape hsK) with rfl | ⟨_, _, _, _, _, rfl⟩ <;> simp only [c39, eK, hn, s_loop, oK, hlen, d0, u41, rwA, rwB, Nat.reduceAdd, Nat.reduceMul, Nat.reduceLeDiff, Int.reduceEq, Int.reduceLT, Int.reduceLE, Int.reduceAdd, Int.reduceSub, Int.reduceMul, ↓reduceIte, Nat.reduceEqDiff, reduceCtorEq, ↓cnd_true, ↓cnd_false]
  · have ea : atH r ps tk = atN ps tk ps.length := by simp [atH, hr]
    rw [ea]
    simp only [c39, eK, hn, rwA, rwB, Nat.reduceAdd, Nat.reduceMul, Nat.reduceLeDiff, Int.reduceEq, Int.reduceLT, Int.reduceLE, Int.reduceAdd, Int.reduceSub, Int.reduceMul, ↓reduceIte, Nat.reduceEqDiff, reduceCtorEq, ↓cnd_true, ↓cnd_false]
    repeat (first | refine outs_seq ?_ | refine outs_block ?_ | refine outs_step ?_ | refine outs_stepD ?_ | refine rets_end ?_ | refine ans_end ?_)
    refine (loop39 (K := K) (p := H.next) (r := r) (tk := tk) (s := s) (ps := ps) oK hsK hidK hl hr ?_ ?_ ?_ ?_ ?_ (sl_shape hsK)).mono ?_
    · simp [Env.set, ainit]
    · simp [Env.set]
    · simp [Env.set]
    · simp [Env.set]
    · simp [Env.set]
    · rintro e env K' ⟨rfl, h6, h7⟩
      simp only [outs_some, h6, h7, rwA, rwB, Nat.reduceAdd, Nat.reduceMul, Nat.reduceLeDiff, Int.reduceEq, Int.reduceLT, Int.reduceLE, Int.reduceAdd, Int.reduceSub, Int.reduceMul, ↓reduceIte, Nat.reduceEqDiff, reduceCtorEq, ↓cnd_true, ↓cnd_false]

end Go.Proofs.Ytfpbmoiconopcaa.Gh
