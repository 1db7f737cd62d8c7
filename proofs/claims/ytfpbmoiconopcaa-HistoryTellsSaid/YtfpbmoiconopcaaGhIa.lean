/- HistoryTells: Smooth; same. -/
import Derived.Test.YtfpbmoiconopcaaGhZ
set_option maxRecDepth 100000
set_option linter.unusedSimpArgs false
set_option linter.unusedVariables false
set_option maxHeartbeats 4000000
namespace Go.Proofs.Ytfpbmoiconopcaa.Gh
open Go Go.Proofs.Ytfpbmoiconopcaa.Am GaFns Go.RowKit

def smN (ps : List (Int × Int)) (lim k : Int) : Nat → Nat
  | 0 => 9221120237041090561
  | j + 1 => blend (smN ps lim k j) (off (at0 ps j).2 lim) k
def smooth (r : Int) (ps : List (Int × Int)) (lim k : Int) : Nat := if right r ps then smN ps lim k ps.length else 9221120237041090561

def b46 : ACode := (.seq (.region [⟨(some 19), (.bin .lss (.tmp 18) (.tmp 17)), none, none⟩]) (.seq (.cond (.tmp 19) .skip (.exit 0)) (.seq (.block 1 (.seq (.region [⟨(some 20), (.idxASl 2 (.tmp 16) (.tmp 18)), none, none⟩, ⟨(some 21), (.load true 2 (.tmp 20)), none, none⟩, ⟨(some 9), (.new [(.int .i64 0), (.int .i64 0)]), none, none⟩, ⟨none, (.store 2 (.tmp 9) (.tmp 21)), none, none⟩]) (.region [⟨(some 22), (.mv (.tmp 7)), none, none⟩, ⟨(some 23), (.fieldA 1 (.tmp 9)), none, none⟩, ⟨(some 24), (.load false 1 (.tmp 23)), none, none⟩, ⟨(some 25), (.mv (.tmp 1)), none, none⟩, ⟨(some 26), (.call (.con (.func 16 [] [])) [(.tmp 24), (.tmp 25)]), none, none⟩, ⟨(some 27), (.mv (.tmp 2)), none, none⟩, ⟨(some 28), (.call (.con (.func 22 [] [])) [(.tmp 22), (.tmp 26), (.tmp 27)]), none, none⟩, ⟨(some 7), (.mv (.tmp 28)), none, none⟩]))) (.region [⟨(some 29), (.bin .add (.tmp 18) (.con (.int .i64 1))), none, none⟩, ⟨(some 18), (.mv (.tmp 29)), none, none⟩]))))
theorem loop46 {K0 : AHeap} {s : AVal} {ps : List (Int × Int)} {lim k : Int} {env : Env} (hs : Sl K0 2 s (PS ps)) (hid : ∀ i, i ∈ s.ids → i < K0.next) (hl : ps.length < 9223372036854775807)
    (h1 : env 1 = .int .i64 lim) (h2 : env 2 = .int .i64 k) (h7 : env 7 = .flt .f64 9221120237041090561) (h16 : env 16 = s) (h17 : env 17 = .int .i64 (ps.length : Int)) (h18 : env 18 = .int .i64 0) :
    Outs (AX A (.loop b46) env K0) fun e env' K' => e = .exit 0 ∧ env' 7 = .flt .f64 (smN ps lim k ps.length) := by
  refine loop_ends (I := fun (j : Nat) env' K' => Keeps K0 K' ∧ j ≤ ps.length ∧ env' 1 = .int .i64 lim ∧ env' 2 = .int .i64 k ∧ env' 7 = .flt .f64 (smN ps lim k j) ∧ env' 16 = s ∧ env' 17 = .int .i64 (ps.length : Int) ∧ env' 18 = .int .i64 (j : Int)) (fun j => ps.length - j) ?_ 0 env K0 ⟨Keeps.refl _, Nat.zero_le _, h1, h2, h7, h16, h17, h18⟩
  rintro j env' K ⟨hk, hj, h1, h2, h7, h16, h17, h18⟩
  by_cases hlt : j < ps.length
  · obtain ⟨id, off', cap, g, l, own, et, ho, hkk, hall⟩ := pts_at (hs.keep hid hk) (by omega)
    have e1 : decide ((j : Int) < (ps.length : Int)) = true := by simp; omega
    have w1 : IntKind.i64.wrap ((j : Int) + 1) = ((j + 1 : Nat) : Int) := by rw [wrap_i64]; omega
    have ha : aidx ps.length (.int .i64 (j : Int)) = some j := by simp [aidx]; omega
    obtain ⟨g1, _, _⟩ := hall j hlt
    have ej := at0_get hlt
    obtain ⟨⟨x, y⟩, exy⟩ : ∃ q, ps[j] = q := ⟨_, rfl⟩
    rw [exy] at g1 ej
    have es : smN ps lim k (j + 1) = blend (smN ps lim k j) (off y lim) k := by simp only [smN, ej]
    obtain ⟨K1, eK1⟩ : ∃ X, (K.new (.cells [.int .i64 0, .int .i64 0] true)).set K.next (.cells [.int .i64 x, .int .i64 y] true) = X := ⟨_, rfl⟩
    have oK1 : K1.obj K.next = some (.cells [.int .i64 x, .int .i64 y] true) := by rw [← eK1]; simp [AHeap.set]
    have kK1 : Keeps K K1 := ⟨by rw [← eK1]; simp [set_next, new_next], fun i hi => by rw [← eK1]; simp only [set_obj, new_obj]; rw [if_neg (by omega), if_neg (by omega)]⟩
    subst et
    simp only [b46, h1, h2, h7, h16, h17, h18, e1, w1, ha, ho, g1, eK1, oK1, U16, U22, ← es, rwA, rwB, Nat.reduceAdd, Nat.reduceMul, Nat.reduceLeDiff, Int.reduceEq, Int.reduceLT, Int.reduceLE, Int.reduceAdd, Int.reduceSub, Int.reduceMul, ↓reduceIte, Nat.reduceEqDiff, reduceCtorEq, ↓cnd_true, ↓cnd_false]
    rw [outs_some]
    exact .inl ⟨rfl, j + 1, by omega, hk.trans kK1, by omega, by simp [Env.set, h1], by simp [Env.set, h2], by simp [Env.set], by simp [Env.set, h16], by simp [Env.set, h17], by simp [Env.set]⟩
  · have : j = ps.length := by omega
    subst this
    have e1 : decide ((ps.length : Int) < (ps.length : Int)) = false := by simp
    simp only [b46, h17, h18, e1, rwA, rwB, Nat.reduceAdd, Nat.reduceMul, Nat.reduceLeDiff, Int.reduceEq, Int.reduceLT, Int.reduceLE, Int.reduceAdd, Int.reduceSub, Int.reduceMul, ↓reduceIte, Nat.reduceEqDiff, reduceCtorEq, ↓cnd_true, ↓cnd_false]
    rw [outs_some]
    exact .inr ⟨by simp, rfl, by simp [Env.set, h7]⟩

theorem U46 {H : AHeap} {r : Int} {s : AVal} {ps : List (Int × Int)} (hs : Sl H 2 s (PS ps)) (hid : ∀ i, i ∈ s.ids → i < H.next) (hl : ps.length < 9223372036854775807) (lim k : Int) :
    AC A 46 [.agg [.int .i64 r, s], .int .i64 lim, .int .i64 k] H = some (.flt .f64 (smooth r ps lim k), H) := by
  refine look_val (x := GaFns.c46) rfl rfl rfl rfl ?_
  have hsf := hs.frz
  have hn : (frz H).next = H.next := rfl
  obtain ⟨K, eK⟩ : ∃ K, (frz H).new (.cells [.int .i64 r, s] true) = K := ⟨_, rfl⟩
  have kK : Keeps (frz H) K := by rw [← eK]; exact Keeps.new _ _
  have nK : K.next = H.next + 1 := by rw [← eK]; simp [new_next, hn]
  have hsK := hsf.keep hid kK
  have hidK : ∀ i, i ∈ s.ids → i < K.next := fun i hi => by have := hid i hi; omega
  have oK : K.obj H.next = some (.cells [.int .i64 r, s] true) := by rw [← eK]; simp [AHeap.new, hn]
  have hlen := PS_alen hsK
  have u35 := U35 (r := r) hsK hidK hl
  have c0 := chk0 r ps
  cases hr : right r ps <;> rw [hr] at c0
  · have ea : smooth r ps lim k = 9221120237041090561 := by simp [smooth, hr]
    rw [ea]
    simp only [c46, eK, hn, oK, u35, c0, U76, Bool.not_false, Bool.not_true, rwA, rwB, Nat.reduceAdd, Nat.reduceMul, Nat.reduceLeDiff, Int.reduceEq, Int.reduceLT, Int.reduceLE, Int.reduceAdd, Int.reduceSub, Int.reduceMul, ↓reduceIte, Nat.reduceEqDiff, reduceCtorEq, ↓cnd_true, ↓cnd_false]
  · have ea : smooth r ps lim k = smN ps lim k ps.length := by simp [smooth, hr]
    rw [ea]
    simp only [c46, eK, hn, oK, u35, c0, U76, hlen, Bool.not_false, Bool.not_true, rwA, rwB, Nat.reduceAdd, Nat.reduceMul, Nat.reduceLeDiff, Int.reduceEq, Int.reduceLT, Int.reduceLE, Int.reduceAdd, Int.reduceSub, Int.reduceMul, ↓reduceIte, Nat.reduceEqDiff, reduceCtorEq, ↓cnd_true, ↓cnd_false]
    repeat (first | refine outs_seq ?_ | refine outs_block ?_ | refine outs_step ?_ | refine outs_stepD ?_ | refine rets_end ?_ | refine ans_end ?_)
    refine (loop46 (K0 := K) (s := s) (ps := ps) (lim := lim) (k := k) hsK hidK hl ?_ ?_ ?_ ?_ ?_ ?_).mono ?_
    · simp [Env.set, ainit]
    · simp [Env.set, ainit]
    · simp [Env.set]
    · simp [Env.set]
    · simp [Env.set]
    · simp [Env.set]
    · rintro e env K' ⟨rfl, h7⟩
      simp only [outs_some, h7, rwA, rwB, Nat.reduceAdd, Nat.reduceMul, Nat.reduceLeDiff, Int.reduceEq, Int.reduceLT, Int.reduceLE, Int.reduceAdd, Int.reduceSub, Int.reduceMul, ↓reduceIte, Nat.reduceEqDiff, reduceCtorEq, ↓cnd_true, ↓cnd_false]

def b47 : ACode := (.seq (.seq (.region [⟨(some 10), (.mv (.tmp 8)), none, none⟩, ⟨(some 11), (.fieldA 1 (.tmp 3)), none, none⟩, ⟨(some 12), (.load false 1 (.tmp 11)), none, none⟩, ⟨(some 13), (.len false (.tmp 12)), none, none⟩, ⟨(some 14), (.bin .lss (.tmp 10) (.tmp 13)), none, none⟩, ⟨(some 15), (.mv (.tmp 14)), none, none⟩, ⟨(some 16), (.load true 2 (.tmp 3)), (some (15, true)), none⟩, ⟨(some 17), (.call (.con (.func 41 [] [])) [(.tmp 16)]), (some (15, true)), none⟩, ⟨(some 18), (.pick (.tmp 15) (.tmp 17) (.con (.bool false))), none, none⟩]) (.cond (.tmp 18) .skip (.exit 0))) (.seq (.block 1 (.region [⟨(some 21), (.mv (.tmp 7)), none, none⟩, ⟨(some 22), (.fieldA 1 (.tmp 3)), none, none⟩, ⟨(some 23), (.load false 1 (.tmp 22)), none, none⟩, ⟨(some 24), (.mv (.tmp 8)), none, none⟩, ⟨(some 25), (.idxASl 2 (.tmp 23) (.tmp 24)), none, none⟩, ⟨(some 26), (.fieldA 1 (.tmp 25)), none, none⟩, ⟨(some 27), (.load false 1 (.tmp 26)), none, none⟩, ⟨(some 28), (.mv (.tmp 1)), none, none⟩, ⟨(some 29), (.call (.con (.func 17 [] [])) [(.tmp 27), (.tmp 28)]), none, none⟩, ⟨(some 30), (.mv (.tmp 2)), none, none⟩, ⟨(some 31), (.call (.con (.func 23 [] [])) [(.tmp 21), (.tmp 29), (.tmp 30)]), none, none⟩, ⟨(some 7), (.mv (.tmp 31)), none, none⟩])) (.region [⟨(some 19), (.mv (.tmp 8)), none, none⟩, ⟨(some 20), (.bin .add (.tmp 19) (.con (.int .i64 1))), none, none⟩, ⟨(some 8), (.mv (.tmp 20)), none, none⟩])))
theorem loop47 {K : AHeap} {p : Nat} {r : Int} {s : AVal} {ps : List (Int × Int)} {lim k : Int} {env : Env} (op : K.obj p = some (.cells [.int .i64 r, s] true)) (hs : Sl K 2 s (PS ps)) (hid : ∀ i, i ∈ s.ids → i < K.next) (hl : ps.length < 9223372036854775807) (hr : right r ps = true)
    (h1 : env 1 = .int .i64 lim) (h2 : env 2 = .int .i64 k) (h3 : env 3 = .ptr p 0) (h7 : env 7 = .flt .f64 9221120237041090561) (h8 : env 8 = .int .i64 0) :
    Outs (AX A (.loop b47) env K) fun e env' K' => e = .exit 0 ∧ env' 7 = .flt .f64 (smN ps lim k ps.length) := by
  have hlen := PS_alen hs
  have u41 := U41 (r := r) hs hid hl
  rw [hr] at u41
  refine loop_ends (I := fun (j : Nat) env' K' => K' = K ∧ j ≤ ps.length ∧ env' 1 = .int .i64 lim ∧ env' 2 = .int .i64 k ∧ env' 3 = .ptr p 0 ∧ env' 7 = .flt .f64 (smN ps lim k j) ∧ env' 8 = .int .i64 (j : Int)) (fun j => ps.length - j) ?_ 0 env K ⟨rfl, Nat.zero_le _, h1, h2, h3, h7, h8⟩
  rintro j env' K' ⟨rfl, hj, h1, h2, h3, h7, h8⟩
  by_cases hlt : j < ps.length
  · obtain ⟨id, off', cap, g, l, own, et, ho, hkk, hall⟩ := pts_at hs (by omega)
    have e1 : decide ((j : Int) < (ps.length : Int)) = true := by simp; omega
    have w1 : IntKind.i64.wrap ((j : Int) + 1) = ((j + 1 : Nat) : Int) := by rw [wrap_i64]; omega
    have ha : aidx ps.length (.int .i64 (j : Int)) = some j := by simp [aidx]; omega
    obtain ⟨_, _, g3⟩ := hall j hlt
    rw [Nat.add_assoc] at g3
    have ej := at0_get hlt
    obtain ⟨⟨x, y⟩, exy⟩ : ∃ q, ps[j] = q := ⟨_, rfl⟩
    rw [exy] at g3 ej
    have es : smN ps lim k (j + 1) = blend (smN ps lim k j) (off y lim) k := by simp only [smN, ej]
    subst et
    simp only [b47, h1, h2, h3, h7, h8, op, hlen, e1, w1, ha, ho, g3, u41, U17, U23, ← es, rwA, rwB, Nat.reduceAdd, Nat.reduceMul, Nat.reduceLeDiff, Int.reduceEq, Int.reduceLT, Int.reduceLE, Int.reduceAdd, Int.reduceSub, Int.reduceMul, ↓reduceIte, Nat.reduceEqDiff, reduceCtorEq, ↓cnd_true, ↓cnd_false]
    rw [outs_some]
    exact .inl ⟨rfl, j + 1, by omega, rfl, by omega, by simp [Env.set, h1], by simp [Env.set, h2], by simp [Env.set, h3], by simp [Env.set], by simp [Env.set]⟩
  · have : j = ps.length := by omega
    subst this
    have e1 : decide ((ps.length : Int) < (ps.length : Int)) = false := by simp
    rcases sl_shape hs with rfl | ⟨_, _, _, _, _, rfl⟩ <;> simp only [b47, h1, h2, h3, h7, h8, op, hlen, e1, rwA, rwB, Nat.reduceAdd, Nat.reduceMul, Nat.reduceLeDiff, Int.reduceEq, Int.reduceLT, Int.reduceLE, Int.reduceAdd, Int.reduceSub, Int.reduceMul, ↓reduceIte, Nat.reduceEqDiff, reduceCtorEq, ↓cnd_true, ↓cnd_false] <;> rw [outs_some] <;> exact .inr ⟨by simp, rfl, by simp [Env.set, h7]⟩

theorem U47 {H : AHeap} {r : Int} {s : AVal} {ps : List (Int × Int)} (hs : Sl H 2 s (PS ps)) (hid : ∀ i, i ∈ s.ids → i < H.next) (hl : ps.length < 9223372036854775807) (lim k : Int) :
    AC A 47 [.agg [.int .i64 r, s], .int .i64 lim, .int .i64 k] H = some (.flt .f64 (smooth r ps lim k), H) := by
  refine look_val (x := GaFns.c47) rfl rfl rfl rfl ?_
  have hsf := hs.frz
  have hn : (frz H).next = H.next := rfl
  obtain ⟨K, eK⟩ : ∃ K, (frz H).new (.cells [.int .i64 r, s] true) = K := ⟨_, rfl⟩
  have kK : Keeps (frz H) K := by rw [← eK]; exact Keeps.new _ _
  have nK : K.next = H.next + 1 := by rw [← eK]; simp [new_next, hn]
  have hsK := hsf.keep hid kK
  have hidK : ∀ i, i ∈ s.ids → i < K.next := fun i hi => by have := hid i hi; omega
  have oK : K.obj H.next = some (.cells [.int .i64 r, s] true) := by rw [← eK]; simp [AHeap.new, hn]
  have hlen := PS_alen hsK
  have u41 := U41 (r := r) hsK hidK hl
  cases hr : right r ps
  · rw [hr] at u41
    have ea : smooth r ps lim k = 9221120237041090561 := by simp [smooth, hr]
    rw [ea]
    by_cases h0 : ps.length = 0
    · have d0 : decide ((0 : Int) < (ps.length : Int)) = false := decide_eq_false (by omega)
      simp only [c47, eK, hn, s_loop, oK, hlen, d0, u41, U73, rwA, rwB, Nat.reduceAdd, Nat.reduceMul, Nat.reduceLeDiff, Int.reduceEq, Int.reduceLT, Int.reduceLE, Int.reduceAdd, Int.reduceSub, Int.reduceMul, ↓reduceIte, Nat.reduceEqDiff, reduceCtorEq, ↓cnd_true, ↓cnd_false]
    · have d0 : decide ((0 : Int) < (ps.length : Int)) = true := decide_eq_true (by omega)
      rcases (sl_shape hsK) with rfl | ⟨_, _, _, _, _, rfl⟩ <;> simp only [c47, eK, hn, s_loop, oK, hlen, d0, u41, U73, rwA, rwB, Nat.reduceAdd, Nat.reduceMul, Nat.reduceLeDiff, Int.reduceEq, Int.reduceLT, Int.reduceLE, Int.reduceAdd, Int.reduceSub, Int.reduceMul, ↓reduceIte, Nat.reduceEqDiff, reduceCtorEq, ↓cnd_true, ↓cnd_false]
  · have ea : smooth r ps lim k = smN ps lim k ps.length := by simp [smooth, hr]
    rw [ea]
    simp only [c47, eK, hn, U73, rwA, rwB, Nat.reduceAdd, Nat.reduceMul, Nat.reduceLeDiff, Int.reduceEq, Int.reduceLT, Int.reduceLE, Int.reduceAdd, Int.reduceSub, Int.reduceMul, ↓reduceIte, Nat.reduceEqDiff, reduceCtorEq, ↓cnd_true, ↓cnd_false]
    repeat (first | refine outs_seq ?_ | refine outs_block ?_ | refine outs_step ?_ | refine outs_stepD ?_ | refine rets_end ?_ | refine ans_end ?_)
    refine (loop47 (K := K) (p := H.next) (r := r) (s := s) (ps := ps) (lim := lim) (k := k) oK hsK hidK hl hr ?_ ?_ ?_ ?_ ?_).mono ?_
    · simp [Env.set, ainit]
    · simp [Env.set, ainit]
    · simp [Env.set]
    · simp [Env.set]
    · simp [Env.set]
    · rintro e env K' ⟨rfl, h7⟩
      simp only [outs_some, h7, rwA, rwB, Nat.reduceAdd, Nat.reduceMul, Nat.reduceLeDiff, Int.reduceEq, Int.reduceLT, Int.reduceLE, Int.reduceAdd, Int.reduceSub, Int.reduceMul, ↓reduceIte, Nat.reduceEqDiff, reduceCtorEq, ↓cnd_true, ↓cnd_false]

end Go.Proofs.Ytfpbmoiconopcaa.Gh
