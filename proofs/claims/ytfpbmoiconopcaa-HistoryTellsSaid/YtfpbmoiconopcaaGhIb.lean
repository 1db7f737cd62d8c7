/- HistoryTells: same; the reference's Peaks. -/
import Derived.Test.YtfpbmoiconopcaaGhIa
set_option maxRecDepth 100000
set_option linter.unusedSimpArgs false
set_option linter.unusedVariables false
set_option maxHeartbeats 4000000
namespace Go.Proofs.Ytfpbmoiconopcaa.Gh
open Go Go.Proofs.Ytfpbmoiconopcaa.Am GaFns Go.RowKit

def b43 : ACode := (.seq (.region [⟨(some 11), (.bin .lss (.tmp 10) (.tmp 9)), none, none⟩]) (.seq (.cond (.tmp 11) .skip (.exit 0)) (.seq (.block 1 (.seq (.region [⟨(some 12), (.idxASl 2 (.tmp 8) (.tmp 10)), none, none⟩, ⟨(some 13), (.load true 2 (.tmp 12)), none, none⟩, ⟨(some 7), (.new [(.int .i64 0), (.int .i64 0)]), none, none⟩, ⟨none, (.store 2 (.tmp 7) (.tmp 13)), none, none⟩]) (.region [⟨(some 14), (.mv (.tmp 5)), none, none⟩, ⟨(some 15), (.fieldA 0 (.tmp 7)), none, none⟩, ⟨(some 16), (.load false 1 (.tmp 15)), none, none⟩, ⟨(some 17), (.fieldA 1 (.tmp 7)), none, none⟩, ⟨(some 18), (.load false 1 (.tmp 17)), none, none⟩, ⟨(some 19), (.build [(.int .i64 0), (.int .i64 0)] [(0, (1, (.tmp 16))), (1, (1, (.tmp 18)))]), none, none⟩, ⟨(some 20), (.buildS 1 [(.int .i64 0), (.int .i64 0)] [(0, (2, (.tmp 19)))]), none, none⟩, ⟨(some 21), (.append 2 16 (.tmp 14) (.tmp 20)), none, none⟩, ⟨(some 5), (.mv (.tmp 21)), none, none⟩]))) (.region [⟨(some 22), (.bin .add (.tmp 10) (.con (.int .i64 1))), none, none⟩, ⟨(some 10), (.mv (.tmp 22)), none, none⟩]))))
def J43 (K0 : AHeap) (s t : AVal) (ps : List (Int × Int)) (j : Nat) (env : Env) (K : AHeap) : Prop :=
  j ≤ ps.length ∧ Keeps K0 K ∧ env 1 = t ∧ env 8 = s ∧ env 9 = .int .i64 (ps.length : Int) ∧ env 10 = .int .i64 (j : Int) ∧ ∃ v, env 5 = v ∧ Ow K 2 v (PS (ps.take j)) ∧ ∀ i, i ∈ v.ids → K0.next ≤ i
theorem loop43 {K0 : AHeap} {s t : AVal} {ps : List (Int × Int)} {env : Env} (hs : Sl K0 2 s (PS ps)) (hid : ∀ i, i ∈ s.ids → i < K0.next) (hl : ps.length ≤ 8796093021952) (h : J43 K0 s t ps 0 env K0) :
    Outs (AX A (.loop b43) env K0) fun e env' K' => e = .exit 0 ∧ J43 K0 s t ps ps.length env' K' := by
  refine loop_ends (I := fun (j : Nat) env' K' => J43 K0 s t ps j env' K') (fun j => ps.length - j) ?_ 0 env K0 h
  rintro j env K ⟨hj, hk, h1, h7, h8, h9, v, h3, hv, hvi⟩
  by_cases hlt : j < ps.length
  · have hsK := hs.keep hid hk
    obtain ⟨id, off, cap, g, l, own, et, ho, hkk, hall⟩ := pts_at hsK (by omega)
    have e1 : decide ((j : Int) < (ps.length : Int)) = true := by simp; omega
    have w1 : IntKind.i64.wrap ((j : Int) + 1) = ((j + 1 : Nat) : Int) := by rw [wrap_i64]; omega
    have ha : aidx ps.length (.int .i64 (j : Int)) = some j := by simp [aidx]; omega
    obtain ⟨g1, g2, g3⟩ := hall j hlt
    obtain ⟨⟨x, y⟩, exy⟩ : ∃ q, ps[j] = q := ⟨_, rfl⟩
    rw [exy] at g1 g2 g3
    subst et
    obtain ⟨K1, eK1⟩ : ∃ X, (K.new (.cells [.int .i64 0, .int .i64 0] true)).set K.next (.cells [.int .i64 x, .int .i64 y] true) = X := ⟨_, rfl⟩
    have nK1 : K1.next = K.next + 1 := by rw [← eK1]; rfl
    have oK1 : K1.obj K.next = some (.cells [.int .i64 x, .int .i64 y] true) := by rw [← eK1]; simp [AHeap.set]
    have kK1 : Keeps K K1 := ⟨by omega, fun i hi => by rw [← eK1]; simp only [set_obj, new_obj]; rw [if_neg (by omega), if_neg (by omega)]⟩
    have hv1 : Ow K1 2 v (PS (ps.take j)) := hv.keeps kK1.1 fun i hi => kK1.2 i (hv.lt i hi)
    obtain ⟨K2, ap, oN, nK2, kK2⟩ := bp_push (.inl hv1) x y (by simp; omega)
    have elen : (ps.take j).length = j := by simp; omega
    have etk : ps.take j ++ [(x, y)] = ps.take (j + 1) := by rw [← exy, List.take_succ_eq_append_getElem hlt]
    rw [nK1, elen] at ap
    rw [nK1] at oN nK2 kK2
    rw [etk] at oN
    simp only [b43, h1, h3, h7, h8, h9, e1, w1, ha, ho, g1, eK1, nK1, oK1, ap, rwA, rwB, Nat.reduceAdd, Nat.reduceMul, Nat.reduceLeDiff, Int.reduceEq, Int.reduceLT, Int.reduceLE, Int.reduceAdd, Int.reduceSub, Int.reduceMul, ↓reduceIte, Nat.reduceEqDiff, reduceCtorEq, ↓cnd_true, ↓cnd_false]
    rw [outs_some]
    refine .inl ⟨rfl, j + 1, by omega, by omega, ⟨by have := hk.1; omega, fun i hi => ?_⟩, by simp [Env.set, h1], by simp [Env.set, h7], by simp [Env.set, h8], by simp [Env.set], .slice (K.next + 1 + 1) 0 (j + 1) (j + 1) (some 2), by simp [Env.set], ?_, ?_⟩
    · have hkn := hk.1
      rw [kK2 i (by omega) (fun hx => by have := hvi i hx; omega), kK1.2 i (by omega), hk.2 i hi]
    · refine .inr ⟨_, _, rfl, ?_, by omega, oN, by omega⟩
      rw [PS_len]; simp; omega
    · intro i hi
      simp [AVal.ids] at hi
      have := hk.1
      omega
  · have : j = ps.length := by omega
    subst this
    have e1 : decide ((ps.length : Int) < (ps.length : Int)) = false := by simp
    simp only [b43, h8, h9, e1, rwA, rwB, Nat.reduceAdd, Nat.reduceMul, Nat.reduceLeDiff, Int.reduceEq, Int.reduceLT, Int.reduceLE, Int.reduceAdd, Int.reduceSub, Int.reduceMul, ↓reduceIte, Nat.reduceEqDiff, reduceCtorEq, ↓cnd_true, ↓cnd_false]
    rw [outs_some]
    exact .inr ⟨by simp, rfl, hj, hk, by simp [Env.set, h1], by simp [Env.set, h7], by simp [Env.set, h8], by simp [Env.set, h9], v, by simp [Env.set, h3], hv, hvi⟩

theorem U43 {H : AHeap} {s t : AVal} {ps qs : List (Int × Int)} (hs : Sl H 2 s (PS ps)) (hid : ∀ i, i ∈ s.ids → i < H.next) (ht : Sl H 2 t (PS qs)) (htd : ∀ i, i ∈ t.ids → i < H.next) (hl : ps.length ≤ 8796093021952) :
    AC A 43 [s, t] H = some (.bool (decide (ps = qs)), H) := by
  refine look_val (x := GaFns.c43) rfl rfl rfl rfl ?_
  have hsf := hs.frz
  have htf := ht.frz
  have hn : (frz H).next = H.next := rfl
  have hlen := PS_alen hsf
  simp only [c43, hlen, rwA, rwB, Nat.reduceAdd, Nat.reduceMul, Nat.reduceLeDiff, Int.reduceEq, Int.reduceLT, Int.reduceLE, Int.reduceAdd, Int.reduceSub, Int.reduceMul, ↓reduceIte, Nat.reduceEqDiff, reduceCtorEq, ↓cnd_true, ↓cnd_false]
  repeat (first | refine outs_seq ?_ | refine outs_block ?_ | refine outs_step ?_ | refine outs_stepD ?_ | refine rets_end ?_ | refine ans_end ?_)
  refine (loop43 (K0 := frz H) (s := s) (t := t) (ps := ps) hsf (fun i hi => hid i hi) hl ⟨Nat.zero_le _, Keeps.refl _, ?_, ?_, ?_, ?_, .nils, ?_, .inl ⟨rfl, rfl⟩, by simp [AVal.ids]⟩).mono ?_
  · simp [Env.set, ainit]
  · simp [Env.set, ainit]
  · simp [Env.set]
  · simp [Env.set]
  · simp [Env.set]
  · rintro e env K' ⟨rfl, _, hk, h1, _, _, _, v, h3, hv, hvi⟩
    rw [List.take_length] at hv
    have u75 := U75 hv.sl (htf.keep (fun i hi => htd i hi) hk) (by omega)
    simp only [outs_some, h1, h3, u75, rwA, rwB, Nat.reduceAdd, Nat.reduceMul, Nat.reduceLeDiff, Int.reduceEq, Int.reduceLT, Int.reduceLE, Int.reduceAdd, Int.reduceSub, Int.reduceMul, ↓reduceIte, Nat.reduceEqDiff, reduceCtorEq, ↓cnd_true, ↓cnd_false]

theorem Bp.keep {K K' : AHeap} {v : AVal} {ps : List (Int × Int)} (h : Bp K v ps) (hk : Keeps K K') : Bp K' v ps := by
  rcases h with h | ⟨rfl, id, rfl, h1, h2⟩
  · exact .inl (h.keeps hk.1 fun i hi => hk.2 i (h.lt i hi))
  · exact .inr ⟨rfl, id, rfl, by have := hk.1; omega, by rw [hk.2 _ h1]; exact h2⟩
theorem Bp.lt {K : AHeap} {v : AVal} {ps : List (Int × Int)} (h : Bp K v ps) : ∀ i, i ∈ v.ids → i < K.next := by
  rcases h with h | ⟨rfl, id, rfl, h1, h2⟩
  · exact h.lt
  · intro i hi; simp [AVal.ids] at hi; omega

def b51 : ACode := (.seq (.seq (.region [⟨(some 7), (.mv (.tmp 4)), none, none⟩, ⟨(some 8), (.fieldA 1 (.tmp 1)), none, none⟩, ⟨(some 9), (.load false 1 (.tmp 8)), none, none⟩, ⟨(some 10), (.len false (.tmp 9)), none, none⟩, ⟨(some 11), (.bin .lss (.tmp 7) (.tmp 10)), none, none⟩, ⟨(some 12), (.mv (.tmp 11)), none, none⟩, ⟨(some 13), (.load true 2 (.tmp 1)), (some (12, true)), none⟩, ⟨(some 14), (.call (.con (.func 41 [] [])) [(.tmp 13)]), (some (12, true)), none⟩, ⟨(some 15), (.pick (.tmp 12) (.tmp 14) (.con (.bool false))), none, none⟩]) (.cond (.tmp 15) .skip (.exit 0))) (.seq (.block 1 (.seq (.region [⟨(some 18), (.fieldA 1 (.tmp 1)), none, none⟩, ⟨(some 19), (.load false 1 (.tmp 18)), none, none⟩, ⟨(some 20), (.mv (.tmp 4)), none, none⟩, ⟨(some 21), (.idxASl 2 (.tmp 19) (.tmp 20)), none, none⟩, ⟨(some 22), (.load true 2 (.tmp 21)), none, none⟩, ⟨(some 5), (.new [(.int .i64 0), (.int .i64 0)]), none, none⟩, ⟨none, (.store 2 (.tmp 5) (.tmp 22)), none, none⟩]) (.seq (.seq (.draw [⟨(some 23), (.mv (.tmp 4)), none, none⟩, ⟨(some 24), (.bin .gtr (.tmp 23) (.con (.int .i64 0))), none, none⟩, ⟨(some 25), (.mv (.tmp 24)), none, none⟩, ⟨(some 26), (.fieldA 1 (.tmp 1)), (some (25, true)), none⟩, ⟨(some 27), (.load false 1 (.tmp 26)), (some (25, true)), none⟩, ⟨(some 28), (.mv (.tmp 4)), (some (25, true)), none⟩, ⟨(some 29), (.bin .sub (.tmp 28) (.con (.int .i64 1))), (some (25, true)), none⟩, ⟨(some 30), (.idxASl 2 (.tmp 27) (.tmp 29)), (some (25, true)), none⟩, ⟨(some 31), (.fieldA 1 (.tmp 30)), (some (25, true)), none⟩, ⟨(some 32), (.load false 1 (.tmp 31)), (some (25, true)), none⟩, ⟨(some 33), (.fieldA 1 (.tmp 5)), (some (25, true)), none⟩, ⟨(some 34), (.load false 1 (.tmp 33)), (some (25, true)), none⟩, ⟨(some 35), (.bin .geq (.tmp 32) (.tmp 34)), (some (25, true)), none⟩, ⟨(some 36), (.pick (.tmp 25) (.tmp 35) (.con (.bool false))), none, none⟩, ⟨(some 37), (.mv (.tmp 36)), none, none⟩, ⟨(some 38), (.mv (.tmp 4)), (some (37, false)), none⟩, ⟨(some 39), (.bin .add (.tmp 38) (.con (.int .i64 1))), (some (37, false)), none⟩, ⟨(some 40), (.fieldA 1 (.tmp 1)), (some (37, false)), none⟩, ⟨(some 41), (.load false 1 (.tmp 40)), (some (37, false)), none⟩, ⟨(some 42), (.len false (.tmp 41)), (some (37, false)), none⟩, ⟨(some 43), (.bin .lss (.tmp 39) (.tmp 42)), (some (37, false)), none⟩, ⟨(some 44), (.mv (.tmp 43)), (some (37, false)), none⟩, ⟨(some 45), (.fieldA 1 (.tmp 1)), (some (44, true)), none⟩, ⟨(some 46), (.load false 1 (.tmp 45)), (some (44, true)), none⟩, ⟨(some 47), (.mv (.tmp 4)), (some (44, true)), none⟩, ⟨(some 48), (.bin .add (.tmp 47) (.con (.int .i64 1))), (some (44, true)), none⟩, ⟨(some 49), (.idxASl 2 (.tmp 46) (.tmp 48)), (some (44, true)), none⟩, ⟨(some 50), (.fieldA 1 (.tmp 49)), (some (44, true)), none⟩, ⟨(some 51), (.load false 1 (.tmp 50)), (some (44, true)), none⟩, ⟨(some 52), (.fieldA 1 (.tmp 5)), (some (44, true)), none⟩, ⟨(some 53), (.load false 1 (.tmp 52)), (some (44, true)), none⟩, ⟨(some 54), (.bin .gtr (.tmp 51) (.tmp 53)), (some (44, true)), none⟩, ⟨(some 55), (.pick (.tmp 44) (.tmp 54) (.con (.bool false))), (some (37, false)), none⟩, ⟨(some 56), (.pick (.tmp 37) (.con (.bool true)) (.tmp 55)), none, none⟩]) (.cond (.tmp 56) (.exit 1) .skip)) (.region [⟨(some 57), (.mv (.tmp 3)), none, none⟩, ⟨(some 58), (.load true 2 (.tmp 5)), none, none⟩, ⟨(some 59), (.buildS 1 [(.int .i64 0), (.int .i64 0)] [(0, (2, (.tmp 58)))]), none, none⟩, ⟨(some 60), (.append 2 16 (.tmp 57) (.tmp 59)), none, none⟩, ⟨(some 3), (.mv (.tmp 60)), none, none⟩])))) (.region [⟨(some 16), (.mv (.tmp 4)), none, none⟩, ⟨(some 17), (.bin .add (.tmp 16) (.con (.int .i64 1))), none, none⟩, ⟨(some 4), (.mv (.tmp 17)), none, none⟩])))
def J51 (K0 : AHeap) (p : Nat) (ps : List (Int × Int)) (j : Nat) (env : Env) (K : AHeap) : Prop :=
  j ≤ ps.length ∧ Keeps K0 K ∧ env 1 = .ptr p 0 ∧ env 4 = .int .i64 (j : Int) ∧ ∃ v, env 3 = v ∧ Bp K v (pks ps j) ∧ ∀ i, i ∈ v.ids → K0.next ≤ i
theorem round51 {K0 K : AHeap} {p j : Nat} {r : Int} {s : AVal} {ps : List (Int × Int)} {env : Env} (op : K0.obj p = some (.cells [.int .i64 r, s] true)) (hp : p < K0.next) (hs : Sl K0 2 s (PS ps)) (hid : ∀ i, i ∈ s.ids → i < K0.next) (hl : ps.length ≤ 8796093021952) (hr : right r ps = true) (h : J51 K0 p ps j env K) (hlt : j < ps.length) :
    Outs (AX A b51 env K) fun e env' K' => e = .normal ∧ J51 K0 p ps (j + 1) env' K' := by
  obtain ⟨hj, hk, h1, h4, v, h3, hv, hvi⟩ := h
  have hsK := hs.keep hid hk
  have hidK : ∀ i, i ∈ s.ids → i < K.next := fun i hi => by have := hid i hi; have := hk.1; omega
  have u41 := U41 (r := r) hsK hidK (by omega)
  rw [hr] at u41
  have opK : K.obj p = some (.cells [.int .i64 r, s] true) := by rw [hk.2 p hp]; exact op
  have hlen := PS_alen hsK
  obtain ⟨id, off, cap, g, l, own, et, ho, hkk, hall⟩ := pts_at hsK (by omega)
  have e1 : decide ((j : Int) < (ps.length : Int)) = true := by simp; omega
  have w1 : IntKind.i64.wrap ((j : Int) + 1) = ((j + 1 : Nat) : Int) := by rw [wrap_i64]; omega
  have ha : aidx ps.length (.int .i64 (j : Int)) = some j := by simp [aidx]; omega
  obtain ⟨g1, _, _⟩ := hall j hlt
  have ej := at0_get hlt
  obtain ⟨⟨x, y⟩, exy⟩ : ∃ q, ps[j] = q := ⟨_, rfl⟩
  rw [exy] at g1 ej
  have hid1 : id < K.next := hidK id (by rw [et]; simp [AVal.ids])
  obtain ⟨K1, eK1⟩ : ∃ X, (K.new (.cells [.int .i64 0, .int .i64 0] true)).set K.next (.cells [.int .i64 x, .int .i64 y] true) = X := ⟨_, rfl⟩
  have nK1 : K1.next = K.next + 1 := by rw [← eK1]; rfl
  have oK1 : K1.obj K.next = some (.cells [.int .i64 x, .int .i64 y] true) := by rw [← eK1]; simp [AHeap.set]
  have kK1 : Keeps K K1 := ⟨by omega, fun i hi => by rw [← eK1]; simp only [set_obj, new_obj]; rw [if_neg (by omega), if_neg (by omega)]⟩
  have ho1 : K1.obj id = some (.cells l own) := by rw [kK1.2 id hid1]; exact ho
  have op1 : K1.obj p = some (.cells [.int .i64 r, s] true) := by rw [kK1.2 p (by have := hk.1; omega)]; exact opK
  have hv1 := hv.keep kK1
  obtain ⟨K2, ap, oN, nK2, kK2⟩ := bp_push hv1 x y (by have := pks_len ps j; omega)
  obtain ⟨m, em⟩ : ∃ m, (pks ps j).length = m := ⟨_, rfl⟩
  rw [nK1, em] at ap
  rw [nK1] at oN nK2 kK2
  have finF : pk ps j = false → ∀ env2 : Env, env2 1 = .ptr p 0 → env2 4 = .int .i64 ((j + 1 : Nat) : Int) → env2 3 = v → J51 K0 p ps (j + 1) env2 K1 := by
    intro hp' env2 a1 a4 a3
    refine ⟨by omega, hk.trans kK1, a1, a4, v, a3, ?_, hvi⟩
    rw [pks_succ, hp', if_neg (by simp)]
    exact hv1
  have finT : pk ps j = true → ∀ env2 : Env, env2 1 = .ptr p 0 → env2 4 = .int .i64 ((j + 1 : Nat) : Int) → env2 3 = .slice (K.next + 1 + 1) 0 (m + 1) (m + 1) (some 2) → J51 K0 p ps (j + 1) env2 K2 := by
    intro hp' env2 a1 a4 a3
    have hk0 := hk.1
    refine ⟨by omega, ⟨by omega, fun i hi => ?_⟩, a1, a4, _, a3, ?_, ?_⟩
    · rw [kK2 i (by omega) (fun hx => by have := hvi i hx; omega), kK1.2 i (by omega), hk.2 i hi]
    · rw [pks_succ, hp', if_pos rfl, ej]
      exact .inl (.inr ⟨_, _, rfl, by rw [PS_len]; simp [em], by omega, oN, by omega⟩)
    · intro i hi
      simp [AVal.ids] at hi
      omega
  by_cases hj0 : j = 0
  · have d0 : decide (0 < (j : Int)) = false := decide_eq_false (by omega)
    have eu : upP ps j = true := by unfold upP; rw [decide_eq_true hj0, Bool.true_or]
    by_cases hjn : j = ps.length - 1
    · have dl : decide (((j + 1 : Nat) : Int) < (ps.length : Int)) = false := decide_eq_false (by omega)
      have ed : dnP ps j = true := by unfold dnP; rw [decide_eq_true hjn, Bool.true_or]
      have hpk : pk ps j = true := by unfold pk; rw [eu, ed]; rfl
      subst et
      simp only [b51, h1, h3, h4, opK, hlen, u41, e1, w1, ha, ho, g1, eK1, nK1, oK1, ho1, op1, ap, d0, dl, Bool.not_true, Bool.not_false, rwA, rwB, Nat.reduceAdd, Nat.reduceMul, Nat.reduceLeDiff, Int.reduceEq, Int.reduceLT, Int.reduceLE, Int.reduceAdd, Int.reduceSub, Int.reduceMul, ↓reduceIte, Nat.reduceEqDiff, reduceCtorEq, ↓cnd_true, ↓cnd_false]
      rw [outs_some]
      exact ⟨rfl, finT hpk _ (by simp [Env.set, h1]) (by simp [Env.set]) (by simp [Env.set, h3])⟩
    · have dl : decide (((j + 1 : Nat) : Int) < (ps.length : Int)) = true := decide_eq_true (by omega)
      have hj2 : j + 1 < ps.length := by omega
      obtain ⟨_, _, u4⟩ := hall (j + 1) hj2
      rw [Nat.add_assoc] at u4
      have ej2 := at0_get hj2
      obtain ⟨⟨x2, y2⟩, exy2⟩ : ∃ q, ps[j + 1] = q := ⟨_, rfl⟩
      rw [exy2] at u4 ej2
      have ha3 : aidx ps.length (.int .i64 ((j + 1 : Nat) : Int)) = some (j + 1) := by simp [aidx]; omega
      have ed : dnP ps j = !decide (y < y2) := by unfold dnP; rw [ej, ej2, decide_eq_false (show ¬ j = ps.length - 1 by omega), Bool.false_or]; by_cases q : y < y2 <;> simp [q] <;> omega
      cases cd : decide (y < y2)
      · rw [cd] at ed
        have hpk : pk ps j = true := by unfold pk; rw [eu, ed]; rfl
        subst et
        simp only [b51, h1, h3, h4, opK, hlen, u41, e1, w1, ha, ho, g1, eK1, nK1, oK1, ho1, op1, ap, d0, dl, ha3, u4, cd, Bool.not_true, Bool.not_false, rwA, rwB, Nat.reduceAdd, Nat.reduceMul, Nat.reduceLeDiff, Int.reduceEq, Int.reduceLT, Int.reduceLE, Int.reduceAdd, Int.reduceSub, Int.reduceMul, ↓reduceIte, Nat.reduceEqDiff, reduceCtorEq, ↓cnd_true, ↓cnd_false]
        rw [outs_some]
        exact ⟨rfl, finT hpk _ (by simp [Env.set, h1]) (by simp [Env.set]) (by simp [Env.set, h3])⟩
      · rw [cd] at ed
        have hpk : pk ps j = false := by unfold pk; rw [eu, ed]; rfl
        subst et
        simp only [b51, h1, h3, h4, opK, hlen, u41, e1, w1, ha, ho, g1, eK1, nK1, oK1, ho1, op1, ap, d0, dl, ha3, u4, cd, Bool.not_true, Bool.not_false, rwA, rwB, Nat.reduceAdd, Nat.reduceMul, Nat.reduceLeDiff, Int.reduceEq, Int.reduceLT, Int.reduceLE, Int.reduceAdd, Int.reduceSub, Int.reduceMul, ↓reduceIte, Nat.reduceEqDiff, reduceCtorEq, ↓cnd_true, ↓cnd_false]
        rw [outs_some]
        exact ⟨rfl, finF hpk _ (by simp [Env.set, h1]) (by simp [Env.set]) (by simp [Env.set, h3])⟩
  · have d0 : decide (0 < (j : Int)) = true := decide_eq_true (by omega)
    have hj1 : j - 1 < ps.length := by omega
    obtain ⟨_, _, u3⟩ := hall (j - 1) hj1
    rw [Nat.add_assoc] at u3
    have ej1 := at0_get hj1
    obtain ⟨⟨x1, y1⟩, exy1⟩ : ∃ q, ps[j - 1] = q := ⟨_, rfl⟩
    rw [exy1] at u3 ej1
    have w2 : IntKind.i64.wrap ((j : Int) - 1) = ((j - 1 : Nat) : Int) := by rw [wrap_i64]; omega
    have ha2 : aidx ps.length (.int .i64 ((j - 1 : Nat) : Int)) = some (j - 1) := by simp [aidx]; omega
    have eu : upP ps j = !decide (y ≤ y1) := by unfold upP; rw [ej, ej1, decide_eq_false (show ¬ j = 0 by omega), Bool.false_or]; by_cases q : y ≤ y1 <;> simp [q] <;> omega
    cases cu : decide (y ≤ y1)
    · rw [cu] at eu
      by_cases hjn : j = ps.length - 1
      · have dl : decide (((j + 1 : Nat) : Int) < (ps.length : Int)) = false := decide_eq_false (by omega)
        have ed : dnP ps j = true := by unfold dnP; rw [decide_eq_true hjn, Bool.true_or]
        have hpk : pk ps j = true := by unfold pk; rw [eu, ed]; rfl
        subst et
        simp only [b51, h1, h3, h4, opK, hlen, u41, e1, w1, ha, ho, g1, eK1, nK1, oK1, ho1, op1, ap, d0, w2, ha2, u3, cu, dl, Bool.not_true, Bool.not_false, rwA, rwB, Nat.reduceAdd, Nat.reduceMul, Nat.reduceLeDiff, Int.reduceEq, Int.reduceLT, Int.reduceLE, Int.reduceAdd, Int.reduceSub, Int.reduceMul, ↓reduceIte, Nat.reduceEqDiff, reduceCtorEq, ↓cnd_true, ↓cnd_false]
        rw [outs_some]
        exact ⟨rfl, finT hpk _ (by simp [Env.set, h1]) (by simp [Env.set]) (by simp [Env.set, h3])⟩
      · have dl : decide (((j + 1 : Nat) : Int) < (ps.length : Int)) = true := decide_eq_true (by omega)
        have hj2 : j + 1 < ps.length := by omega
        obtain ⟨_, _, u4⟩ := hall (j + 1) hj2
        rw [Nat.add_assoc] at u4
        have ej2 := at0_get hj2
        obtain ⟨⟨x2, y2⟩, exy2⟩ : ∃ q, ps[j + 1] = q := ⟨_, rfl⟩
        rw [exy2] at u4 ej2
        have ha3 : aidx ps.length (.int .i64 ((j + 1 : Nat) : Int)) = some (j + 1) := by simp [aidx]; omega
        have ed : dnP ps j = !decide (y < y2) := by unfold dnP; rw [ej, ej2, decide_eq_false (show ¬ j = ps.length - 1 by omega), Bool.false_or]; by_cases q : y < y2 <;> simp [q] <;> omega
        cases cd : decide (y < y2)
        · rw [cd] at ed
          have hpk : pk ps j = true := by unfold pk; rw [eu, ed]; rfl
          subst et
          simp only [b51, h1, h3, h4, opK, hlen, u41, e1, w1, ha, ho, g1, eK1, nK1, oK1, ho1, op1, ap, d0, w2, ha2, u3, cu, dl, ha3, u4, cd, Bool.not_true, Bool.not_false, rwA, rwB, Nat.reduceAdd, Nat.reduceMul, Nat.reduceLeDiff, Int.reduceEq, Int.reduceLT, Int.reduceLE, Int.reduceAdd, Int.reduceSub, Int.reduceMul, ↓reduceIte, Nat.reduceEqDiff, reduceCtorEq, ↓cnd_true, ↓cnd_false]
          rw [outs_some]
          exact ⟨rfl, finT hpk _ (by simp [Env.set, h1]) (by simp [Env.set]) (by simp [Env.set, h3])⟩
        · rw [cd] at ed
          have hpk : pk ps j = false := by unfold pk; rw [eu, ed]; rfl
          subst et
          simp only [b51, h1, h3, h4, opK, hlen, u41, e1, w1, ha, ho, g1, eK1, nK1, oK1, ho1, op1, ap, d0, w2, ha2, u3, cu, dl, ha3, u4, cd, Bool.not_true, Bool.not_false, rwA, rwB, Nat.reduceAdd, Nat.reduceMul, Nat.reduceLeDiff, Int.reduceEq, Int.reduceLT, Int.reduceLE, Int.reduceAdd, Int.reduceSub, Int.reduceMul, ↓reduceIte, Nat.reduceEqDiff, reduceCtorEq, ↓cnd_true, ↓cnd_false]
          rw [outs_some]
          exact ⟨rfl, finF hpk _ (by simp [Env.set, h1]) (by simp [Env.set]) (by simp [Env.set, h3])⟩
    · rw [cu] at eu
      have hpk : pk ps j = false := by unfold pk; rw [eu]; rfl
      subst et
      simp only [b51, h1, h3, h4, opK, hlen, u41, e1, w1, ha, ho, g1, eK1, nK1, oK1, ho1, op1, ap, d0, w2, ha2, u3, cu, Bool.not_true, Bool.not_false, rwA, rwB, Nat.reduceAdd, Nat.reduceMul, Nat.reduceLeDiff, Int.reduceEq, Int.reduceLT, Int.reduceLE, Int.reduceAdd, Int.reduceSub, Int.reduceMul, ↓reduceIte, Nat.reduceEqDiff, reduceCtorEq, ↓cnd_true, ↓cnd_false]
      rw [outs_some]
      exact ⟨rfl, finF hpk _ (by simp [Env.set, h1]) (by simp [Env.set]) (by simp [Env.set, h3])⟩

theorem loop51 {K0 K : AHeap} {p : Nat} {r : Int} {s : AVal} {ps : List (Int × Int)} {env : Env} (op : K0.obj p = some (.cells [.int .i64 r, s] true)) (hp : p < K0.next) (hs : Sl K0 2 s (PS ps)) (hid : ∀ i, i ∈ s.ids → i < K0.next) (hl : ps.length ≤ 8796093021952) (hr : right r ps = true) (h : J51 K0 p ps 0 env K) :
    Outs (AX A (.loop b51) env K) fun e env' K' => e = .exit 0 ∧ J51 K0 p ps ps.length env' K' := by
  refine loop_ends (I := fun (j : Nat) env' K' => J51 K0 p ps j env' K') (fun j => ps.length - j) ?_ 0 env K h
  intro j env' K' hJ
  by_cases hlt : j < ps.length
  · refine (round51 op hp hs hid hl hr hJ hlt).mono ?_
    rintro e env2 K2 ⟨rfl, h2⟩
    exact .inl ⟨rfl, j + 1, by omega, h2⟩
  · have hj := hJ.1
    have : j = ps.length := by omega
    subst this
    obtain ⟨_, hk, h1, h4, v, h3, hv, hvi⟩ := hJ
    have opK : K'.obj p = some (.cells [.int .i64 r, s] true) := by rw [hk.2 p hp]; exact op
    have hlen := PS_alen hs
    have e1 : decide ((ps.length : Int) < (ps.length : Int)) = false := by simp
    rcases sl_shape hs with rfl | ⟨_, _, _, _, _, rfl⟩ <;> simp only [b51, h1, h4, opK, hlen, e1, rwA, rwB, Nat.reduceAdd, Nat.reduceMul, Nat.reduceLeDiff, Int.reduceEq, Int.reduceLT, Int.reduceLE, Int.reduceAdd, Int.reduceSub, Int.reduceMul, ↓reduceIte, Nat.reduceEqDiff, reduceCtorEq, ↓cnd_true, ↓cnd_false] <;> rw [outs_some] <;> exact .inr ⟨by simp, rfl, hj, hk, by simp [Env.set, h1], by simp [Env.set, h4], v, by simp [Env.set, h3], hv, hvi⟩

theorem body51 {H : AHeap} {r : Int} {s : AVal} {ps : List (Int × Int)} (hs : Sl H 2 s (PS ps)) (hid : ∀ i, i ∈ s.ids → i < H.next) (hl : ps.length ≤ 8796093021952) :
    Rets (endX GaFns.c51.results (AX A GaFns.c51.body (ainit [.agg [.int .i64 r, s]]) (frz H))) fun v K => Bp K v (peaks r ps) ∧ ∀ i, i ∈ v.ids → H.next ≤ i := by
  have hsf := hs.frz
  have hn : (frz H).next = H.next := rfl
  obtain ⟨K, eK⟩ : ∃ K, (frz H).new (.cells [.int .i64 r, s] true) = K := ⟨_, rfl⟩
  have kK : Keeps (frz H) K := by rw [← eK]; exact Keeps.new _ _
  have hsK := hsf.keep hid kK
  have nK : K.next = H.next + 1 := by rw [← eK]; simp [new_next, hn]
  have oK : K.obj H.next = some (.cells [.int .i64 r, s] true) := by rw [← eK]; simp [AHeap.new, hn]
  have hidK : ∀ i, i ∈ s.ids → i < K.next := fun i hi => by have := hid i hi; omega
  obtain ⟨K5, eK5⟩ : ∃ X, K.new (.cells [] true) = X := ⟨_, rfl⟩
  have kK5 : Keeps K K5 := by rw [← eK5]; exact Keeps.new _ _
  have nK5 : K5.next = H.next + 2 := by rw [← eK5]; simp [new_next, nK]
  have oE : K5.obj (H.next + 1) = some (.cells [] true) := by rw [← eK5, new_obj, if_pos (by omega)]
  have oK5 : K5.obj H.next = some (.cells [.int .i64 r, s] true) := by rw [kK5.2 _ (by omega)]; exact oK
  have hs5 := hsK.keep hidK kK5
  have hid5 : ∀ i, i ∈ s.ids → i < K5.next := fun i hi => by have := hid i hi; omega
  have hlen := PS_alen hsK
  have u41 := U41 (r := r) hs5 hid5 (by omega)
  have hB : Bp K5 (.slice (H.next + 1) 0 0 0 none) [] := .inr ⟨rfl, _, rfl, by omega, oE⟩
  have hi : ∀ i, i ∈ (AVal.slice (H.next + 1) 0 0 0 none).ids → H.next ≤ i := fun i hi => by simp [AVal.ids] at hi; omega
  cases hr : right r ps
  · rw [hr] at u41
    have ep : peaks r ps = [] := by simp [peaks, hr]
    rw [ep]
    by_cases h0 : ps.length = 0
    · have d0 : decide ((0 : Int) < (ps.length : Int)) = false := decide_eq_false (by omega)
      simp only [c51, eK, hn, nK, s_loop, eK5, oK5, hlen, d0, u41, rwA, rwB, Nat.reduceAdd, Nat.reduceMul, Nat.reduceLeDiff, Int.reduceEq, Int.reduceLT, Int.reduceLE, Int.reduceAdd, Int.reduceSub, Int.reduceMul, ↓reduceIte, Nat.reduceEqDiff, reduceCtorEq, ↓cnd_true, ↓cnd_false]
      rw [rets_some]
      exact ⟨hB, hi⟩
    · have d0 : decide ((0 : Int) < (ps.length : Int)) = true := decide_eq_true (by omega)
      rcases (sl_shape hsK) with rfl | ⟨_, _, _, _, _, rfl⟩ <;> simp only [c51, eK, hn, nK, s_loop, eK5, oK5, hlen, d0, u41, rwA, rwB, Nat.reduceAdd, Nat.reduceMul, Nat.reduceLeDiff, Int.reduceEq, Int.reduceLT, Int.reduceLE, Int.reduceAdd, Int.reduceSub, Int.reduceMul, ↓reduceIte, Nat.reduceEqDiff, reduceCtorEq, ↓cnd_true, ↓cnd_false] <;> rw [rets_some] <;> exact ⟨hB, hi⟩
  · have ep : peaks r ps = pks ps ps.length := by simp [peaks, hr]
    rw [ep]
    simp only [c51, eK, hn, nK, eK5, rwA, rwB, Nat.reduceAdd, Nat.reduceMul, Nat.reduceLeDiff, Int.reduceEq, Int.reduceLT, Int.reduceLE, Int.reduceAdd, Int.reduceSub, Int.reduceMul, ↓reduceIte, Nat.reduceEqDiff, reduceCtorEq, ↓cnd_true, ↓cnd_false]
    repeat (first | refine outs_seq ?_ | refine outs_block ?_ | refine outs_step ?_ | refine outs_stepD ?_ | refine rets_end ?_ | refine ans_end ?_)
    refine (loop51 (K0 := K) (K := K5) (p := H.next) (s := s) (ps := ps) oK (by omega) hsK hidK hl hr ⟨Nat.zero_le _, kK5, ?_, ?_, .slice (H.next + 1) 0 0 0 none, ?_, hB, fun i hx => by simp [AVal.ids] at hx; omega⟩).mono ?_
    · simp [Env.set]
    · simp [Env.set]
    · simp [Env.set]
    · rintro e env K' ⟨rfl, _, hk, h1, _, v, h3, hv, hvi⟩
      simp only [outs_some, h1, h3, rwA, rwB, Nat.reduceAdd, Nat.reduceMul, Nat.reduceLeDiff, Int.reduceEq, Int.reduceLT, Int.reduceLE, Int.reduceAdd, Int.reduceSub, Int.reduceMul, ↓reduceIte, Nat.reduceEqDiff, reduceCtorEq, ↓cnd_true, ↓cnd_false]
      rw [rets_some]
      exact ⟨hv, fun i hi => by have := hvi i hi; omega⟩

theorem one_emp {n id b : Nat} {K : AHeap} (h : n ≤ id) (ho : K.obj id = some (.cells [] true)) :
    One n (.slice id 0 0 0 none) K (.slice b 0 0 0 none) b [] :=
  ⟨id, by simp [AVal.ids, h, nub], ho, by simp [oldl], by simp [AVal.ren, sig_new [] h]⟩

theorem U51 {H : AHeap} {s : AVal} {ps : List (Int × Int)} (hs : Sl H 2 s (PS ps)) (hid : ∀ i, i ∈ s.ids → i < H.next) (hl : ps.length ≤ 8796093021952) (r : Int) :
    ∃ v H', AC A 51 [.agg [.int .i64 r, s]] H = some (v, H') ∧ Keeps H H' ∧ Sl H' 2 v (PS (peaks r ps)) ∧ (∀ i, i ∈ v.ids → i < H'.next) := by
  obtain ⟨v, K, hrun, hv, hvi⟩ := body51 (r := r) hs hid hl
  rcases hv with (⟨rfl, hp⟩ | ⟨id, n, rfl, h1, h2, h3, h4⟩) | ⟨hp, id, rfl, h1, h2⟩
  · exact ⟨.nils, H, look_val (x := GaFns.c51) rfl rfl rfl rfl ⟨K, hrun⟩, Keeps.refl _, .inl ⟨rfl, hp⟩, by simp [AVal.ids]⟩
  · have hid' : H.next ≤ id := hvi id (by simp [AVal.ids])
    refine ⟨.slice H.next 0 n n (some 2), H.new (.cells (PS (peaks r ps)) true), look_new (x := GaFns.c51) rfl rfl rfl ⟨_, K, hrun, one_slc hid' h3 (PS_old _ _)⟩, Keeps.new _ _, ?_, ?_⟩
    · refine .inr ⟨_, _, _, _, _, rfl, h1, .inr ⟨PS (peaks r ps), true, by simp [AHeap.new], by omega, by simp [← h1]⟩⟩
    · intro i hi
      simp [AVal.ids] at hi
      simp only [new_next]; omega
  · have hid' : H.next ≤ id := hvi id (by simp [AVal.ids])
    refine ⟨.slice H.next 0 0 0 none, H.new (.cells [] true), look_new (x := GaFns.c51) rfl rfl rfl ⟨_, K, hrun, one_emp hid' h2⟩, Keeps.new _ _, ?_, ?_⟩
    · rw [hp]
      exact .inr ⟨_, _, _, _, _, rfl, rfl, .inl rfl⟩
    · intro i hi
      simp [AVal.ids] at hi
      simp only [new_next]; omega

end Go.Proofs.Ytfpbmoiconopcaa.Gh
