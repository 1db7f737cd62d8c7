/- HistoryTells. -/
import Derived.Test.YtfpbmoiconopcaaGhIc
set_option maxRecDepth 100000
set_option linter.unusedSimpArgs false
set_option linter.unusedVariables false
set_option maxHeartbeats 8000000
namespace Go.Proofs.Ytfpbmoiconopcaa.Gh
open Go Go.Proofs.Ytfpbmoiconopcaa.Am GaFns Go.RowKit

theorem ok_3_4 (st : List AHeap) (o : AOp) (env : Env) (v : AVal) : ARead.ok st ⟨o, env, v, 3, 4⟩ = (okAt o env v st[3]? && okAt o env v st[4]?) := by rw [ok_lohi]; simp [List.range_succ]
theorem ok_6_7 (st : List AHeap) (o : AOp) (env : Env) (v : AVal) : ARead.ok st ⟨o, env, v, 6, 7⟩ = (okAt o env v st[6]? && okAt o env v st[7]?) := by rw [ok_lohi]; simp [List.range_succ]
theorem ok_12_13 (st : List AHeap) (o : AOp) (env : Env) (v : AVal) : ARead.ok st ⟨o, env, v, 12, 13⟩ = (okAt o env v st[12]? && okAt o env v st[13]?) := by rw [ok_lohi]; simp [List.range_succ]
theorem alike_self (a : Nat) : alike a a = true := by simp [alike]

theorem adds {H : AHeap} {r : Int} {s v : AVal} {ps : List (Int × Int)} (hl : ps.length ≤ 8796093021952) (t u : Int) :
    ∃ (rr w : Int) (L : List (Int × Int)),
      (∀ M, Sl M 2 v (PS ps) → (∀ i, i ∈ v.ids → i < M.next) → ∃ y K, AC A 36 [.agg [.int .i64 r, v], .agg [.int .i64 t, .int .i64 u]] M = some (.tuple [.agg [.int .i64 rr, y], .int .i64 w], K) ∧ Keeps M K ∧ Sl K 2 y (PS L) ∧ ∀ i, i ∈ y.ids → i < K.next) ∧
      (∀ M, Sl M 2 s (PS ps) → (∀ i, i ∈ s.ids → i < M.next) → ∃ y K, AC A 37 [.agg [.int .i64 r, s], .agg [.int .i64 t, .int .i64 u]] M = some (.tuple [.agg [.int .i64 rr, y], .int .i64 w], K) ∧ Keeps M K ∧ Sl K 2 y (PS L) ∧ ∀ i, i ∈ y.ids → i < K.next) ∧ L.length ≤ 8796093021952 := by
  cases hm : may r ps t u
  · refine ⟨0, 18, [], fun M h1 h2 => ⟨_, _, U36f h1 h2 hl t u hm, Keeps.refl _, .inl ⟨rfl, rfl⟩, by simp [AVal.ids]⟩, fun M h1 h2 => ⟨_, _, U37f h1 h2 hl t u hm, Keeps.refl _, .inl ⟨rfl, rfl⟩, by simp [AVal.ids]⟩, by simp⟩
  · have mk : ∀ M : AHeap, Sl (M.new (.cells (PS (kept r ps t u)) true)) 2 (.slice M.next 0 (kept r ps t u).length (kept r ps t u).length (some 2)) (PS (kept r ps t u)) ∧ ∀ i, i ∈ (AVal.slice M.next 0 (kept r ps t u).length (kept r ps t u).length (some 2)).ids → i < (M.new (.cells (PS (kept r ps t u)) true)).next := by
      intro M
      refine ⟨.inr ⟨_, _, _, _, _, rfl, PS_len _, .inr ⟨PS (kept r ps t u), true, by simp [AHeap.new], by rw [PS_len]; omega, by rw [List.drop_zero, List.take_of_length_le (by rw [PS_len]; omega)]⟩⟩, fun i hi => ?_⟩
      simp [AVal.ids] at hi
      simp only [new_next]; omega
    have hlen : (kept r ps t u).length ≤ 8796093021952 := by
      have hr : right r ps = true := by unfold may at hm; simp only [Bool.and_eq_true] at hm; exact hm.1.1
      obtain ⟨h1, h2, _⟩ := right_good hr
      simp [kept]; omega
    exact ⟨r, 0, kept r ps t u, fun M h1 h2 => ⟨_, _, U36t h1 h2 t u hm, Keeps.new _ _, (mk M).1, (mk M).2⟩, fun M h1 h2 => ⟨_, _, U37t h1 h2 t u hm, Keeps.new _ _, (mk M).1, (mk M).2⟩, hlen⟩

theorem run8 (r t u tk lim k : Int) (s : AVal) (ps : List (Int × Int)) (H : AHeap) (hs : Sl H 2 s (PS ps)) (hid : ∀ i, i ∈ s.ids → i < H.next) (hl : ps.length ≤ 8796093021952) (hlim : lim ≤ 9223372036854775807) :
    ∃ H', AC A 8 [.agg [.int .i64 r, s], .agg [.int .i64 t, .int .i64 u], .int .i64 tk, .int .i64 lim, .int .i64 k] H = some (.bool true, H') := by
  show Ans (AC A 8 [.agg [.int .i64 r, s], .agg [.int .i64 t, .int .i64 u], .int .i64 tk, .int .i64 lim, .int .i64 k] H) (.bool true)
  rw [s_fn (A := A) (f := 8) (x := GaFns.c8) rfl rfl rfl]
  obtain ⟨q, eq⟩ : ∃ q, H.next = q := ⟨_, rfl⟩
  obtain ⟨K1, eK1⟩ : ∃ X, (H.new (.cells [.int .i64 r, s] true)).new (.cells [.int .i64 t, .int .i64 u] true) = X := ⟨_, rfl⟩
  have k1 : Keeps H K1 := by rw [← eK1]; exact (Keeps.new _ _).trans (Keeps.new _ _)
  have nK1 : K1.next = q + 2 := by rw [← eK1]; simp [new_next, eq]
  have oh1 : K1.obj q = some (.cells [.int .i64 r, s] true) := by rw [← eK1]; simp only [new_obj, new_next, eq]; rw [if_neg (by omega), if_pos trivial]
  have op1 : K1.obj (q + 1) = some (.cells [.int .i64 t, .int .i64 u] true) := by rw [← eK1]; simp only [new_obj, new_next, eq]; rw [if_pos trivial]
  have hs1 := hs.keep hid k1
  have hid1 : ∀ i, i ∈ s.ids → i < K1.next := fun i hi => by have := hid i hi; omega
  have hlen := PS_alen hs
  by_cases q1 : (100 : Int) < (ps.length : Int)
  · simp only [c8, eq, eK1, nK1, oh1, hlen, q1, U33, decide_true, rwA, rwB, Nat.reduceAdd, Nat.reduceMul, Nat.reduceLeDiff, Int.reduceEq, Int.reduceLT, Int.reduceLE, Int.reduceAdd, Int.reduceSub, Int.reduceMul, ↓reduceIte, Nat.reduceEqDiff, reduceCtorEq, ↓cnd_true, ↓cnd_false]
  obtain ⟨v, K2, u34, kK2, hv, hvi, hvc⟩ := U34 hs1 hid1 hl r
  have hn2 := kK2.1
  obtain ⟨N, eN⟩ : ∃ N, K2.next = N := ⟨_, rfl⟩
  obtain ⟨K3, eK3⟩ : ∃ X, (K2.new (.cells [.int .i64 0, .nils] true)).set N (.cells [.int .i64 r, v] true) = X := ⟨_, rfl⟩
  have nK3 : K3.next = N + 1 := by rw [← eK3, ← eN]; simp [set_next, new_next]
  have kK3 : Keeps K2 K3 := ⟨by omega, fun i hi => by rw [← eK3]; simp only [set_obj, new_obj]; rw [if_neg (by omega), if_neg (by omega)]⟩
  have k13 := kK2.trans kK3
  have oN3 : K3.obj N = some (.cells [.int .i64 r, v] true) := by rw [← eK3]; simp [AHeap.set]
  have F : ∀ M, Keeps K3 M → M.obj q = some (.cells [.int .i64 r, s] true) ∧ M.obj (q + 1) = some (.cells [.int .i64 t, .int .i64 u] true) ∧ M.obj N = some (.cells [.int .i64 r, v] true) ∧ Sl M 2 s (PS ps) ∧ Sl M 2 v (PS ps) ∧ (∀ i, i ∈ s.ids → i < M.next) ∧ (∀ i, i ∈ v.ids → i < M.next) := by
    intro M hM
    have k1M := k13.trans hM
    have := hM.1
    have := k1M.1
    exact ⟨by rw [k1M.2 _ (by omega)]; exact oh1, by rw [k1M.2 _ (by omega)]; exact op1, by rw [hM.2 _ (by omega)]; exact oN3, hs1.keep hid1 k1M, hv.keep hvi (kK3.trans hM), fun i hi => by have := hid1 i hi; omega, fun i hi => by have := hvi i hi; omega⟩
  obtain ⟨rr, w, L, had1, had2, hL⟩ := adds (H := H) (r := r) (s := s) (v := v) (ps := ps) hl t u
  obtain ⟨oh3, op3, _, hs3, hv3, hi3, hj3⟩ := F K3 (Keeps.refl _)
  obtain ⟨y1, K4, u36, kK4, hy1, hyi⟩ := had1 K3 hv3 hj3
  obtain ⟨n4, e4⟩ : ∃ n, K4.next = n := ⟨_, rfl⟩
  obtain ⟨K5, eK5⟩ : ∃ X, (K4.new (.cells [.int .i64 0, .nils] true)).set n4 (.cells [.int .i64 rr, y1] true) = X := ⟨_, rfl⟩
  have nK5 : K5.next = n4 + 1 := by rw [← eK5, ← e4]; simp [set_next, new_next]
  have kK5 : Keeps K4 K5 := ⟨by omega, fun i hi => by rw [← eK5]; simp only [set_obj, new_obj]; rw [if_neg (by omega), if_neg (by omega)]⟩
  have o45 : K5.obj n4 = some (.cells [.int .i64 rr, y1] true) := by rw [← eK5]; simp [AHeap.set]
  obtain ⟨oh4, op4, oN4, hs4, hv4, hi4, hj4⟩ := F K4 kK4
  obtain ⟨oh5, op5, oN5, hs5, hv5, hi5, hj5⟩ := F K5 (kK4.trans kK5)
  obtain ⟨z1, K6, u37, kK6, hz1, hzi⟩ := had2 K5 hs5 hi5
  obtain ⟨n6, e6⟩ : ∃ n, K6.next = n := ⟨_, rfl⟩
  have n46 := kK6.1
  obtain ⟨K7, eK7⟩ : ∃ X, (K6.new (.cells [.int .i64 0, .nils] true)).set n6 (.cells [.int .i64 rr, z1] true) = X := ⟨_, rfl⟩
  have nK7 : K7.next = n6 + 1 := by rw [← eK7, ← e6]; simp [set_next, new_next]
  have kK7 : Keeps K6 K7 := ⟨by omega, fun i hi => by rw [← eK7]; simp only [set_obj, new_obj]; rw [if_neg (by omega), if_neg (by omega)]⟩
  have o67 : K7.obj n6 = some (.cells [.int .i64 rr, z1] true) := by rw [← eK7]; simp [AHeap.set]
  have o47 : K7.obj n4 = some (.cells [.int .i64 rr, y1] true) := by rw [kK7.2 _ (by omega), kK6.2 _ (by omega)]; exact o45
  obtain ⟨oh7, op7, oN7, hs7, hv7, hi7, hj7⟩ := F K7 (((kK4.trans kK5).trans kK6).trans kK7)
  obtain ⟨⟨lx, ly⟩, elo⟩ : ∃ p, lastOf r ps = p := ⟨_, rfl⟩
  obtain ⟨K8, eK8⟩ : ∃ X, (K7.new (.cells [.int .i64 0, .int .i64 0] true)).set (n6 + 1) (.cells [.int .i64 lx, .int .i64 ly] true) = X := ⟨_, rfl⟩
  have nK8 : K8.next = n6 + 2 := by rw [← eK8]; simp [set_next, new_next, nK7]
  have kK8 : Keeps K7 K8 := ⟨by omega, fun i hi => by rw [← eK8]; simp only [set_obj, new_obj]; rw [if_neg (by omega), if_neg (by omega)]⟩
  have o78 : K8.obj (n6 + 1) = some (.cells [.int .i64 lx, .int .i64 ly] true) := by rw [← eK8]; simp [AHeap.set]
  have o68 : K8.obj n6 = some (.cells [.int .i64 rr, z1] true) := by rw [kK8.2 _ (by omega)]; exact o67
  have o48 : K8.obj n4 = some (.cells [.int .i64 rr, y1] true) := by rw [kK8.2 _ (by omega)]; exact o47
  obtain ⟨oh8, op8, oN8, hs8, hv8, hi8, hj8⟩ := F K8 ((((kK4.trans kK5).trans kK6).trans kK7).trans kK8)
  -- the answers
  have u35 := U35 (r := r) hv3 hj3 (by omega)
  have u38 := U38 (r := r) hv7 hj7 (by omega) tk
  have u39 := U39 (r := r) hs7 hi7 (by omega) tk
  have u40 := U40 (r := r) hv7 hj7 (by omega)
  rw [elo] at u40
  obtain ⟨⟨ax, ay⟩, ea⟩ : ∃ p, atH r ps tk = p := ⟨_, rfl⟩
  rw [ea] at u38 u39
  have u41 := U41 (r := r) hs8 hi8 (by omega)
  have u42 := U42 (r := r) hs8 hi8 (by omega) lim hlim
  have u44 := U44 (r := r) hv8 hj8 (by omega)
  have u45 := U45 (r := r) hs8 hi8 (by omega)
  have u46 := U46 (r := r) hv8 hj8 (by omega) lim k
  have u47 := U47 (r := r) hs8 hi8 (by omega) lim k
  have u48 := U48 (r := r) hv8 hj8 (by omega) lim hlim
  have u49 := U49 (r := r) hv8 hj8 (by omega) lim tk hlim
  have ky8 : Keeps K4 K8 := ((kK5.trans kK6).trans kK7).trans kK8
  have kz8 : Keeps K6 K8 := kK7.trans kK8
  have u43 := U43 (hy1.keep hyi ky8) (fun i hi => by have := hyi i hi; have := ky8.1; omega) (hz1.keep hzi kz8) (fun i hi => by have := hzi i hi; have := kz8.1; omega) hL
  rw [decide_eq_true rfl] at u43
  obtain ⟨pa, K9, u50, kK9, hpa, hpai, _⟩ := U50 hv8 hj8 hl r
  obtain ⟨oh9, op9, oN9, hs9, hv9, hi9, hj9⟩ := F K9 (((((kK4.trans kK5).trans kK6).trans kK7).trans kK8).trans kK9)
  obtain ⟨pb, K10, u51, kK10, hpb, hpbi⟩ := U51 hs9 hi9 hl r
  have lpk : (peaks r ps).length ≤ 8796093021952 := by unfold peaks; split; (have := pks_len ps ps.length; omega); simp
  have u43' := U43 (hpa.keep hpai kK10) (fun i hi => by have := hpai i hi; have := kK10.1; omega) hpb hpbi lpk
  rw [decide_eq_true rfl] at u43'
  obtain ⟨fl, efl⟩ : ∃ x, leftH r ps lim = x := ⟨_, rfl⟩
  rw [efl] at u42 u48 u49
  obtain ⟨sl, esl⟩ : ∃ x, slope r ps = x := ⟨_, rfl⟩
  rw [esl] at u44 u45
  obtain ⟨sm, esm⟩ : ∃ x, smooth r ps lim k = x := ⟨_, rfl⟩
  rw [esm] at u46 u47
  obtain ⟨bb, ebb⟩ : ∃ b, (flss fl (fint tk) || feq fl (fint tk)) = b := ⟨_, rfl⟩
  rw [ebb] at u49
  cases hr : right r ps
  · have ec : chk r ps = 18 := by simp [chk, hr]
    have eh : has r ps = false := by simp [has, hr]
    have e0 : (lx, ly) = (0, 0) := by rw [← elo]; simp [lastOf, eh]
    injection e0 with e01 e02
    subst e01 e02
    rw [ec] at u35
    rw [hr] at u41
    rw [eh] at u40
    simp only [c8, eq, eK1, nK1, oh1, hlen, q1, U33, u34, eN, eK3, nK3, oN3, oh3, op3, u35, u36, e4, eK5, nK5, oh5, op5, u37, e6, eK7, nK7, oh7, op7, oN7, u38, u39, u40, eK8, nK8, oh8, op8, oN8, o78, o68, o48, u41, u42, u43, u44, u45, u46, u47, u48, u49, ebb, U15, alike_self, u50, oh9, op9, oN9, u51, u43', ok_3_4, ok_6_7, ok_12_13, decide_true, decide_false, Bool.not_true, Bool.not_false, rwA, rwB, Nat.reduceAdd, Nat.reduceMul, Nat.reduceLeDiff, Int.reduceEq, Int.reduceLT, Int.reduceLE, Int.reduceAdd, Int.reduceSub, Int.reduceMul, ↓reduceIte, Nat.reduceEqDiff, reduceCtorEq, ↓cnd_true, ↓cnd_false] 
  · have ec : chk r ps = 0 := by simp [chk, hr]
    rw [ec] at u35
    rw [hr] at u41
    by_cases h0 : ps.length = 0
    · have eh : has r ps = false := by simp [has, h0]
      have e0 : (lx, ly) = (0, 0) := by rw [← elo]; simp [lastOf, eh]
      injection e0 with e01 e02
      subst e01 e02
      rw [eh] at u40
      have d0 : decide (0 < (ps.length : Int)) = false := decide_eq_false (by omega)
      simp only [c8, eq, eK1, nK1, oh1, hlen, q1, U33, u34, eN, eK3, nK3, oN3, oh3, op3, u35, u36, e4, eK5, nK5, oh5, op5, u37, e6, eK7, nK7, oh7, op7, oN7, u38, u39, u40, eK8, nK8, oh8, op8, oN8, o78, o68, o48, u41, u42, u43, u44, u45, u46, u47, u48, u49, ebb, U15, alike_self, u50, oh9, op9, oN9, u51, u43', ok_3_4, ok_6_7, ok_12_13, d0, decide_true, decide_false, Bool.not_true, Bool.not_false, rwA, rwB, Nat.reduceAdd, Nat.reduceMul, Nat.reduceLeDiff, Int.reduceEq, Int.reduceLT, Int.reduceLE, Int.reduceAdd, Int.reduceSub, Int.reduceMul, ↓reduceIte, Nat.reduceEqDiff, reduceCtorEq, ↓cnd_true, ↓cnd_false]
    · have eh : has r ps = true := by simp [has, hr, h0]
      rw [eh] at u40
      have d0 : decide (0 < (ps.length : Int)) = true := decide_eq_true (by omega)
      have hi : ps.length - 1 < ps.length := by omega
      obtain ⟨id, off', cap, g, l, own, et, ho, hkk, hall⟩ := pts_at hv8 (by omega)
      obtain ⟨g1, _, _⟩ := hall (ps.length - 1) hi
      have el : ps[ps.length - 1] = (lx, ly) := by rw [← elo]; simp only [lastOf, eh, if_true, lastP]; exact (at0_get hi).symm
      rw [el] at g1
      have w0 : IntKind.i64.wrap ((ps.length : Int) - 1) = ((ps.length - 1 : Nat) : Int) := by rw [wrap_i64]; omega
      have ha : aidx ps.length (.int .i64 ((ps.length - 1 : Nat) : Int)) = some (ps.length - 1) := by simp [aidx]; omega
      subst et
      simp only [c8, eq, eK1, nK1, oh1, hlen, q1, U33, u34, eN, eK3, nK3, oN3, oh3, op3, u35, u36, e4, eK5, nK5, oh5, op5, u37, e6, eK7, nK7, oh7, op7, oN7, u38, u39, u40, eK8, nK8, oh8, op8, oN8, o78, o68, o48, u41, u42, u43, u44, u45, u46, u47, u48, u49, ebb, U15, alike_self, u50, oh9, op9, oN9, u51, u43', ok_3_4, ok_6_7, ok_12_13, d0, w0, ha, ho, g1, Bool.and_self, decide_true, decide_false, Bool.not_true, Bool.not_false, rwA, rwB, Nat.reduceAdd, Nat.reduceMul, Nat.reduceLeDiff, Int.reduceEq, Int.reduceLT, Int.reduceLE, Int.reduceAdd, Int.reduceSub, Int.reduceMul, ↓reduceIte, Nat.reduceEqDiff, reduceCtorEq, ↓cnd_true, ↓cnd_false]

theorem arg48 {H : AHeap} {v : AVal} {d : Dat} (h : AArg Try.prog H 48 v d) : ∃ n m, v = .agg [.int .i64 n, .int .i64 m] := by
  obtain ⟨n, m, e, _⟩ := arg_pair Try.underlying48 Try.underlying2 Try.underlying2 rfl rfl cl2 cl2 cl48 h
  exact ⟨n, m, e⟩
theorem law8 (H : AHeap) (args : List AVal) (dats : List Dat) (h : AArgs Try.prog H [46, 48, 2, 2, 3] args dats) : ∃ k H', acall A k 8 args H = some (.bool true, H') := by
  obtain ⟨v0, r, d0, ds, rfl, rfl, h0, h⟩ := args_cons h
  obtain ⟨v1, r, d1, ds, rfl, rfl, h1, h⟩ := args_cons h
  obtain ⟨v2, r, d2, ds, rfl, rfl, h2, h⟩ := args_cons h
  obtain ⟨v3, r, d3, ds, rfl, rfl, h3, h⟩ := args_cons h
  obtain ⟨v4, r, d4, ds, rfl, rfl, h4, h⟩ := args_cons h
  obtain rfl := args_nil h
  obtain ⟨r, s, ps, rfl, hs, hid, hl⟩ := arg46 h0
  obtain ⟨t, u, rfl⟩ := arg48 h1
  obtain ⟨a, rfl, _⟩ := arg_int Try.underlying2 h2
  obtain ⟨b, rfl, _, b1, b2⟩ := arg_int Try.underlying2 h3
  obtain ⟨c, rfl, _⟩ := arg_int Try.underlying3 h4
  simp [IntKind.min, IntKind.max, IntKind.signed, IntKind.bits] at b1 b2
  obtain ⟨H', hr⟩ := run8 r t u a b c s ps H hs hid hl (by omega)
  obtain ⟨k, hk⟩ := AC_iff.1 hr
  exact ⟨k, H', hk⟩

end Go.Proofs.Ytfpbmoiconopcaa.Gh
