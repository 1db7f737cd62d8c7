/- HistoryTells: the reference's Add. -/
import Derived.Test.YtfpbmoiconopcaaGhIb
set_option maxRecDepth 100000
set_option linter.unusedSimpArgs false
set_option linter.unusedVariables false
set_option maxHeartbeats 4000000
namespace Go.Proofs.Ytfpbmoiconopcaa.Gh
open Go Go.Proofs.Ytfpbmoiconopcaa.Am GaFns Go.RowKit

def dd (r : Int) (ps : List (Int × Int)) : Nat := if (ps.length : Int) < r then 0 else 1
def kl (r : Int) (ps : List (Int × Int)) (j : Nat) : List (Int × Int) := (ps.take j).drop (dd r ps)
theorem kl_succ (r : Int) (ps : List (Int × Int)) {j : Nat} (h : j < ps.length) : kl r ps (j + 1) = if 0 < j ∨ (ps.length : Int) < r then kl r ps j ++ [ps[j]] else kl r ps j := by
  unfold kl
  rw [List.take_succ_eq_append_getElem h]
  by_cases q : (ps.length : Int) < r
  · have : dd r ps = 0 := by simp [dd, q]
    rw [this, if_pos (.inr q)]; simp
  · have : dd r ps = 1 := by simp [dd, q]
    rw [this]
    by_cases h0 : 0 < j
    · rw [if_pos (.inl h0), List.drop_append_of_le_length (by simp; omega)]
    · have : j = 0 := by omega
      subst this
      rw [if_neg (by omega)]; simp
theorem kl_kept {r : Int} {ps : List (Int × Int)} (h1 : 1 ≤ r) (hn : (ps.length : Int) ≤ r) (t u : Int) : kl r ps ps.length ++ [(t, u)] = kept r ps t u := by
  unfold kl kept
  rw [List.take_length]
  by_cases q : (ps.length : Int) < r
  · have e : dd r ps = 0 := by simp [dd, q]
    rw [e, show ps.length + 1 - r.toNat = 0 by omega]; simp
  · have e : dd r ps = 1 := by simp [dd, q]
    rw [e, show ps.length + 1 - r.toNat = 1 by omega, List.drop_append_of_le_length (by omega)]
theorem kl_len (r : Int) (ps : List (Int × Int)) (j : Nat) : (kl r ps j).length ≤ ps.length := by simp [kl]; omega

def b37 : ACode := (.seq (.seq (.region [⟨(some 38), (.mv (.tmp 8)), none, none⟩, ⟨(some 39), (.mv (.tmp 6)), none, none⟩, ⟨(some 40), (.bin .lss (.tmp 38) (.tmp 39)), none, none⟩]) (.cond (.tmp 40) .skip (.exit 0))) (.seq (.block 1 (.seq (.region [⟨(some 43), (.mv (.tmp 8)), none, none⟩, ⟨(some 44), (.bin .gtr (.tmp 43) (.con (.int .i64 0))), none, none⟩, ⟨(some 45), (.mv (.tmp 44)), none, none⟩, ⟨(some 46), (.mv (.tmp 6)), (some (45, false)), none⟩, ⟨(some 47), (.fieldA 0 (.tmp 2)), (some (45, false)), none⟩, ⟨(some 48), (.load false 1 (.tmp 47)), (some (45, false)), none⟩, ⟨(some 49), (.bin .lss (.tmp 46) (.tmp 48)), (some (45, false)), none⟩, ⟨(some 50), (.pick (.tmp 45) (.con (.bool true)) (.tmp 49)), none, none⟩]) (.cond (.tmp 50) (.region [⟨(some 51), (.mv (.tmp 7)), none, none⟩, ⟨(some 52), (.fieldA 1 (.tmp 2)), none, none⟩, ⟨(some 53), (.load false 1 (.tmp 52)), none, none⟩, ⟨(some 54), (.mv (.tmp 8)), none, none⟩, ⟨(some 55), (.idxASl 2 (.tmp 53) (.tmp 54)), none, none⟩, ⟨(some 56), (.load true 2 (.tmp 55)), none, none⟩, ⟨(some 57), (.buildS 1 [(.int .i64 0), (.int .i64 0)] [(0, (2, (.tmp 56)))]), none, none⟩, ⟨(some 58), (.append 2 16 (.tmp 51) (.tmp 57)), none, none⟩, ⟨(some 7), (.mv (.tmp 58)), none, none⟩]) .skip))) (.region [⟨(some 41), (.mv (.tmp 8)), none, none⟩, ⟨(some 42), (.bin .add (.tmp 41) (.con (.int .i64 1))), none, none⟩, ⟨(some 8), (.mv (.tmp 42)), none, none⟩])))
def J37 (K0 : AHeap) (q : Nat) (r : Int) (ps : List (Int × Int)) (j : Nat) (env : Env) (K : AHeap) : Prop :=
  j ≤ ps.length ∧ Keeps K0 K ∧ env 2 = .ptr q 0 ∧ env 3 = .ptr (q + 1) 0 ∧ env 4 = .ptr (q + 2) 0 ∧ env 6 = .int .i64 (ps.length : Int) ∧ env 8 = .int .i64 (j : Int) ∧ ∃ v, env 7 = v ∧ Bp K v (kl r ps j) ∧ ∀ i, i ∈ v.ids → K0.next ≤ i
theorem loop37 {K0 K : AHeap} {q : Nat} {r : Int} {s : AVal} {ps : List (Int × Int)} {env : Env} (op : K0.obj q = some (.cells [.int .i64 r, s] true)) (hq : q + 2 < K0.next) (hs : Sl K0 2 s (PS ps)) (hid : ∀ i, i ∈ s.ids → i < K0.next) (hl : ps.length ≤ 8796093021952) (h : J37 K0 q r ps 0 env K) :
    Outs (AX A (.loop b37) env K) fun e env' K' => e = .exit 0 ∧ J37 K0 q r ps ps.length env' K' := by
  refine loop_ends (I := fun (j : Nat) env' K' => J37 K0 q r ps j env' K') (fun j => ps.length - j) ?_ 0 env K h
  rintro j env K ⟨hj, hk, h2, h3, h4, h6, h8, v, h7, hv, hvi⟩
  by_cases hlt : j < ps.length
  · have hsK := hs.keep hid hk
    have opK : K.obj q = some (.cells [.int .i64 r, s] true) := by rw [hk.2 q (by omega)]; exact op
    obtain ⟨id, off, cap, g, l, own, et, ho, hkk, hall⟩ := pts_at hsK (by omega)
    have e1 : decide ((j : Int) < (ps.length : Int)) = true := by simp; omega
    have w1 : IntKind.i64.wrap ((j : Int) + 1) = ((j + 1 : Nat) : Int) := by rw [wrap_i64]; omega
    have ha : aidx ps.length (.int .i64 (j : Int)) = some j := by simp [aidx]; omega
    obtain ⟨g1, _, _⟩ := hall j hlt
    have ks := kl_succ r ps hlt
    obtain ⟨⟨x, y⟩, exy⟩ : ∃ q, ps[j] = q := ⟨_, rfl⟩
    rw [exy] at g1 ks
    obtain ⟨K2, ap, oN, nK2, kK2⟩ := bp_push hv x y (by have := kl_len r ps j; omega)
    obtain ⟨m, em⟩ : ∃ m, (kl r ps j).length = m := ⟨_, rfl⟩
    rw [em] at ap
    have finF : ¬ (0 < j ∨ (ps.length : Int) < r) → ∀ env2 : Env, env2 2 = .ptr q 0 → env2 3 = .ptr (q + 1) 0 → env2 4 = .ptr (q + 2) 0 → env2 6 = .int .i64 (ps.length : Int) → env2 8 = .int .i64 ((j + 1 : Nat) : Int) → env2 7 = v → J37 K0 q r ps (j + 1) env2 K := by
      intro hc env2 a2 a3 a4 a6 a8 a7
      refine ⟨by omega, hk, a2, a3, a4, a6, a8, v, a7, ?_, hvi⟩
      rw [ks, if_neg hc]
      exact hv
    have finT : (0 < j ∨ (ps.length : Int) < r) → ∀ env2 : Env, env2 2 = .ptr q 0 → env2 3 = .ptr (q + 1) 0 → env2 4 = .ptr (q + 2) 0 → env2 6 = .int .i64 (ps.length : Int) → env2 8 = .int .i64 ((j + 1 : Nat) : Int) → env2 7 = .slice (K.next + 1) 0 (m + 1) (m + 1) (some 2) → J37 K0 q r ps (j + 1) env2 K2 := by
      intro hc env2 a2 a3 a4 a6 a8 a7
      have hk0 := hk.1
      refine ⟨by omega, ⟨by omega, fun i hi => ?_⟩, a2, a3, a4, a6, a8, _, a7, ?_, ?_⟩
      · rw [kK2 i (by omega) (fun hx => by have := hvi i hx; omega), hk.2 i hi]
      · rw [ks, if_pos hc]
        exact .inl (.inr ⟨_, _, rfl, by rw [PS_len]; simp [em], by omega, oN, by omega⟩)
      · intro i hi
        simp [AVal.ids] at hi
        omega
    subst et
    cases c1 : decide (0 < (j : Int))
    · cases c2 : decide ((ps.length : Int) < r)
      · simp only [b37, h2, h3, h4, h6, h7, h8, opK, e1, w1, ha, ho, g1, ap, c1, c2, rwA, rwB, Nat.reduceAdd, Nat.reduceMul, Nat.reduceLeDiff, Int.reduceEq, Int.reduceLT, Int.reduceLE, Int.reduceAdd, Int.reduceSub, Int.reduceMul, ↓reduceIte, Nat.reduceEqDiff, reduceCtorEq, ↓cnd_true, ↓cnd_false]
        rw [outs_some]
        exact .inl ⟨rfl, j + 1, by omega, finF (by have := of_decide_eq_false c1; have := of_decide_eq_false c2; omega) _ (by simp [Env.set, h2]) (by simp [Env.set, h3]) (by simp [Env.set, h4]) (by simp [Env.set, h6]) (by simp [Env.set]) (by simp [Env.set, h7])⟩
      · simp only [b37, h2, h3, h4, h6, h7, h8, opK, e1, w1, ha, ho, g1, ap, c1, c2, rwA, rwB, Nat.reduceAdd, Nat.reduceMul, Nat.reduceLeDiff, Int.reduceEq, Int.reduceLT, Int.reduceLE, Int.reduceAdd, Int.reduceSub, Int.reduceMul, ↓reduceIte, Nat.reduceEqDiff, reduceCtorEq, ↓cnd_true, ↓cnd_false]
        rw [outs_some]
        exact .inl ⟨rfl, j + 1, by omega, finT (.inr (of_decide_eq_true c2)) _ (by simp [Env.set, h2]) (by simp [Env.set, h3]) (by simp [Env.set, h4]) (by simp [Env.set, h6]) (by simp [Env.set]) (by simp [Env.set, h7])⟩
    · simp only [b37, h2, h3, h4, h6, h7, h8, opK, e1, w1, ha, ho, g1, ap, c1, rwA, rwB, Nat.reduceAdd, Nat.reduceMul, Nat.reduceLeDiff, Int.reduceEq, Int.reduceLT, Int.reduceLE, Int.reduceAdd, Int.reduceSub, Int.reduceMul, ↓reduceIte, Nat.reduceEqDiff, reduceCtorEq, ↓cnd_true, ↓cnd_false]
      rw [outs_some]
      exact .inl ⟨rfl, j + 1, by omega, finT (.inl (by have := of_decide_eq_true c1; omega)) _ (by simp [Env.set, h2]) (by simp [Env.set, h3]) (by simp [Env.set, h4]) (by simp [Env.set, h6]) (by simp [Env.set]) (by simp [Env.set, h7])⟩
  · have : j = ps.length := by omega
    subst this
    have e1 : decide ((ps.length : Int) < (ps.length : Int)) = false := by simp
    simp only [b37, h6, h8, e1, rwA, rwB, Nat.reduceAdd, Nat.reduceMul, Nat.reduceLeDiff, Int.reduceEq, Int.reduceLT, Int.reduceLE, Int.reduceAdd, Int.reduceSub, Int.reduceMul, ↓reduceIte, Nat.reduceEqDiff, reduceCtorEq, ↓cnd_true, ↓cnd_false]
    rw [outs_some]
    exact .inr ⟨by simp, rfl, hj, hk, by simp [Env.set, h2], by simp [Env.set, h3], by simp [Env.set, h4], by simp [Env.set, h6], by simp [Env.set, h8], v, by simp [Env.set, h7], hv, hvi⟩

theorem U37f {H : AHeap} {r : Int} {s : AVal} {ps : List (Int × Int)} (hs : Sl H 2 s (PS ps)) (hid : ∀ i, i ∈ s.ids → i < H.next) (hl : ps.length ≤ 8796093021952) (t u : Int) (hm : may r ps t u = false) :
    AC A 37 [.agg [.int .i64 r, s], .agg [.int .i64 t, .int .i64 u]] H = some (.tuple [.agg [.int .i64 0, .nils], .int .i64 18], H) := by
  refine look_val (x := GaFns.c37) rfl rfl rfl rfl ?_
  have hsf := hs.frz
  have hn : (frz H).next = H.next := rfl
  obtain ⟨K, eK⟩ : ∃ K, (((frz H).new (.cells [.int .i64 r, s] true)).new (.cells [.int .i64 t, .int .i64 u] true)).new (.cells [.int .i64 0, .nils] true) = K := ⟨_, rfl⟩
  have kK : Keeps (frz H) K := by rw [← eK]; exact ((Keeps.new _ _).trans (Keeps.new _ _)).trans (Keeps.new _ _)
  have hsK := hsf.keep hid kK
  have nK : K.next = H.next + 3 := by rw [← eK]; simp [new_next, hn]
  have u41 := U41 (r := r) hsK (fun i hi => by have := hid i hi; omega) (by omega)
  have oK : K.obj H.next = some (.cells [.int .i64 r, s] true) := by rw [← eK]; simp only [new_obj, new_next, hn]; rw [if_neg (by omega), if_neg (by omega), if_pos trivial]
  have oKp : K.obj (H.next + 1) = some (.cells [.int .i64 t, .int .i64 u] true) := by rw [← eK]; simp [AHeap.new, hn]
  have oK4 : K.obj (H.next + 2) = some (.cells [.int .i64 0, .nils] true) := by rw [← eK]; simp [AHeap.new, hn]
  have hlen := PS_alen hsK
  unfold may at hm
  cases hr : right r ps <;> rw [hr] at u41 hm
  · simp only [c37, eK, nK, oK, hn, oK4, oKp, u41, hlen, Bool.not_false, Bool.not_true, rwA, rwB, Nat.reduceAdd, Nat.reduceMul, Nat.reduceLeDiff, Int.reduceEq, Int.reduceLT, Int.reduceLE, Int.reduceAdd, Int.reduceSub, Int.reduceMul, ↓reduceIte, Nat.reduceEqDiff, reduceCtorEq, ↓cnd_true, ↓cnd_false]
  · cases hp : okp (t, u) <;> rw [hp] at hm
    · simp only [c37, eK, nK, oK, hn, oK4, oKp, u41, hlen, U71, hp, Bool.not_false, Bool.not_true, rwA, rwB, Nat.reduceAdd, Nat.reduceMul, Nat.reduceLeDiff, Int.reduceEq, Int.reduceLT, Int.reduceLE, Int.reduceAdd, Int.reduceSub, Int.reduceMul, ↓reduceIte, Nat.reduceEqDiff, reduceCtorEq, ↓cnd_true, ↓cnd_false]
    · have hm' : has r ps = true ∧ t ≤ (lastP ps).1 := by simpa using hm
      have h0 : ps.length ≠ 0 := by have := hm'.1; simp [has] at this; intro e; exact this.2 (List.eq_nil_of_length_eq_zero e)
      have hi : ps.length - 1 < ps.length := by omega
      have d0 : decide (0 < (ps.length : Int)) = true := decide_eq_true (by omega)
      have el := at0_get hi
      obtain ⟨id, off, cap, g, l, own, et, ho, hkk, hall⟩ := pts_at hsK (by omega)
      obtain ⟨_, g2, _⟩ := hall (ps.length - 1) hi
      obtain ⟨⟨x, y⟩, exy⟩ : ∃ q, ps[ps.length - 1] = q := ⟨_, rfl⟩
      rw [exy] at g2 el
      have d1 : decide (t ≤ x) = true := decide_eq_true (by have := hm'.2; unfold lastP at this; rw [el] at this; exact this)
      have w0 : IntKind.i64.wrap ((ps.length : Int) - 1) = ((ps.length - 1 : Nat) : Int) := by rw [wrap_i64]; omega
      have ha : aidx ps.length (.int .i64 ((ps.length - 1 : Nat) : Int)) = some (ps.length - 1) := by simp [aidx]; omega
      subst et
      simp only [c37, eK, nK, oK, hn, oK4, oKp, u41, hlen, U71, hp, d0, d1, w0, ha, ho, g2, Bool.not_false, Bool.not_true, rwA, rwB, Nat.reduceAdd, Nat.reduceMul, Nat.reduceLeDiff, Int.reduceEq, Int.reduceLT, Int.reduceLE, Int.reduceAdd, Int.reduceSub, Int.reduceMul, ↓reduceIte, Nat.reduceEqDiff, reduceCtorEq, ↓cnd_true, ↓cnd_false]

theorem U37t {H : AHeap} {r : Int} {s : AVal} {ps : List (Int × Int)} (hs : Sl H 2 s (PS ps)) (hid : ∀ i, i ∈ s.ids → i < H.next) (t u : Int) (hm : may r ps t u = true) :
    AC A 37 [.agg [.int .i64 r, s], .agg [.int .i64 t, .int .i64 u]] H = some (.tuple [.agg [.int .i64 r, .slice H.next 0 (kept r ps t u).length (kept r ps t u).length (some 2)], .int .i64 0], H.new (.cells (PS (kept r ps t u)) true)) := by
  refine look_new (x := GaFns.c37) (u := .tuple [.agg [.int .i64 r, .slice H.next 0 (kept r ps t u).length (kept r ps t u).length (some 2)], .int .i64 0]) rfl rfl rfl ?_
  unfold may at hm
  simp only [Bool.and_eq_true, Bool.not_eq_true', Bool.and_eq_false_iff] at hm
  obtain ⟨⟨hr, hp⟩, hlast⟩ := hm
  obtain ⟨⟨hr1, hr2⟩, hrl, hg⟩ := right_good hr
  have hsf := hs.frz
  have hn : (frz H).next = H.next := rfl
  obtain ⟨K, eK⟩ : ∃ K, (((frz H).new (.cells [.int .i64 r, s] true)).new (.cells [.int .i64 t, .int .i64 u] true)).new (.cells [.int .i64 0, .nils] true) = K := ⟨_, rfl⟩
  have kK : Keeps (frz H) K := by rw [← eK]; exact ((Keeps.new _ _).trans (Keeps.new _ _)).trans (Keeps.new _ _)
  have hsK := hsf.keep hid kK
  have hidK : ∀ i, i ∈ s.ids → i < K.next := fun i hi => by have := hid i hi; have := kK.1; omega
  have nK : K.next = H.next + 3 := by rw [← eK]; simp [new_next, hn]
  have u41 := U41 (r := r) hsK hidK (by omega)
  rw [hr] at u41
  have oK : K.obj H.next = some (.cells [.int .i64 r, s] true) := by rw [← eK]; simp only [new_obj, new_next, hn]; rw [if_neg (by omega), if_neg (by omega), if_pos trivial]
  have oKp : K.obj (H.next + 1) = some (.cells [.int .i64 t, .int .i64 u] true) := by rw [← eK]; simp [AHeap.new, hn]
  have oK4 : K.obj (H.next + 2) = some (.cells [.int .i64 0, .nils] true) := by rw [← eK]; simp [AHeap.new, hn]
  have hlen := PS_alen hsK
  obtain ⟨K5, eK5⟩ : ∃ X, K.new (.cells [] true) = X := ⟨_, rfl⟩
  have kK5 : Keeps K K5 := by rw [← eK5]; exact Keeps.new _ _
  have nK5 : K5.next = H.next + 4 := by rw [← eK5]; simp [new_next, nK]
  have oE : K5.obj (H.next + 3) = some (.cells [] true) := by rw [← eK5, new_obj, if_pos (by omega)]
  have hB : Bp K5 (.slice (H.next + 3) 0 0 0 none) (kl r ps 0) := .inr ⟨by simp [kl], _, rfl, by omega, oE⟩
  have key : ∀ env : Env, env 2 = .ptr H.next 0 → env 3 = .ptr (H.next + 1) 0 → env 4 = .ptr (H.next + 2) 0 → env 6 = .int .i64 (ps.length : Int) → env 8 = .int .i64 0 → env 7 = .slice (H.next + 3) 0 0 0 none → _ := fun env a2 a3 a4 a6 a8 a7 =>
    loop37 (K0 := K) (K := K5) (q := H.next) (r := r) (s := s) (ps := ps) (env := env) oK (by omega) hsK hidK (by omega) ⟨Nat.zero_le _, kK5, a2, a3, a4, a6, a8, _, a7, hB, fun i hx => by simp [AVal.ids] at hx; omega⟩
  have tail : ∀ (env' : Env) (K' : AHeap), J37 K H.next r ps ps.length env' K' → ∃ (v : AVal) (K6 : AHeap), env' 7 = v ∧ aappend (K'.new (.cells [.int .i64 t, .int .i64 u] true)) 2 16 v (.slice K'.next 0 1 1 none) = some (.slice (K'.next + 1) 0 (kept r ps t u).length (kept r ps t u).length (some 2), K6) ∧ K6.obj (K'.next + 1) = some (.cells (PS (kept r ps t u)) true) ∧ K6.next = K'.next + 2 ∧
      K'.obj H.next = some (.cells [.int .i64 r, s] true) ∧ K'.obj (H.next + 1) = some (.cells [.int .i64 t, .int .i64 u] true) ∧ K6.obj H.next = some (.cells [.int .i64 r, s] true) ∧ K6.obj (H.next + 1) = some (.cells [.int .i64 t, .int .i64 u] true) ∧ K6.obj (H.next + 2) = some (.cells [.int .i64 0, .nils] true) ∧ H.next + 3 ≤ K'.next := by
    rintro env' K' ⟨_, hk, _, _, _, _, _, v, h7, hv, hvi⟩
    obtain ⟨K6, ap, oN, nK6, kK6⟩ := bp_push hv t u (by have := kl_len r ps ps.length; omega)
    have hk1 := hk.1
    have kk := kl_kept hr1 hrl t u
    have lk : (kl r ps ps.length).length + 1 = (kept r ps t u).length := by rw [← kk]; simp
    rw [kk] at oN
    rw [lk] at ap
    have old : ∀ i, i < K.next → K6.obj i = K.obj i := fun i hi => by rw [kK6 i (by omega) (fun hx => by have := hvi i hx; omega), hk.2 i hi]
    exact ⟨v, K6, h7, ap, oN, nK6, by rw [hk.2 _ (by omega)]; exact oK, by rw [hk.2 _ (by omega)]; exact oKp, by rw [old _ (by omega)]; exact oK, by rw [old _ (by omega)]; exact oKp, by rw [old _ (by omega)]; exact oK4, by omega⟩
  have fin : ∀ (env' : Env) (K' : AHeap), J37 K H.next r ps ps.length env' K' → env' 2 = .ptr H.next 0 ∧ env' 3 = .ptr (H.next + 1) 0 ∧ env' 4 = .ptr (H.next + 2) 0 := fun env' K' h => ⟨h.2.2.1, h.2.2.2.1, h.2.2.2.2.1⟩
  by_cases h0 : ps.length = 0
  · have d0 : decide (0 < (ps.length : Int)) = false := decide_eq_false (by omega)
    simp only [c37, eK, nK, oK, hn, oK4, oKp, u41, hlen, U71, hp, d0, eK5, Bool.not_false, Bool.not_true, rwA, rwB, Nat.reduceAdd, Nat.reduceMul, Nat.reduceLeDiff, Int.reduceEq, Int.reduceLT, Int.reduceLE, Int.reduceAdd, Int.reduceSub, Int.reduceMul, ↓reduceIte, Nat.reduceEqDiff, reduceCtorEq, ↓cnd_true, ↓cnd_false]
    repeat (first | refine outs_seq ?_ | refine outs_block ?_ | refine outs_step ?_ | refine outs_stepD ?_ | refine rets_end ?_ | refine ans_end ?_)
    refine (key _ ?_ ?_ ?_ ?_ ?_ ?_).mono ?_
    · simp [Env.set]
    · simp [Env.set]
    · simp [Env.set]
    · simp [Env.set]
    · simp [Env.set]
    · simp [Env.set]
    · rintro e env' K' ⟨rfl, hJ⟩
      obtain ⟨a2, a3, a4⟩ := fin env' K' hJ
      obtain ⟨v, K6, h7, ap, oN, nK6, b1, b2, b3, b4, b5, hle⟩ := tail env' K' hJ
      have n1 : (H.next = K'.next) = False := by simp; omega
      have n2 : (H.next + 1 = K'.next) = False := by simp; omega
      simp only [outs_some, a2, a3, a4, h7, ap, b1, b2, b3, b4, b5, n1, n2, if_false, rwA, rwB, Nat.reduceAdd, Nat.reduceMul, Nat.reduceLeDiff, Int.reduceEq, Int.reduceLT, Int.reduceLE, Int.reduceAdd, Int.reduceSub, Int.reduceMul, ↓reduceIte, Nat.reduceEqDiff, reduceCtorEq, ↓cnd_true, ↓cnd_false]
      rw [rets_some]
      exact one_res (by omega) (by simp only [set_obj]; rw [if_neg (by omega)]; exact oN) (PS_old _ _)
  · have d0 : decide (0 < (ps.length : Int)) = true := decide_eq_true (by omega)
    have hi : ps.length - 1 < ps.length := by omega
    have hh : has r ps = true := by simp [has, hr]; intro e; simp [e] at h0
    have el := at0_get hi
    obtain ⟨id, off, cap, g, l, own, et, ho, hkk, hall⟩ := pts_at hsK (by omega)
    obtain ⟨_, g2, _⟩ := hall (ps.length - 1) hi
    obtain ⟨⟨x, y⟩, exy⟩ : ∃ q, ps[ps.length - 1] = q := ⟨_, rfl⟩
    rw [exy] at g2 el
    have d1 : decide (t ≤ x) = false := by
      have h2 := hlast.resolve_left (by rw [hh]; simp)
      unfold lastP at h2
      rw [el] at h2
      exact h2
    have w0 : IntKind.i64.wrap ((ps.length : Int) - 1) = ((ps.length - 1 : Nat) : Int) := by rw [wrap_i64]; omega
    have ha : aidx ps.length (.int .i64 ((ps.length - 1 : Nat) : Int)) = some (ps.length - 1) := by simp [aidx]; omega
    subst et
    simp only [c37, eK, nK, oK, hn, oK4, oKp, u41, hlen, U71, hp, d0, d1, w0, ha, ho, g2, eK5, Bool.not_false, Bool.not_true, rwA, rwB, Nat.reduceAdd, Nat.reduceMul, Nat.reduceLeDiff, Int.reduceEq, Int.reduceLT, Int.reduceLE, Int.reduceAdd, Int.reduceSub, Int.reduceMul, ↓reduceIte, Nat.reduceEqDiff, reduceCtorEq, ↓cnd_true, ↓cnd_false]
    repeat (first | refine outs_seq ?_ | refine outs_block ?_ | refine outs_step ?_ | refine outs_stepD ?_ | refine rets_end ?_ | refine ans_end ?_)
    refine (key _ ?_ ?_ ?_ ?_ ?_ ?_).mono ?_
    · simp [Env.set]
    · simp [Env.set]
    · simp [Env.set]
    · simp [Env.set]
    · simp [Env.set]
    · simp [Env.set]
    · rintro e env' K' ⟨rfl, hJ⟩
      obtain ⟨a2, a3, a4⟩ := fin env' K' hJ
      obtain ⟨v, K6, h7, ap, oN, nK6, b1, b2, b3, b4, b5, hle⟩ := tail env' K' hJ
      have n1 : (H.next = K'.next) = False := by simp; omega
      have n2 : (H.next + 1 = K'.next) = False := by simp; omega
      simp only [outs_some, a2, a3, a4, h7, ap, b1, b2, b3, b4, b5, n1, n2, if_false, rwA, rwB, Nat.reduceAdd, Nat.reduceMul, Nat.reduceLeDiff, Int.reduceEq, Int.reduceLT, Int.reduceLE, Int.reduceAdd, Int.reduceSub, Int.reduceMul, ↓reduceIte, Nat.reduceEqDiff, reduceCtorEq, ↓cnd_true, ↓cnd_false]
      rw [rets_some]
      exact one_res (by omega) (by simp only [set_obj]; rw [if_neg (by omega)]; exact oN) (PS_old _ _)

end Go.Proofs.Ytfpbmoiconopcaa.Gh
