/- HistorySooner. -/
import Derived.Test.YtfpbmoiconopcaaGhK
set_option maxRecDepth 100000
set_option linter.unusedSimpArgs false
set_option linter.unusedVariables false
set_option maxHeartbeats 4000000
namespace Go.Proofs.Ytfpbmoiconopcaa.Gh
open Go Go.Proofs.Ytfpbmoiconopcaa.Am GaFns Go.RowKit

theorem run11 (r low high tk more : Int) (s : AVal) (ps : List (Int × Int)) (H : AHeap) (hs : Sl H 2 s (PS ps)) (hid : ∀ i, i ∈ s.ids → i < H.next) (hl : ps.length ≤ 8796093021952)
    (h1 : -9223372036854775808 ≤ low ∧ low ≤ 9223372036854775807) (h2 : -9223372036854775808 ≤ high ∧ high ≤ 9223372036854775807) (h3 : -9223372036854775808 ≤ tk ∧ tk ≤ 9223372036854775807) (h4 : -9223372036854775808 ≤ more ∧ more ≤ 9223372036854775807) :
    ∃ H', AC A 11 [.agg [.int .i64 r, s], .int .i64 low, .int .i64 high, .int .i64 tk, .int .i64 more] H = some (.bool true, H') := by
  show Ans (AC A 11 [.agg [.int .i64 r, s], .int .i64 low, .int .i64 high, .int .i64 tk, .int .i64 more] H) (.bool true)
  rw [s_fn (A := A) (f := 11) (x := GaFns.c11) rfl rfl rfl]
  obtain ⟨K, eK⟩ : ∃ K, H.new (.cells [.int .i64 r, s] true) = K := ⟨_, rfl⟩
  have kK : Keeps H K := by rw [← eK]; exact Keeps.new _ _
  have nK : K.next = H.next + 1 := by rw [← eK]; rfl
  have oK : K.obj H.next = some (.cells [.int .i64 r, s] true) := by rw [← eK]; simp [AHeap.new]
  have hsK := hs.keep hid kK
  have hidK : ∀ i, i ∈ s.ids → i < K.next := fun i hi => by have := hid i hi; omega
  obtain ⟨v, K2, u34, kK2, hv, hvi, hvc⟩ := U34 hsK hidK hl r
  have hn2 : H.next + 1 ≤ K2.next := by have := kK2.1; omega
  have oK2 : K2.obj H.next = some (.cells [.int .i64 r, s] true) := by rw [kK2.2 _ (by omega)]; exact oK
  have hsK2 := hsK.keep hidK kK2
  obtain ⟨N, eN⟩ : ∃ N, K2.next = N := ⟨_, rfl⟩
  obtain ⟨K3, eK3⟩ : ∃ K3, (K2.new (.cells [.int .i64 0, .nils] true)).set N (.cells [.int .i64 r, v] true) = K3 := ⟨_, rfl⟩
  have nK3 : K3.next = N + 1 := by rw [← eK3, ← eN]; simp [set_next, new_next]
  have kK3 : Keeps K2 K3 := ⟨by omega, fun i hi => by rw [← eK3]; simp only [set_obj, new_obj]; rw [if_neg (by omega), if_neg (by omega)]⟩
  have oK3 : K3.obj H.next = some (.cells [.int .i64 r, s] true) := by rw [kK3.2 _ (by omega)]; exact oK2
  have oN : K3.obj N = some (.cells [.int .i64 r, v] true) := by rw [← eK3]; simp [AHeap.set]
  have hv3 := hv.keep hvi kK3
  have hvi3 : ∀ i, i ∈ v.ids → i < K3.next := fun i hi => by have := hvi i hi; omega
  have hs3 := hsK2.keep (fun i hi => by have := hidK i hi; have := kK2.1; omega) kK3
  have hid3 : ∀ i, i ∈ s.ids → i < K3.next := fun i hi => by have := hid i hi; omega
  have hlen := PS_alen hs3
  have u35 := U35 (r := r) hv3 hvi3 (by omega)
  have u48 := fun lim hm => U48 (r := r) hv3 hvi3 (by omega) lim hm
  have u49 := fun lim tk hm => U49 (r := r) hv3 hvi3 (by omega) lim tk hm
  have c0 := chk0 r ps
  have hst : ∀ M : AHeap, (∀ i, M.obj i = K2.obj i) → M.next = K2.next → True := fun _ _ _ => trivial
  have cv : ∀ x : AVal, (AVal.agg [.int .i64 r, v]) = .agg [.int .i64 r, v] := fun _ => rfl
  by_cases q1 : (100 : Int) < (ps.length : Int)
  · rcases hvc with rfl | ⟨_, _, _, _, _, rfl⟩ <;> simp only [c11, eK, nK, oK, U33, u34, eN, eK3, nK3, oK3, oN, hlen, q1, decide_true, Bool.not_true, Bool.not_false, rwA, rwB, Nat.reduceAdd, Nat.reduceMul, Nat.reduceLeDiff, Int.reduceEq, Int.reduceLT, Int.reduceLE, Int.reduceAdd, Int.reduceSub, Int.reduceMul, ↓reduceIte, Nat.reduceEqDiff, reduceCtorEq, ↓cnd_true, ↓cnd_false]
  cases hr : right r ps <;> rw [hr] at c0
  · rcases hvc with rfl | ⟨_, _, _, _, _, rfl⟩ <;> simp only [c11, eK, nK, oK, U33, u34, eN, eK3, nK3, oK3, oN, hlen, q1, u35, c0, decide_true, decide_false, Bool.not_true, Bool.not_false, rwA, rwB, Nat.reduceAdd, Nat.reduceMul, Nat.reduceLeDiff, Int.reduceEq, Int.reduceLT, Int.reduceLE, Int.reduceAdd, Int.reduceSub, Int.reduceMul, ↓reduceIte, Nat.reduceEqDiff, reduceCtorEq, ↓cnd_true, ↓cnd_false]
  by_cases q0 : ps.length = 0
  · have d0 : decide ((ps.length : Int) = 0) = true := decide_eq_true (by omega)
    rcases hvc with rfl | ⟨_, _, _, _, _, rfl⟩ <;> simp only [c11, eK, nK, oK, U33, u34, eN, eK3, nK3, oK3, oN, hlen, q1, u35, c0, d0, decide_true, decide_false, Bool.not_true, Bool.not_false, rwA, rwB, Nat.reduceAdd, Nat.reduceMul, Nat.reduceLeDiff, Int.reduceEq, Int.reduceLT, Int.reduceLE, Int.reduceAdd, Int.reduceSub, Int.reduceMul, ↓reduceIte, Nat.reduceEqDiff, reduceCtorEq, ↓cnd_true, ↓cnd_false]
  have d0 : decide ((ps.length : Int) = 0) = false := decide_eq_false (by omega)
  by_cases q2 : low < 0
  · rcases hvc with rfl | ⟨_, _, _, _, _, rfl⟩ <;> simp only [c11, eK, nK, oK, U33, u34, eN, eK3, nK3, oK3, oN, hlen, q1, u35, c0, d0, q2, decide_true, decide_false, Bool.not_true, Bool.not_false, rwA, rwB, Nat.reduceAdd, Nat.reduceMul, Nat.reduceLeDiff, Int.reduceEq, Int.reduceLT, Int.reduceLE, Int.reduceAdd, Int.reduceSub, Int.reduceMul, ↓reduceIte, Nat.reduceEqDiff, reduceCtorEq, ↓cnd_true, ↓cnd_false]
  by_cases q3 : high < low
  · rcases hvc with rfl | ⟨_, _, _, _, _, rfl⟩ <;> simp only [c11, eK, nK, oK, U33, u34, eN, eK3, nK3, oK3, oN, hlen, q1, u35, c0, d0, q2, q3, decide_true, decide_false, Bool.not_true, Bool.not_false, rwA, rwB, Nat.reduceAdd, Nat.reduceMul, Nat.reduceLeDiff, Int.reduceEq, Int.reduceLT, Int.reduceLE, Int.reduceAdd, Int.reduceSub, Int.reduceMul, ↓reduceIte, Nat.reduceEqDiff, reduceCtorEq, ↓cnd_true, ↓cnd_false]
  by_cases q4 : more < tk
  · rcases hvc with rfl | ⟨_, _, _, _, _, rfl⟩ <;> simp only [c11, eK, nK, oK, U33, u34, eN, eK3, nK3, oK3, oN, hlen, q1, u35, c0, d0, q2, q3, q4, decide_true, decide_false, Bool.not_true, Bool.not_false, rwA, rwB, Nat.reduceAdd, Nat.reduceMul, Nat.reduceLeDiff, Int.reduceEq, Int.reduceLT, Int.reduceLE, Int.reduceAdd, Int.reduceSub, Int.reduceMul, ↓reduceIte, Nat.reduceEqDiff, reduceCtorEq, ↓cnd_true, ↓cnd_false]
  -- there are points
  have hh : has r ps = true := by simp [has, hr, q0]
  obtain ⟨_, _, hg⟩ := right_good hr
  have hi : ps.length - 1 < ps.length := by omega
  obtain ⟨⟨x, y⟩, exy⟩ : ∃ q, ps[ps.length - 1] = q := ⟨_, rfl⟩
  have el : lastP ps = (x, y) := by rw [← exy]; exact at0_get hi
  have b1 := good_cnt hg hi
  rw [exy] at b1
  have hy0 : 0 ≤ (lastP ps).2 := by rw [el]; exact b1.2.1
  have na := left_nn hh hy0 (low := low) (by omega) (by omega)
  have nb := left_nn hh hy0 (low := high) (by omega) (by omega)
  have hab := left_mono hh hy0 (low := low) (high := high) (by omega) (by omega) (by omega)
  have ua := u48 low h1.2
  have ub := u48 high h2.2
  have va1 := u49 high tk h2.2
  have va2 := u49 high more h2.2
  have va3 := u49 low tk h1.2
  have va4 := u49 (-1) tk (by omega)
  rw [left_neg hh] at va4
  have zlow : low ≤ y → leftH r ps low = 0 := fun h => left_low hh (by omega) (by rw [el]; exact h)
  obtain ⟨a, ea⟩ : ∃ a, leftH r ps low = a := ⟨_, rfl⟩
  obtain ⟨b, eb⟩ : ∃ b, leftH r ps high = b := ⟨_, rfl⟩
  rw [ea] at ua va3 na hab zlow
  rw [eb] at ub va1 va2 nb hab
  have va1 : AC A 49 [.agg [.int .i64 r, v], .int .i64 high, .int .i64 tk] K3 = some (.bool (inT b tk), K3) := va1
  have va2 : AC A 49 [.agg [.int .i64 r, v], .int .i64 high, .int .i64 more] K3 = some (.bool (inT b more), K3) := va2
  have va3 : AC A 49 [.agg [.int .i64 r, v], .int .i64 low, .int .i64 tk] K3 = some (.bool (inT a tk), K3) := va3
  have va4 : AC A 49 [.agg [.int .i64 r, v], .int .i64 (-1), .int .i64 tk] K3 = some (.bool (inT 9218868437227405312 tk), K3) := va4
  rw [inT_inf (by omega)] at va4
  have t1 : decide (0 < Fl.ord a b) = false := decide_eq_false (by have := (Fl.ord_le a b).2 (by rw [nn_ky na, nn_ky nb]; omega); omega)
  have t2 : decide (Fl.kd a < 3) = false := decide_eq_false (by have := nn_kd na; omega)
  have t3 : decide (Fl.kd a = 6) = false := decide_eq_false (by have := nn_kd na; omega)
  have t4 : decide (Fl.kd b = 6) = false := decide_eq_false (by have := nn_kd nb; omega)
  have w1 : IntKind.i64.wrap ((ps.length : Int) - 1) = ((ps.length - 1 : Nat) : Int) := by rw [wrap_i64]; omega
  have ha : aidx ps.length (.int .i64 ((ps.length - 1 : Nat) : Int)) = some (ps.length - 1) := by simp [aidx]; omega
  obtain ⟨id, off, cap, g, l, own, et, ho, hkk, hall⟩ := pts_at hs3 (by omega)
  obtain ⟨g1, g2, g3⟩ := hall (ps.length - 1) hi
  rw [exy] at g1 g2 g3
  rw [Nat.add_assoc] at g3
  have m1 : inT b tk = true → inT b more = true := inT_mono nb nb (Nat.le_refl _) (by omega)
  have m2 : inT b tk = true → inT a tk = true := inT_mono na nb hab (Int.le_refl _)
  have m3 : low ≤ y → 0 ≤ tk → inT a tk = true := fun h h' => by rw [zlow h]; exact inT_0 h'
  subst et
  by_cases p1 : y < low
  · cases i1 : inT b tk
    · rw [i1] at va1
      rcases hvc with rfl | ⟨_, _, _, _, _, rfl⟩ <;> simp only [c11, eK, nK, oK, U33, u34, eN, eK3, nK3, oK3, oN, hlen, q1, u35, c0, d0, q2, q3, q4, ua, ub, U24, U18, t1, t2, t3, t4, va1, va4, w1, ha, ho, g1, g3, p1, decide_true, decide_false, Bool.not_true, Bool.not_false, rwA, rwB, Nat.reduceAdd, Nat.reduceMul, Nat.reduceLeDiff, Int.reduceEq, Int.reduceLT, Int.reduceLE, Int.reduceAdd, Int.reduceSub, Int.reduceMul, ↓reduceIte, Nat.reduceEqDiff, reduceCtorEq, ↓cnd_true, ↓cnd_false]
    · have i2 := m1 i1
      have i3 := m2 i1
      rw [i1] at va1
      rw [i2] at va2
      rw [i3] at va3
      rcases hvc with rfl | ⟨_, _, _, _, _, rfl⟩ <;> simp only [c11, eK, nK, oK, U33, u34, eN, eK3, nK3, oK3, oN, hlen, q1, u35, c0, d0, q2, q3, q4, ua, ub, U24, U18, t1, t2, t3, t4, va1, va2, va3, va4, w1, ha, ho, g1, g3, p1, decide_true, decide_false, Bool.not_true, Bool.not_false, rwA, rwB, Nat.reduceAdd, Nat.reduceMul, Nat.reduceLeDiff, Int.reduceEq, Int.reduceLT, Int.reduceLE, Int.reduceAdd, Int.reduceSub, Int.reduceMul, ↓reduceIte, Nat.reduceEqDiff, reduceCtorEq, ↓cnd_true, ↓cnd_false]
  by_cases p2 : tk < 0
  · cases i1 : inT b tk
    · rw [i1] at va1
      rcases hvc with rfl | ⟨_, _, _, _, _, rfl⟩ <;> simp only [c11, eK, nK, oK, U33, u34, eN, eK3, nK3, oK3, oN, hlen, q1, u35, c0, d0, q2, q3, q4, ua, ub, U24, U18, t1, t2, t3, t4, va1, va4, w1, ha, ho, g1, g3, p1, p2, decide_true, decide_false, Bool.not_true, Bool.not_false, rwA, rwB, Nat.reduceAdd, Nat.reduceMul, Nat.reduceLeDiff, Int.reduceEq, Int.reduceLT, Int.reduceLE, Int.reduceAdd, Int.reduceSub, Int.reduceMul, ↓reduceIte, Nat.reduceEqDiff, reduceCtorEq, ↓cnd_true, ↓cnd_false]
    · have i2 := m1 i1
      have i3 := m2 i1
      rw [i1] at va1
      rw [i2] at va2
      rw [i3] at va3
      rcases hvc with rfl | ⟨_, _, _, _, _, rfl⟩ <;> simp only [c11, eK, nK, oK, U33, u34, eN, eK3, nK3, oK3, oN, hlen, q1, u35, c0, d0, q2, q3, q4, ua, ub, U24, U18, t1, t2, t3, t4, va1, va2, va3, va4, w1, ha, ho, g1, g3, p1, p2, decide_true, decide_false, Bool.not_true, Bool.not_false, rwA, rwB, Nat.reduceAdd, Nat.reduceMul, Nat.reduceLeDiff, Int.reduceEq, Int.reduceLT, Int.reduceLE, Int.reduceAdd, Int.reduceSub, Int.reduceMul, ↓reduceIte, Nat.reduceEqDiff, reduceCtorEq, ↓cnd_true, ↓cnd_false]
  have i3 := m3 (by omega) (by omega)
  rw [i3] at va3
  cases i1 : inT b tk
  · rw [i1] at va1
    rcases hvc with rfl | ⟨_, _, _, _, _, rfl⟩ <;> simp only [c11, eK, nK, oK, U33, u34, eN, eK3, nK3, oK3, oN, hlen, q1, u35, c0, d0, q2, q3, q4, ua, ub, U24, U18, t1, t2, t3, t4, va1, va3, va4, w1, ha, ho, g1, g3, p1, p2, decide_true, decide_false, Bool.not_true, Bool.not_false, rwA, rwB, Nat.reduceAdd, Nat.reduceMul, Nat.reduceLeDiff, Int.reduceEq, Int.reduceLT, Int.reduceLE, Int.reduceAdd, Int.reduceSub, Int.reduceMul, ↓reduceIte, Nat.reduceEqDiff, reduceCtorEq, ↓cnd_true, ↓cnd_false]
  · have i2 := m1 i1
    rw [i1] at va1
    rw [i2] at va2
    rcases hvc with rfl | ⟨_, _, _, _, _, rfl⟩ <;> simp only [c11, eK, nK, oK, U33, u34, eN, eK3, nK3, oK3, oN, hlen, q1, u35, c0, d0, q2, q3, q4, ua, ub, U24, U18, t1, t2, t3, t4, va1, va2, va3, va4, w1, ha, ho, g1, g3, p1, p2, decide_true, decide_false, Bool.not_true, Bool.not_false, rwA, rwB, Nat.reduceAdd, Nat.reduceMul, Nat.reduceLeDiff, Int.reduceEq, Int.reduceLT, Int.reduceLE, Int.reduceAdd, Int.reduceSub, Int.reduceMul, ↓reduceIte, Nat.reduceEqDiff, reduceCtorEq, ↓cnd_true, ↓cnd_false]

theorem law11 (H : AHeap) (args : List AVal) (dats : List Dat) (h : AArgs Try.prog H [46, 2, 2, 2, 2] args dats) : ∃ k H', acall A k 11 args H = some (.bool true, H') := by
  obtain ⟨v0, r, d0, ds, rfl, rfl, h0, h⟩ := args_cons h
  obtain ⟨v1, r, d1, ds, rfl, rfl, h1, h⟩ := args_cons h
  obtain ⟨v2, r, d2, ds, rfl, rfl, h2, h⟩ := args_cons h
  obtain ⟨v3, r, d3, ds, rfl, rfl, h3, h⟩ := args_cons h
  obtain ⟨v4, r, d4, ds, rfl, rfl, h4, h⟩ := args_cons h
  obtain rfl := args_nil h
  obtain ⟨r, s, ps, rfl, hs, hid, hl⟩ := arg46 h0
  obtain ⟨a, rfl, _, a1, a2⟩ := arg_int Try.underlying2 h1
  obtain ⟨b, rfl, _, b1, b2⟩ := arg_int Try.underlying2 h2
  obtain ⟨c, rfl, _, c1, c2⟩ := arg_int Try.underlying2 h3
  obtain ⟨e, rfl, _, e1, e2⟩ := arg_int Try.underlying2 h4
  simp [IntKind.min, IntKind.max, IntKind.signed, IntKind.bits] at a1 a2 b1 b2 c1 c2 e1 e2
  obtain ⟨H', hr⟩ := run11 r a b c e s ps H hs hid hl ⟨a1, by omega⟩ ⟨b1, by omega⟩ ⟨c1, by omega⟩ ⟨e1, by omega⟩
  obtain ⟨k, hk⟩ := AC_iff.1 hr
  exact ⟨k, H', hk⟩

end Go.Proofs.Ytfpbmoiconopcaa.Gh
