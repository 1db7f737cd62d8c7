/- DiskWhole: the law. -/
import Derived.Test.YtilhjcnkaelheaaDi
set_option maxRecDepth 100000
set_option linter.unusedSimpArgs false
set_option linter.unusedVariables false
set_option maxHeartbeats 4000000
namespace Go.Proofs.Ytilhjcnkaelheaa.Dk
open Go Go.Proofs.Ytilhjcnkaelheaa.Am DnFns Go.RowKit
open Sd (Sec noughts home homeno ofHome ofNo opened unfit pad)

theorem flush_still {d : DS} (h : d.dead = false ∧ d.arm = 0) : d.flush = (d.step.settle (fun _ => true), 0) := by
  have g : d.goes = true := by simp [DS.goes, h.1, h.2]
  unfold DS.flush; rw [if_pos g]

theorem run3 {H : AHeap} {n step : Int} {bv ev kv : AVal} {before behind : List Act} {keep : List Bool} (hs1 : step ≤ 9223372036854775807) (hb : Sl H 5 bv (before.flatMap ac)) (hbi : ∀ i, i ∈ bv.ids → i < H.next)
    (he : Sl H 5 ev (behind.flatMap ac)) (hei : ∀ i, i ∈ ev.ids → i < H.next) (hk : Sl H 1 kv (keep.map .bool)) (hki : ∀ i, i ∈ kv.ids → i < H.next) :
    Ans (AC A 3 [.int .i64 n, bv, ev, .int .i64 step, kv] H) (.bool true) := by
  rw [s_fn (A := A) (f := 3) (x := DnFns.c3) rfl rfl rfl]
  have lb := hb.alen
  rw [slen_fm ac_len (by decide) hb] at lb
  have le := he.alen
  rw [slen_fm ac_len (by decide) he] at le
  by_cases hn : 1 ≤ n ∧ n ≤ 4865
  rotate_left
  · simp only [c3, U9, U10x hn, e_nilp1, rwA, rwB, Nat.reduceAdd, Nat.reduceMul, Nat.reduceLeDiff, Int.reduceEq, Int.reduceLT, Int.reduceLE, Int.reduceAdd, Int.reduceSub, Int.reduceMul, ↓reduceIte, Nat.reduceEqDiff, reduceCtorEq, ↓cnd_true, ↓cnd_false]
  obtain ⟨m, rfl⟩ : ∃ m : Nat, n = (m : Int) := ⟨n.toNat, by omega⟩
  obtain ⟨H1, eNew, hD, kN⟩ := U10 (n := m) (by omega) (by omega) H
  have gz : ∀ x : Nat, decide ((x : Int) > (40 : Int)) = decide ((40 : Int) < (x : Int)) := fun _ => rfl
  cases c1 : decide ((60 : Int) < (m : Int))
  rotate_left
  · simp only [c3, U9, eNew, c1, e_nilp0, rwA, rwB, Nat.reduceAdd, Nat.reduceMul, Nat.reduceLeDiff, Int.reduceEq, Int.reduceLT, Int.reduceLE, Int.reduceAdd, Int.reduceSub, Int.reduceMul, ↓reduceIte, Nat.reduceEqDiff, reduceCtorEq, ↓cnd_true, ↓cnd_false]
  cases c2 : decide ((40 : Int) < (before.length : Int))
  rotate_left
  · simp only [c3, U9, eNew, c1, c2, lb, e_nilp0, rwA, rwB, Nat.reduceAdd, Nat.reduceMul, Nat.reduceLeDiff, Int.reduceEq, Int.reduceLT, Int.reduceLE, Int.reduceAdd, Int.reduceSub, Int.reduceMul, ↓reduceIte, Nat.reduceEqDiff, reduceCtorEq, ↓cnd_true, ↓cnd_false]
  cases c3' : decide ((40 : Int) < (behind.length : Int))
  rotate_left
  · simp only [c3, U9, eNew, c1, c2, c3', lb, le, e_nilp0, rwA, rwB, Nat.reduceAdd, Nat.reduceMul, Nat.reduceLeDiff, Int.reduceEq, Int.reduceLT, Int.reduceLE, Int.reduceAdd, Int.reduceSub, Int.reduceMul, ↓reduceIte, Nat.reduceEqDiff, reduceCtorEq, ↓cnd_true, ↓cnd_false]
  simp only [decide_eq_false_iff_not] at c1 c2 c3'
  have c1' : decide ((60 : Int) < (m : Int)) = false := decide_eq_false c1
  have c2' : decide ((40 : Int) < (before.length : Int)) = false := decide_eq_false c2
  have c3'' : decide ((40 : Int) < (behind.length : Int)) = false := decide_eq_false c3'
  simp only [c3, U9, eNew, c1', c2', c3'', lb, le, e_nilp0, rwA, rwB, Nat.reduceAdd, Nat.reduceMul, Nat.reduceLeDiff, Int.reduceEq, Int.reduceLT, Int.reduceLE, Int.reduceAdd, Int.reduceSub, Int.reduceMul, ↓reduceIte, Nat.reduceEqDiff, reduceCtorEq, ↓cnd_true, ↓cnd_false]
  repeat (first | refine outs_seq ?_ | refine outs_block ?_ | refine outs_step ?_ | refine outs_stepD ?_ | refine rets_end ?_ | refine ans_end ?_)
  refine outs_gen (fun env => env 2 = ev ∧ env 3 = .int .i64 step ∧ env 4 = kv ∧ env 11 = .ptr (H.next + 2) 0 ∧ env 59 = bv ∧ env 60 = .int .i64 (before.length : Int) ∧ env 61 = .int .i64 0) ⟨by simp [Env.set, ainit], by simp [Env.set, ainit], by simp [Env.set, ainit], by simp [Env.set], by simp [Env.set], by simp [Env.set], by simp [Env.set]⟩ ?_
  rintro env1 ⟨a2, a3, a4, a11, a59, a60, a61⟩
  have kn1 := kN.1
  refine (loop30 hD (hb.keep hbi kN) (fun i hi => ⟨by have := hbi i hi; omega, by have := hbi i hi; omega, by simp [AVal.ids]⟩) (by omega) (by simp [fresh]) a11 a59 a60 a61).mono ?_
  rintro e env2 K1 ⟨rfl, hE, vw1, hD1, hF1, hI1⟩
  have b2 := (hE 2 (by decide) (by decide)).trans a2
  have b3 := (hE 3 (by decide) (by decide)).trans a3
  have b4 := (hE 4 (by decide) (by decide)).trans a4
  have b11 := (hE 11 (by decide) (by decide)).trans a11
  obtain ⟨d1, ed1⟩ : ∃ d1, wrs (fresh m) before = d1 := ⟨_, rfl⟩
  have l1 := wrs_len before (fresh m)
  have st1 := wrs_still before (d := fresh m) ⟨rfl, rfl⟩
  rw [ed1] at hD1 l1 st1
  have l1' : d1.w.length ≤ 40 := by have : (fresh m).w.length = 0 := rfl; omega
  obtain ⟨K2, vw2, e13, hD2, hF2, hI2⟩ := U13 hD1 (by omega)
  have fl := flush_still st1
  obtain ⟨d2, ed2⟩ : ∃ d2, d1.step.settle (fun _ => true) = d2 := ⟨_, rfl⟩
  rw [fl, ed2] at e13 hD2
  have u14 := U14 hD2.look hD2.n1 hD2.n2
  obtain ⟨K3, eK3⟩ : ∃ K3, K2.new (.cells (d2.s.map .str) true) = K3 := ⟨_, rfl⟩
  have k3 : Keeps K2 K3 := by rw [← eK3]; exact Keeps.new _ _
  have ow3 : K3.obj K2.next = some (.cells (d2.s.map .str) true) := by rw [← eK3, new_obj, if_pos rfl]
  rw [eK3] at u14
  obtain ⟨K4, e15, hD4, hF4⟩ := U15 (hD2.keeps k3) hs1
  have kx1 := hF1.1
  have kx2 := hF2.1
  have kx3 := k3.1
  have kx4 := hF4.1
  have n3 : K2.next < K3.next := by rw [← eK3, new_next]; omega
  -- what is old stays
  have old : ∀ i, i < H.next → K4.obj i = H.obj i := by
    intro i hi
    rw [hF4.2 i (by omega) (by simp; omega), k3.2 i (by omega), hF2.2 i (by omega) (by simp; omega), hF1.2 i (by omega) (by simp [AVal.ids]; omega), kN.2 i hi]
  have kA : Keeps H K4 := ⟨by omega, old⟩
  have e4 := he.keep hei kA
  have vn2 : ∀ i, i ∈ vw2.ids → H.next ≤ i := fun i hi => (hI1 i (hI2 i hi)).elim (fun h => by simp [AVal.ids] at h) (fun h => by omega)
  have z0 : (d2.w.length : Int) = 0 := by rw [← ed2]; rfl
  have zi : ((0 : Nat) : Int) = 0 := rfl
  simp only [outs_some, b2, b3, b4, b11, e13, u14, e15, le, rwA, rwB, Nat.reduceAdd, Nat.reduceMul, Nat.reduceLeDiff, Int.reduceEq, Int.reduceLT, Int.reduceLE, Int.reduceAdd, Int.reduceSub, Int.reduceMul, ↓reduceIte, Nat.reduceEqDiff, reduceCtorEq, ↓cnd_true, ↓cnd_false]
  repeat (first | refine outs_seq ?_ | refine outs_block ?_ | refine outs_step ?_ | refine outs_stepD ?_ | refine rets_end ?_ | refine ans_end ?_)
  refine outs_gen (fun env => env 2 = ev ∧ env 4 = kv ∧ env 11 = .ptr (H.next + 2) 0 ∧ env 15 = .slice K2.next 0 d2.s.length d2.s.length (some 1) ∧ env 16 = .int .i64 (d2.w.length : Int) ∧ env 81 = ev ∧ env 82 = .int .i64 (behind.length : Int) ∧ env 83 = .int .i64 0) ⟨by simp [Env.set, b2], by simp [Env.set, b4], by simp [Env.set, b11], by simp [Env.set], by rw [z0]; simp [Env.set], by simp [Env.set], by simp [Env.set], by simp [Env.set]⟩ ?_
  rintro env3 ⟨a2, a4, a11, a15, a16, a81, a82, a83⟩
  refine (loop31 (d := { d2 with arm := low step }) hD4 e4 (fun i hi => ⟨by have := hei i hi; omega, by have := hei i hi; omega, fun hx => by have := hei i hi; have := vn2 i hx; omega⟩) (by omega) (by show d2.w.length ≤ 100; omega) a11 a16 a81 a82 a83).mono ?_
  rintro e env4 K5 ⟨rfl, hE, b16, vw3, hD5, hF5, hI5⟩
  have b2 := (hE 2 (by decide) (by decide) (by decide)).trans a2
  have b4 := (hE 4 (by decide) (by decide) (by decide)).trans a4
  have b11 := (hE 11 (by decide) (by decide) (by decide)).trans a11
  have b15 := (hE 15 (by decide) (by decide) (by decide)).trans a15
  have l3 := wrs_len behind { d2 with arm := low step }
  obtain ⟨d3, ed3⟩ : ∃ d3, wrs { d2 with arm := low step } behind = d3 := ⟨_, rfl⟩
  rw [ed3] at hD5 b16 l3
  have l3' : d3.w.length ≤ 40 := by have : d2.w.length = 0 := by omega
                                    have l3 : d3.w.length ≤ d2.w.length + behind.length := l3
                                    omega
  have u16 := U16 hD5.look
  have kx5 := hF5.1
  have vn3 : ∀ i, i ∈ vw3.ids → H.next ≤ i := fun i hi => (hI5 i hi).elim (vn2 i) (fun h => by omega)
  have old5 : ∀ i, i < H.next → K5.obj i = H.obj i := by
    intro i hi
    rw [hF5.2 i (by omega) (by simp; exact ⟨by omega, fun hx => by have := vn2 i hx; omega⟩), old i hi]
  have kA5 : Keeps H K5 := ⟨by omega, old5⟩
  obtain ⟨K6, e17, hD6, hF6⟩ := U17 hD5 (by omega) (hk.keep hki kA5) (fun i hi => ⟨by have := hki i hi; omega, by have := hki i hi; omega, by have := hki i hi; omega⟩)
  obtain ⟨d4, ed4⟩ : ∃ d4, (d3.up keep).1 = d4 := ⟨_, rfl⟩
  rw [ed4] at hD6
  have u14b := U14 hD6.look hD6.n1 hD6.n2
  obtain ⟨K7, eK7⟩ : ∃ K7, K6.new (.cells (d4.s.map .str) true) = K7 := ⟨_, rfl⟩
  have k7 : Keeps K6 K7 := by rw [← eK7]; exact Keeps.new _ _
  have ow7 : K7.obj K6.next = some (.cells (d4.s.map .str) true) := by rw [← eK7, new_obj, if_pos rfl]
  rw [eK7] at u14b
  have kx6 := hF6.1
  have kx7 := k7.1
  have old7 : ∀ i, i < H.next → K7.obj i = H.obj i := by
    intro i hi
    rw [k7.2 i (by omega), hF6.2 i (by omega) (by simp; omega), old5 i hi]
  have kA7 : Keeps H K7 := ⟨by omega, old7⟩
  have pD6 := hD6.pn
  -- the list of what was safe
  have w7 : K7.obj K2.next = some (.cells (d2.s.map .str) true) := by
    have a1 := hD2.pn
    have a2 := hD2.an
    have hv3 : K2.next ∉ vw2.ids := fun hx => by have := hD2.ow.lt _ hx; omega
    rw [k7.2 _ (by omega), hF6.2 _ (by omega) (by simp; omega), hF5.2 _ (by omega) (by simp; exact ⟨by omega, hv3⟩), hF4.2 _ (by omega) (by simp; omega)]
    exact ow3
  have ln4 : d4.s.length = m := by
    have e : d4.s = puts d3.s (pk d3.w (fun i => keep.getD i false) d3.w.length) := by rw [← ed4]; rfl
    have e3 : d3.s = d2.s := by rw [← ed3, wrs_s]
    rw [e, puts_len, e3, ← ed2]
    show (puts d1.step.s _).length = m
    rw [puts_len, step_s, ← ed1, wrs_s]
    simp [fresh]
  have ln2 : d2.s.length = m := by
    rw [← ed2]
    show (puts d1.step.s _).length = m
    rw [puts_len, step_s, ← ed1, wrs_s]
    simp [fresh]
  have w4 : d4.w = [] := by rw [← ed4]; rfl
  have dd4 : d4.dead = false := by rw [← ed4]; rfl
  have cw : decide ((d3.w.length : Int) = (d3.w.length : Int)) = true := by simp
  simp only [outs_some, b2, b4, b11, b15, b16, u16, e17, u14b, cw, rwA, rwB, Nat.reduceAdd, Nat.reduceMul, Nat.reduceLeDiff, Int.reduceEq, Int.reduceLT, Int.reduceLE, Int.reduceAdd, Int.reduceSub, Int.reduceMul, ↓reduceIte, Nat.reduceEqDiff, reduceCtorEq, ↓cnd_true, ↓cnd_false]
  repeat (first | refine outs_seq ?_ | refine outs_block ?_ | refine outs_step ?_ | refine outs_stepD ?_ | refine rets_end ?_ | refine ans_end ?_)
  refine outs_gen (fun env => env 2 = ev ∧ env 4 = kv ∧ env 11 = .ptr (H.next + 2) 0 ∧ env 15 = .slice K2.next 0 d2.s.length d2.s.length (some 1) ∧ env 106 = .slice K6.next 0 d4.s.length d4.s.length (some 1) ∧ env 107 = .int .i64 (m : Int) ∧ env 108 = .int .i64 0) ⟨by simp [Env.set, b2], by simp [Env.set, b4], by simp [Env.set, b11], by simp [Env.set, b15], by simp [Env.set], by simp [Env.set, ln4], by simp [Env.set]⟩ ?_
  rintro env5 ⟨a2, a4, a11, a15, a106, a107, a108⟩
  have hD7 := hD6.keeps k7
  refine (loop32 (d2 := d2) (d4 := d4) (behind := behind) hD7.look (by rw [w4]; decide) ln4 ln2 (by omega) (he.keep hei kA7) (fun i hi => by have := hei i hi; omega) (by omega) (safe_sl ow7) (by simp [AVal.ids]; rw [← eK7, new_next]; omega) (safe_sl w7) (by simp [AVal.ids]; omega) (hk.keep hki kA7) (fun i hi => whole ed1.symm ed2.symm ed3.symm ed4.symm hi) a2 a4 a11 a15 a106 a107 a108).mono ?_
  rintro e env6 K8 ⟨rfl, b11, hK8⟩
  have u16' := U16 (hD7.look.keeps hK8)
  have u19 := U19 (hD7.look.keeps hK8)
  rw [w4] at u16'
  rw [dd4] at u19
  have zl : (([] : List (Nat × List UInt8)).length : Int) = 0 := rfl
  rw [zl] at u16'
  simp only [outs_some, b11, u16', u19, rwA, rwB, Nat.reduceAdd, Nat.reduceMul, Nat.reduceLeDiff, Int.reduceEq, Int.reduceLT, Int.reduceLE, Int.reduceAdd, Int.reduceSub, Int.reduceMul, ↓reduceIte, Nat.reduceEqDiff, reduceCtorEq, ↓cnd_true, ↓cnd_false]

theorem law3 (H : AHeap) (args : List AVal) (dats : List Dat) (h : AArgs Try.prog H [3, 22, 22, 3, 23] args dats) : ∃ k H', acall A k 3 args H = some (.bool true, H') := by
  obtain ⟨v0, r, d0, ds, rfl, rfl, h0, h⟩ := args_cons h
  obtain ⟨v1, r, d1, ds, rfl, rfl, h1, h⟩ := args_cons h
  obtain ⟨v2, r, d2, ds, rfl, rfl, h2, h⟩ := args_cons h
  obtain ⟨v3, r, d3, ds, rfl, rfl, h3, h⟩ := args_cons h
  obtain ⟨v4, r, d4, ds, rfl, rfl, h4, h⟩ := args_cons h
  obtain rfl := args_nil h
  obtain ⟨n, rfl, _⟩ := arg_int Try.underlying3 h0
  obtain ⟨before, hb, hbi, _⟩ := arg_acts h1
  obtain ⟨behind, he, hei, _⟩ := arg_acts h2
  obtain ⟨step, rfl, _, _, hs⟩ := arg_int Try.underlying3 h3
  obtain ⟨keep, hk, hki, _⟩ := arg_keep h4
  obtain ⟨H', hr⟩ := run3 (n := n) hs hb hbi he hei hk hki
  obtain ⟨k, hk⟩ := AC_iff.1 hr
  exact ⟨k, H', hk⟩

end Go.Proofs.Ytilhjcnkaelheaa.Dk
