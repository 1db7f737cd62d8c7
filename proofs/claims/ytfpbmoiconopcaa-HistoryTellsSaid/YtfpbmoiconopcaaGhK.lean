/- Histories: ours. -/
import Derived.Test.YtfpbmoiconopcaaGhJ
set_option maxRecDepth 100000
set_option linter.unusedSimpArgs false
set_option linter.unusedVariables false
set_option maxHeartbeats 2000000
namespace Go.Proofs.Ytfpbmoiconopcaa.Gh
open Go Go.Proofs.Ytfpbmoiconopcaa.Am GaFns Go.RowKit

theorem loop34 {K0 : AHeap} {p : Nat} {s : AVal} {ps : List (Int × Int)} {env : Env} (hs : Sl K0 2 s (PS ps)) (hid : ∀ i, i ∈ s.ids → i < K0.next) (hl : ps.length ≤ 8796093021952) (h : J34 K0 p s ps 0 env K0) :
    Outs (AX A (.loop b34) env K0) fun e env' K' => e = .exit 0 ∧ J34 K0 p s ps ps.length env' K' := by
  refine loop_ends (I := fun (j : Nat) env' K' => J34 K0 p s ps j env' K') (fun j => ps.length - j) ?_ 0 env K0 h
  intro j env' K' hJ
  by_cases hlt : j < ps.length
  · refine (round34 hs hid hl hJ hlt).mono ?_
    rintro e env2 K2 ⟨rfl, h2⟩
    exact .inl ⟨rfl, j + 1, by omega, h2⟩
  · have hj := hJ.1
    have : j = ps.length := by omega
    subst this
    obtain ⟨_, hk, h1, h2, h7, h8, h9, v, h3, hv, hvi⟩ := hJ
    have e1 : decide ((ps.length : Int) < (ps.length : Int)) = false := by simp
    simp only [b34, h8, h9, e1, rwA, rwB, Nat.reduceAdd, Nat.reduceMul, Nat.reduceLeDiff, Int.reduceEq, Int.reduceLT, Int.reduceLE, Int.reduceAdd, Int.reduceSub, Int.reduceMul, ↓reduceIte, Nat.reduceEqDiff, reduceCtorEq, ↓cnd_true, ↓cnd_false]
    rw [outs_some]
    exact .inr ⟨by simp, rfl, hj, hk, by simp [Env.set, h1], by simp [Env.set, h2], by simp [Env.set, h7], by simp [Env.set, h8], by simp [Env.set, h9], v, by simp [Env.set, h3], hv, hvi⟩

theorem body34 {H : AHeap} {r : Int} {s : AVal} {ps : List (Int × Int)} (hs : Sl H 2 s (PS ps)) (hid : ∀ i, i ∈ s.ids → i < H.next) (hl : ps.length ≤ 8796093021952) :
    Rets (endX GaFns.c34.results (AX A GaFns.c34.body (ainit [.agg [.int .i64 r, s]]) (frz H))) fun val K => ∃ v, val = .agg [.int .i64 r, v] ∧ Ow K 2 v (PS ps) ∧ ∀ i, i ∈ v.ids → H.next ≤ i := by
  have hsf := hs.frz
  have hn : (frz H).next = H.next := rfl
  obtain ⟨K, eK⟩ : ∃ K, ((frz H).new (.cells [.int .i64 r, s] true)).new (.cells [.int .i64 0, .nils] true) = K := ⟨_, rfl⟩
  have kK : Keeps (frz H) K := by rw [← eK]; exact (Keeps.new _ _).trans (Keeps.new _ _)
  have hsK := hsf.keep hid kK
  have nK : K.next = H.next + 2 := by rw [← eK]; simp [new_next, hn]
  have oK : K.obj H.next = some (.cells [.int .i64 r, s] true) := by rw [← eK]; simp [AHeap.new, hn]
  have oK2 : K.obj (H.next + 1) = some (.cells [.int .i64 0, .nils] true) := by rw [← eK]; simp [AHeap.new, hn]
  have hlen := PS_alen hsK
  simp only [c34, eK, nK, oK, oK2, hn, hlen, rwA, rwB, Nat.reduceAdd, Nat.reduceMul, Nat.reduceLeDiff, Int.reduceEq, Int.reduceLT, Int.reduceLE, Int.reduceAdd, Int.reduceSub, Int.reduceMul, ↓reduceIte, Nat.reduceEqDiff, reduceCtorEq, ↓cnd_true, ↓cnd_false]
  repeat (first | refine outs_seq ?_ | refine outs_block ?_ | refine outs_step ?_ | refine outs_stepD ?_ | refine rets_end ?_ | refine ans_end ?_)
  refine (loop34 (K0 := K) (p := H.next) (s := s) (ps := ps) hsK (fun i hi => by have := hid i hi; omega) hl ⟨Nat.zero_le _, Keeps.refl _, ?_, ?_, ?_, ?_, ?_, .nils, ?_, .inl ⟨rfl, rfl⟩, by simp [AVal.ids]⟩).mono ?_
  · simp [Env.set]
  · simp [Env.set]
  · simp [Env.set]
  · simp [Env.set]
  · simp [Env.set]
  · simp [Env.set]
  · rintro e env K' ⟨rfl, _, hk, h1, h2, _, _, _, v, h3, hv, hvi⟩
    have o1 : K'.obj H.next = some (.cells [.int .i64 r, s] true) := by rw [hk.2 _ (by omega)]; exact oK
    have o2 : K'.obj (H.next + 1) = some (.cells [.int .i64 0, .nils] true) := by rw [hk.2 _ (by omega)]; exact oK2
    rw [List.take_length] at hv
    have hO : ∀ cs, Ow (K'.set (H.next + 1) (.cells cs true)) 2 v (PS ps) := fun cs => (Ow_set (fun hx => by have := hvi _ hx; omega)).2 hv
    have hvi' : ∀ i, i ∈ v.ids → H.next ≤ i := fun i hi => by have := hvi i hi; omega
    rcases hv with ⟨rfl, hp⟩ | ⟨id, n, rfl, _⟩
    · simp only [outs_some, h1, h2, h3, o1, o2, rwA, rwB, Nat.reduceAdd, Nat.reduceMul, Nat.reduceLeDiff, Int.reduceEq, Int.reduceLT, Int.reduceLE, Int.reduceAdd, Int.reduceSub, Int.reduceMul, ↓reduceIte, Nat.reduceEqDiff, reduceCtorEq, ↓cnd_true, ↓cnd_false]
      rw [rets_some]
      exact ⟨_, rfl, hO _, hvi'⟩
    · simp only [outs_some, h1, h2, h3, o1, o2, rwA, rwB, Nat.reduceAdd, Nat.reduceMul, Nat.reduceLeDiff, Int.reduceEq, Int.reduceLT, Int.reduceLE, Int.reduceAdd, Int.reduceSub, Int.reduceMul, ↓reduceIte, Nat.reduceEqDiff, reduceCtorEq, ↓cnd_true, ↓cnd_false]
      rw [rets_some]
      exact ⟨_, rfl, hO _, hvi'⟩

/-- A copy of the points. -/
theorem U34 {H : AHeap} {s : AVal} {ps : List (Int × Int)} (hs : Sl H 2 s (PS ps)) (hid : ∀ i, i ∈ s.ids → i < H.next) (hl : ps.length ≤ 8796093021952) (r : Int) :
    ∃ v H', AC A 34 [.agg [.int .i64 r, s]] H = some (.agg [.int .i64 r, v], H') ∧ Keeps H H' ∧ Sl H' 2 v (PS ps) ∧ (∀ i, i ∈ v.ids → i < H'.next) ∧ (v = .nils ∨ ∃ id off n c g, v = .slice id off n c g) := by
  obtain ⟨val, K, hrun, v, rfl, hv, hvi⟩ := body34 (r := r) hs hid hl
  rcases hv with ⟨rfl, hp⟩ | ⟨id, n, rfl, h1, h2, h3, h4⟩
  · refine ⟨.nils, H, look_val (x := GaFns.c34) rfl rfl rfl rfl ⟨K, hrun⟩, Keeps.refl _, .inl ⟨rfl, hp⟩, by simp [AVal.ids], .inl rfl⟩
  · have hid' : H.next ≤ id := hvi id (by simp [AVal.ids])
    refine ⟨.slice H.next 0 n n (some 2), H.new (.cells (PS ps) true), look_new (x := GaFns.c34) rfl rfl rfl ⟨_, K, hrun, one_agg hid' h3 (PS_old _ _)⟩, Keeps.new _ _, ?_, ?_, .inr ⟨_, _, _, _, _, rfl⟩⟩
    · refine .inr ⟨_, _, _, _, _, rfl, h1, .inr ⟨PS ps, true, by simp [AHeap.new], by omega, by simp [← h1]⟩⟩
    · intro i hi
      simp [AVal.ids] at hi
      simp only [new_next]; omega

theorem cl44 : Try.prog.cellsOf 44 = 1 := by kernel_rfl
theorem cl46 : Try.prog.cellsOf 46 = 2 := by kernel_rfl
theorem cl48 : Try.prog.cellsOf 48 = 2 := by kernel_rfl
theorem by48 : Try.prog.bytesOf 48 = 16 := by kernel_rfl
theorem cl2 : Try.prog.cellsOf 2 = 1 := by kernel_rfl
theorem cl3 : Try.prog.cellsOf 3 = 1 := by kernel_rfl
theorem arg46 {H : AHeap} {v : AVal} {d : Dat} (h : AArg Try.prog H 46 v d) : ∃ (r : Int) (s : AVal) (ps : List (Int × Int)), v = .agg [.int .i64 r, s] ∧ Sl H 2 s (PS ps) ∧ (∀ i, i ∈ s.ids → i < H.next) ∧ ps.length ≤ 8796093021952 := by
  obtain ⟨f, cs, ds, rfl, hl, hd, hr⟩ := arg_struct Try.underlying46 h
  rw [cl46] at hl
  simp at hd
  match cs, hl, ds, hd with
  | [x, y], _, [d0, d1], _ =>
    have r0 : AReads Try.prog H f 3 ((([x, y] : List AVal).drop 0).take (Try.prog.cellsOf 3)) d0 := hr 0 _ d0 rfl rfl
    have r1 : AReads Try.prog H f 44 ((([x, y] : List AVal).drop 1).take (Try.prog.cellsOf 44)) d1 := hr 1 _ d1 rfl rfl
    rw [cl3] at r0
    rw [cl44] at r1
    obtain ⟨k, ek, _⟩ := arg_int (v := x) Try.underlying3 ⟨f, [x], r0, by rw [Try.underlying3]⟩
    subst ek
    obtain ⟨l, h1, h2, _, h3, _⟩ := arg_pairs Try.underlying44 Try.underlying48 Try.underlying2 Try.underlying2 rfl rfl cl2 cl2 cl48 (v := y) ⟨f, [y], r1, by rw [Try.underlying44]⟩
    rw [by48] at h3
    have e : reachBytes = 140737488351232 := rfl
    exact ⟨k, y, l, rfl, h1, h2, by omega⟩

end Go.Proofs.Ytfpbmoiconopcaa.Gh
