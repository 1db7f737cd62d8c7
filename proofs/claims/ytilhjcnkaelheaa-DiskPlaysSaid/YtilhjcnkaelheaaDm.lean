/- The reference's disks: written, flushed, up again, made; two lists that are one. -/
import Derived.Test.YtilhjcnkaelheaaDl
set_option maxRecDepth 100000
set_option linter.unusedSimpArgs false
set_option linter.unusedVariables false
set_option maxHeartbeats 4000000
namespace Go.Proofs.Ytilhjcnkaelheaa.Dk
open Go Go.Proofs.Ytilhjcnkaelheaa.Am DnFns Go.RowKit
open Sd (Sec noughts home homeno ofHome ofNo opened unfit pad)

theorem U53 {H : AHeap} {vs vw : AVal} {d : DS} (h : R H vs vw d) (a0 : 0 ≤ d.arm) (a1 : d.arm ≤ 9223372036854775807) (hw : d.w.length < 1000000) (i : Int) (s : List UInt8) :
    ∃ H' vw', AC A 53 [.agg (rc vs vw d), .int .i64 i, .str s] H = some (.tuple [.agg (rc vs vw' (d.write i s).1), .int .i64 (d.write i s).2], H') ∧ R H' vs vw' (d.write i s).1 ∧ Keeps H H' ∧ ∀ j, j ∈ vw'.ids → j ∈ vw.ids ∨ H.next ≤ j := by
  obtain ⟨q, eq⟩ : ∃ q, H.next = q := ⟨_, rfl⟩
  obtain ⟨K, eK⟩ : ∃ K, (H.new (.cells (rc vs vw d) true)).new (.cells [.nils, .nils, .int .i64 0, .bool false, .int .i64 0] true) = K := ⟨_, rfl⟩
  have kK : Keeps H K := by rw [← eK]; exact Keeps.new' (Keeps.new' (Keeps.refl _))
  have nK : K.next = q + 2 := by rw [← eK]; simp [new_next, eq]
  have hK := h.keeps kK
  have o0 : K.obj q = some (.cells (rc vs vw d) true) := by rw [← eK]; simp only [new_obj, new_next, eq]; rw [if_neg (by omega), if_pos trivial]
  have o1 : K.obj (q + 1) = some (.cells [.nils, .nils, .int .i64 0, .bool false, .int .i64 0] true) := by rw [← eK]; simp only [new_obj, new_next, eq]; rw [if_pos trivial]
  have n1 : (q + 1 = q) = False := by simp
  have n2 : (q = q + 1) = False := by simp
  have hl := hK.slen
  have shp1 := sl_shape' h.ss
  have shp2 := sl_shape' h.sw
  unfold DS.write
  by_cases c : (0 ≤ i ∧ i < (d.s.length : Int)) ∧ s.length = 512
  · have c1 : decide (i < 0) = false := by simp; omega
    have c2 : decide ((d.s.length : Int) ≤ i) = false := by simp; omega
    have c3 : decide ((s.length : Int) = 512) = true := by simp; omega
    rw [if_pos c]
    have u := U68 hK a0 a1
    cases hg : d.goes
    · rw [hg] at u
      have kf : Keeps H ((K.set q (.cells (rc vs vw d.step) true)).set (q + 1) (.cells (rc vs vw d.step) true)) := Keeps.set' (by omega) (Keeps.set' (by omega) kK)
      refine ⟨(K.set q (.cells (rc vs vw d.step) true)).set (q + 1) (.cells (rc vs vw d.step) true), vw, ?_, (h.keeps kf).like (step_s d) (step_w d), kf, fun j hj => .inl hj⟩
      rw [s_fn (A := A) (f := 53) (x := DnFns.c53) rfl rfl rfl]
      unfold rc at eK o0 u ⊢
      rcases shp1 with rfl | ⟨_, _, _, _, _, rfl⟩ <;> rcases shp2 with rfl | ⟨_, _, _, _, _, rfl⟩ <;>
        simp only [c53, eq, eK, o0, o1, hl, c1, c2, c3, u, n1, n2, Bool.false_eq_true, rwA, rwB, Nat.reduceAdd, Nat.reduceMul, Nat.reduceLeDiff, Int.reduceEq, Int.reduceLT, Int.reduceLE, Int.reduceAdd, Int.reduceSub, Int.reduceMul, ↓reduceIte, Nat.reduceEqDiff, reduceCtorEq, ↓cnd_true, ↓cnd_false]
    · rw [hg] at u
      obtain ⟨K3, eK3⟩ : ∃ K3, (K.set q (.cells (rc vs vw d.step) true)).new (.cells [] true) = K3 := ⟨_, rfl⟩
      have k3 : Keeps H K3 := by rw [← eK3]; exact Keeps.new' (Keeps.set' (by omega) kK)
      have n3 : K3.next = q + 3 := by rw [← eK3, new_next, set_next, nK]
      have g0 : Gr K3 2 (.slice (q + 2) 0 0 0 none) [] := by
        have := Gr.empty (K.set q (.cells (rc vs vw d.step) true)) 2
        rw [eK3, set_next, nK] at this; exact this
      have hw3 := h.sw.keep h.wi k3
      have sl3 := slen_fm wc_len (by decide) hw3
      obtain ⟨v1, K4, e4, g4, i4, f4, s4⟩ := g0.add (by' := 24) (by decide) hw3 (by rw [sl3]; simp only [slen]; omega)
      obtain ⟨v2, K5, e5, g5, i5, f5, s5, a2, ea2⟩ := g4.push (by' := 24) (by decide) (x := [.int .i64 i, .str s]) rfl (by rw [s4, sl3]; simp only [slen]; omega)
      have x4 := f4.1
      have x5 := f5.1
      have j4 : ∀ j, j ∈ v1.ids → q + 2 ≤ j := fun j hj => (i4 j hj).elim (fun h => by simp [AVal.ids] at h; omega) (fun h => by omega)
      have p0 : K3.obj q = some (.cells (rc vs vw d.step) true) := by rw [← eK3, new_obj, if_neg (by rw [set_next, nK]; omega), set_obj, if_pos rfl]
      have p1 : K3.obj (q + 1) = some (.cells [.nils, .nils, .int .i64 0, .bool false, .int .i64 0] true) := by rw [← eK3, new_obj, if_neg (by rw [set_next, nK]; omega), set_obj, if_neg (by omega)]; exact o1
      have q0 : K4.obj q = some (.cells (rc vs vw d.step) true) := by rw [f4.2 q (by omega) (by simp [AVal.ids])]; exact p0
      have q1 : K4.obj (q + 1) = some (.cells [.nils, .nils, .int .i64 0, .bool false, .int .i64 0] true) := by rw [f4.2 _ (by omega) (by simp [AVal.ids])]; exact p1
      have r0 : K5.obj q = some (.cells (rc vs vw d.step) true) := by rw [f5.2 q (by omega) (fun hx => by have := j4 _ hx; omega)]; exact q0
      have r1 : K5.obj (q + 1) = some (.cells [.nils, .nils, .int .i64 0, .bool false, .int .i64 0] true) := by rw [f5.2 _ (by omega) (fun hx => by have := j4 _ hx; omega)]; exact q1
      have k5 : Keeps H K5 := ⟨by omega, fun j hj => by rw [f5.2 j (by omega) (fun hx => by have := j4 _ hx; omega), f4.2 j (by omega) (by simp [AVal.ids]; omega), k3.2 j hj]⟩
      obtain ⟨d', ed'⟩ : ∃ d' : DS, { d.step with w := d.w ++ [(i.toNat, s)] } = d' := ⟨_, rfl⟩
      have kf : Keeps H ((K5.set q (.cells (rc vs v2 d') true)).set (q + 1) (.cells (rc vs v2 d') true)) := Keeps.set' (by omega) (Keeps.set' (by omega) k5)
      have ew : d'.w.flatMap wc = [] ++ d.w.flatMap wc ++ [.int .i64 i, .str s] := by
        rw [← ed', List.flatMap_append]
        simp [wc, Int.toNat_of_nonneg c.1.1]
      refine ⟨(K5.set q (.cells (rc vs v2 d') true)).set (q + 1) (.cells (rc vs v2 d') true), v2, ?_, ?_, kf, fun j hj => .inr (by have := i5 j hj; omega)⟩
      · rw [s_fn (A := A) (f := 53) (x := DnFns.c53) rfl rfl rfl]
        have ed1 : d'.arm = d.step.arm := by rw [← ed']
        have ed2 : d'.dead = d.step.dead := by rw [← ed']
        have ed3 : d'.ops = d.step.ops := by rw [← ed']
        have oq := (oldne (show q < K4.next by omega))
        have oq1 := (oldne (show q + 1 < K4.next by omega))
        simp only [if_true, ed']
        unfold rc at eK o0 u eK3 p0 q0 r0 ⊢
        rw [ea2] at e5 ⊢
        rw [ed1, ed2, ed3]
        rcases shp1 with rfl | ⟨_, _, _, _, _, rfl⟩ <;> rcases shp2 with rfl | ⟨_, _, _, _, _, rfl⟩ <;>
          simp only [c53, eq, nK, eK, eK3, o0, o1, p0, p1, q0, q1, r0, r1, hl, c1, c2, c3, u, e4, e5, n1, n2, oq, oq1, AHeap.set_set, rwA, rwB, Nat.reduceAdd, Nat.reduceMul, Nat.reduceLeDiff, Int.reduceEq, Int.reduceLT, Int.reduceLE, Int.reduceAdd, Int.reduceSub, Int.reduceMul, ↓reduceIte, Nat.reduceEqDiff, reduceCtorEq, ↓cnd_true, ↓cnd_false]
      · simp only [if_true, ed']
        refine ⟨?_, ?_, fun j hj => Nat.lt_of_lt_of_le (h.si j hj) kf.1, ?_⟩
        · have e : d'.s = d.s := by rw [← ed']; exact step_s d
          rw [e]; exact h.ss.keep h.si kf
        · rw [ew, Sl_set (fun hx => by have := i5 _ hx; omega), Sl_set (fun hx => by have := i5 _ hx; omega)]
          exact g5.sl
        · intro j hj
          rw [set_next, set_next]
          exact g5.lt j hj
  · rw [if_neg c]
    have kf : Keeps H (K.set (q + 1) (.cells (rc vs vw d) true)) := Keeps.set' (by omega) kK
    refine ⟨K.set (q + 1) (.cells (rc vs vw d) true), vw, ?_, h.keeps kf, kf, fun j hj => .inl hj⟩
    rw [s_fn (A := A) (f := 53) (x := DnFns.c53) rfl rfl rfl]
    unfold rc at eK o0 ⊢
    rcases shp1 with rfl | ⟨_, _, _, _, _, rfl⟩ <;> rcases shp2 with rfl | ⟨_, _, _, _, _, rfl⟩
    all_goals
      cases c1 : decide (i < 0)
      · cases c2 : decide ((d.s.length : Int) ≤ i)
        · have c3 : decide ((s.length : Int) = 512) = false := by simp at c1 c2; simp; omega
          simp only [c53, eq, eK, o0, o1, hl, c1, c2, c3, n1, n2, rwA, rwB, Nat.reduceAdd, Nat.reduceMul, Nat.reduceLeDiff, Int.reduceEq, Int.reduceLT, Int.reduceLE, Int.reduceAdd, Int.reduceSub, Int.reduceMul, ↓reduceIte, Nat.reduceEqDiff, reduceCtorEq, ↓cnd_true, ↓cnd_false]
        · simp only [c53, eq, eK, o0, o1, hl, c1, c2, n1, n2, rwA, rwB, Nat.reduceAdd, Nat.reduceMul, Nat.reduceLeDiff, Int.reduceEq, Int.reduceLT, Int.reduceLE, Int.reduceAdd, Int.reduceSub, Int.reduceMul, ↓reduceIte, Nat.reduceEqDiff, reduceCtorEq, ↓cnd_true, ↓cnd_false]
      · simp only [c53, eq, eK, o0, o1, hl, c1, n1, n2, rwA, rwB, Nat.reduceAdd, Nat.reduceMul, Nat.reduceLeDiff, Int.reduceEq, Int.reduceLT, Int.reduceLE, Int.reduceAdd, Int.reduceSub, Int.reduceMul, ↓reduceIte, Nat.reduceEqDiff, reduceCtorEq, ↓cnd_true, ↓cnd_false]

theorem U54 {H : AHeap} {vs vw : AVal} {d : DS} (h : R H vs vw d) (a0 : 0 ≤ d.arm) (a1 : d.arm ≤ 9223372036854775807) (hw : d.w.length < 1000000) (n1 : 1 ≤ d.s.length) (n2 : d.s.length ≤ 4865) (hat : ∀ x, x ∈ d.w → x.1 < d.s.length) :
    ∃ H' vs' vw', AC A 54 [.agg (rc vs vw d)] H = some (.tuple [.agg (rc vs' vw' d.flush.1), .int .i64 d.flush.2], H') ∧ R H' vs' vw' d.flush.1 ∧ Keeps H H' ∧ (∀ j, j ∈ vs'.ids → j ∈ vs.ids ∨ H.next ≤ j) ∧ ∀ j, j ∈ vw'.ids → j ∈ vw.ids := by
  obtain ⟨q, eq⟩ : ∃ q, H.next = q := ⟨_, rfl⟩
  obtain ⟨K, eK⟩ : ∃ K, (H.new (.cells (rc vs vw d) true)).new (.cells [.nils, .nils, .int .i64 0, .bool false, .int .i64 0] true) = K := ⟨_, rfl⟩
  have kK : Keeps H K := by rw [← eK]; exact Keeps.new' (Keeps.new' (Keeps.refl _))
  have nK : K.next = q + 2 := by rw [← eK]; simp [new_next, eq]
  have hK := h.keeps kK
  have o0 : K.obj q = some (.cells (rc vs vw d) true) := by rw [← eK]; simp only [new_obj, new_next, eq]; rw [if_neg (by omega), if_pos trivial]
  have o1 : K.obj (q + 1) = some (.cells [.nils, .nils, .int .i64 0, .bool false, .int .i64 0] true) := by rw [← eK]; simp only [new_obj, new_next, eq]; rw [if_pos trivial]
  have m1 : (q + 1 = q) = False := by simp
  have m2 : (q = q + 1) = False := by simp
  have u := U68 hK a0 a1
  have shp1 := sl_shape' h.ss
  have shp2 := sl_shape' h.sw
  obtain ⟨K1, eK1⟩ : ∃ K1, K.set q (.cells (rc vs vw d.step) true) = K1 := ⟨_, rfl⟩
  have k1 : Keeps H K1 := by rw [← eK1]; exact Keeps.set' (by omega) kK
  have nK1 : K1.next = q + 2 := by rw [← eK1, set_next, nK]
  have p0 : K1.obj q = some (.cells (rc vs vw d.step) true) := by rw [← eK1, set_obj, if_pos rfl]
  have p1 : K1.obj (q + 1) = some (.cells [.nils, .nils, .int .i64 0, .bool false, .int .i64 0] true) := by rw [← eK1, set_obj, if_neg (by omega)]; exact o1
  have h1 := (h.keeps k1).like (e := d.step) (step_s d) (step_w d)
  unfold DS.flush
  cases hg : d.goes
  · rw [hg] at u
    have kf : Keeps H (K1.set (q + 1) (.cells (rc vs vw d.step) true)) := Keeps.set' (by omega) k1
    refine ⟨K1.set (q + 1) (.cells (rc vs vw d.step) true), vs, vw, ?_, (h.keeps kf).like (step_s d) (step_w d), kf, fun j hj => .inl hj, fun j hj => hj⟩
    rw [s_fn (A := A) (f := 54) (x := DnFns.c54) rfl rfl rfl]
    unfold rc at eK o0 u eK1 p0 ⊢
    rcases shp1 with rfl | ⟨_, _, _, _, _, rfl⟩ <;> rcases shp2 with rfl | ⟨_, _, _, _, _, rfl⟩ <;>
      simp only [c54, eq, eK, eK1, o0, o1, p0, p1, u, m1, m2, Bool.false_eq_true, rwA, rwB, Nat.reduceAdd, Nat.reduceMul, Nat.reduceLeDiff, Int.reduceEq, Int.reduceLT, Int.reduceLE, Int.reduceAdd, Int.reduceSub, Int.reduceMul, ↓reduceIte, Nat.reduceEqDiff, reduceCtorEq, ↓cnd_true, ↓cnd_false]
  · rw [hg] at u
    have ew : d.step.w.flatMap wc = d.w.flatMap wc := by rw [step_w]
    have hwl : Sl K1 2 vw (d.w.flatMap wc) := by rw [← ew]; exact h1.sw
    have u69 := U69 (l := d.w) h1 hwl h1.wi hw (by rw [step_s]; exact n1) (by rw [step_s]; exact n2) (by rw [step_s]; exact hat)
    have es : d.step.settle (fun _ => true) = { d.step with s := puts d.step.s d.w, w := [] } := by
      unfold DS.settle
      rw [step_w]
      have : ∀ j, j ≤ d.w.length → pk d.w (fun _ => true) j = d.w.take j := by
        intro j
        induction j with
        | zero => intro _; simp [pk]
        | succ j ih =>
          intro hj
          rw [pk, ih (by omega), List.getElem?_eq_getElem (by omega), List.take_add_one, List.getElem?_eq_getElem (by omega)]
          rfl
      rw [this _ (Nat.le_refl _), List.take_length]
    obtain ⟨K2, eK2⟩ : ∃ K2, K1.new (.cells ((puts d.step.s d.w).map .str) true) = K2 := ⟨_, rfl⟩
    have k2 : Keeps H K2 := by rw [← eK2]; exact Keeps.new' k1
    have os : K2.obj (q + 2) = some (.cells ((puts d.step.s d.w).map .str) true) := by rw [← eK2, new_obj, if_pos nK1.symm]
    have nK2 : K2.next = q + 3 := by rw [← eK2, new_next, nK1]
    have r1 : K2.obj (q + 1) = some (.cells [.nils, .nils, .int .i64 0, .bool false, .int .i64 0] true) := by rw [← eK2, new_obj, if_neg (by omega)]; exact p1
    rw [eK2, nK1] at u69
    have kf : Keeps H (K2.set (q + 1) (.cells (rc (.slice (q + 2) 0 d.step.s.length d.step.s.length (some 1)) .nils d.step) true)) := Keeps.set' (by omega) k2
    refine ⟨_, .slice (q + 2) 0 d.step.s.length d.step.s.length (some 1), .nils, ?_, ?_, kf, fun j hj => .inr (by simp [AVal.ids] at hj; omega), by simp [AVal.ids]⟩
    · rw [s_fn (A := A) (f := 54) (x := DnFns.c54) rfl rfl rfl]
      simp only [if_true, es]
      unfold rc at eK o0 u eK1 p0 u69 ⊢
      rcases shp1 with rfl | ⟨_, _, _, _, _, rfl⟩ <;> rcases shp2 with rfl | ⟨_, _, _, _, _, rfl⟩ <;>
        simp only [c54, eq, eK, eK1, o0, o1, p0, p1, r1, u, u69, m1, m2, rwA, rwB, Nat.reduceAdd, Nat.reduceMul, Nat.reduceLeDiff, Int.reduceEq, Int.reduceLT, Int.reduceLE, Int.reduceAdd, Int.reduceSub, Int.reduceMul, ↓reduceIte, Nat.reduceEqDiff, reduceCtorEq, ↓cnd_true, ↓cnd_false]
    · simp only [if_true, es]
      have eo : (K2.set (q + 1) (.cells (rc (.slice (q + 2) 0 d.step.s.length d.step.s.length (some 1)) .nils d.step) true)).obj (q + 2) = some (.cells ((puts d.step.s d.w).map .str) true) := by rw [set_obj, if_neg (by omega)]; exact os
      have sl := safe_sl (g := some 1) eo
      rw [puts_len] at sl
      exact ⟨sl, .inl ⟨rfl, rfl⟩, by simp [AVal.ids, set_next]; omega, by simp [AVal.ids]⟩

end Go.Proofs.Ytilhjcnkaelheaa.Dk
