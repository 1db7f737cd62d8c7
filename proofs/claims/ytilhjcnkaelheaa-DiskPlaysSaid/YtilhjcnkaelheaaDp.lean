/- The reference's disks: up again, made; two lists that are one. -/
import Derived.Test.YtilhjcnkaelheaaDm
set_option maxRecDepth 100000
set_option linter.unusedSimpArgs false
set_option linter.unusedVariables false
set_option maxHeartbeats 4000000
namespace Go.Proofs.Ytilhjcnkaelheaa.Dk
open Go Go.Proofs.Ytilhjcnkaelheaa.Am DnFns Go.RowKit
open Sd (Sec noughts home homeno ofHome ofNo opened unfit pad)

def b55 : ACode := (.seq (.seq (.region [⟨(some 9), (.mv (.tmp 7)), none, none⟩, ⟨(some 10), (.fieldA 1 (.tmp 2)), none, none⟩, ⟨(some 11), (.load false 1 (.tmp 10)), none, none⟩, ⟨(some 12), (.len false (.tmp 11)), none, none⟩, ⟨(some 13), (.bin .lss (.tmp 9) (.tmp 12)), none, none⟩]) (.cond (.tmp 13) .skip (.exit 0))) (.seq (.block 1 (.seq (.region [⟨(some 16), (.mv (.tmp 7)), none, none⟩, ⟨(some 17), (.mv (.tmp 1)), none, none⟩, ⟨(some 18), (.len false (.tmp 17)), none, none⟩, ⟨(some 19), (.bin .lss (.tmp 16) (.tmp 18)), none, none⟩, ⟨(some 20), (.mv (.tmp 19)), none, none⟩, ⟨(some 21), (.mv (.tmp 1)), (some (20, true)), none⟩, ⟨(some 22), (.mv (.tmp 7)), (some (20, true)), none⟩, ⟨(some 23), (.idxASl 1 (.tmp 21) (.tmp 22)), (some (20, true)), none⟩, ⟨(some 24), (.load false 1 (.tmp 23)), (some (20, true)), none⟩, ⟨(some 25), (.pick (.tmp 20) (.tmp 24) (.con (.bool false))), none, none⟩]) (.cond (.tmp 25) (.region [⟨(some 26), (.mv (.tmp 6)), none, none⟩, ⟨(some 27), (.fieldA 1 (.tmp 2)), none, none⟩, ⟨(some 28), (.load false 1 (.tmp 27)), none, none⟩, ⟨(some 29), (.mv (.tmp 7)), none, none⟩, ⟨(some 30), (.idxASl 2 (.tmp 28) (.tmp 29)), none, none⟩, ⟨(some 31), (.load true 2 (.tmp 30)), none, none⟩, ⟨(some 32), (.buildS 1 [(.int .i64 0), (.str [])] [(0, (2, (.tmp 31)))]), none, none⟩, ⟨(some 33), (.append 2 24 (.tmp 26) (.tmp 32)), none, none⟩, ⟨(some 6), (.mv (.tmp 33)), none, none⟩]) .skip))) (.region [⟨(some 14), (.mv (.tmp 7)), none, none⟩, ⟨(some 15), (.bin .add (.tmp 14) (.con (.int .i64 1))), none, none⟩, ⟨(some 7), (.mv (.tmp 15)), none, none⟩])))
theorem loop55 {H : AHeap} {q : Nat} {vs vw kv : AVal} {d : DS} {keep : List Bool} (h : R H vs vw d) (hk : Sl H 1 kv (keep.map .bool)) (hki : ∀ i, i ∈ kv.ids → i < H.next) (hw : d.w.length < 1000000) (ho : H.obj q = some (.cells (rc vs vw d) true)) (hq : q < H.next) {lv : AVal} (hl : Gr H 2 lv []) {b0 : Nat} (hb : b0 ≤ H.next) (hlb : ∀ i, i ∈ lv.ids → b0 ≤ i) (hqb : q < b0) (hsb : ∀ i, i ∈ vs.ids ++ vw.ids ++ kv.ids → i < b0) {env : Env}
    (h1 : env 1 = kv) (h2 : env 2 = .ptr q 0) (h6 : env 6 = lv) (h7 : env 7 = .int .i64 0) :
    Outs (AX A (.loop b55) env H) fun e env' K => e = .exit 0 ∧ env' 2 = .ptr q 0 ∧ env' 4 = env 4 ∧ (∃ lv', env' 6 = lv' ∧ Gr K 2 lv' ((pk d.w (fun i => keep.getD i false) d.w.length).flatMap wc) ∧ (∀ i, i ∈ lv'.ids → b0 ≤ i)) ∧ H.next ≤ K.next ∧ ∀ i, i < b0 → K.obj i = H.obj i := by
  refine loop_ends (I := fun (j : Nat) env' K => j ≤ d.w.length ∧ env' 1 = kv ∧ env' 2 = .ptr q 0 ∧ env' 4 = env 4 ∧ (∃ lv', env' 6 = lv' ∧ Gr K 2 lv' ((pk d.w (fun i => keep.getD i false) j).flatMap wc) ∧ (∀ i, i ∈ lv'.ids → b0 ≤ i)) ∧ env' 7 = .int .i64 (j : Int) ∧ H.next ≤ K.next ∧ (∀ i, i < b0 → K.obj i = H.obj i) ∧ (pk d.w (fun i => keep.getD i false) j).length ≤ j) (fun j => d.w.length - j) ?_ 0 env H
    ⟨Nat.zero_le _, h1, h2, rfl, ⟨lv, h6, hl, hlb⟩, h7, Nat.le_refl _, fun _ _ => rfl, Nat.le_refl _⟩
  rintro j env1 K ⟨hj, h1, h2, h4, ⟨lv', h6, hg, hgb⟩, h7, hn, hK, hpl⟩
  have oK : K.obj q = some (.cells (rc vs vw d) true) := by rw [hK q hqb]; exact ho
  have swK : Sl K 2 vw (d.w.flatMap wc) := h.sw.keeps fun i hi => hK i (hsb i (by simp [hi]))
  have hkK : Sl K 1 kv (keep.map .bool) := hk.keeps fun i hi => hK i (hsb i (by simp [hi]))
  have wl := swK.alen
  rw [slen_fm wc_len (by decide) swK] at wl
  have kl := hkK.alen
  rw [slen1 hkK] at kl
  unfold rc at oK
  by_cases c : j < d.w.length
  · have c1 : decide ((j : Int) < (d.w.length : Int)) = true := by simp; omega
    have w1 : IntKind.i64.wrap ((j : Int) + 1) = ((j + 1 : Nat) : Int) := by rw [wrap_i64]; omega
    obtain ⟨id, off, cp, g, k, own, rfl, hi, hk2, hall, _⟩ := swK.elem wc_len (by decide) c
    have ha : aidx d.w.length (.int .i64 (j : Int)) = some j := by simp [aidx]; omega
    have ld : apart true (off + j * 2) 2 k = some (.agg [.int .i64 ((d.w[j].1 : Nat) : Int), .str d.w[j].2]) := by rw [apart_agg _ _ _ (elem_room (es := 2) c hk2), hall]; rfl
    obtain ⟨x, ex⟩ : ∃ x, d.w[j] = x := ⟨_, rfl⟩
    rw [ex] at ld
    have hpk : pk d.w (fun i => keep.getD i false) (j + 1) = pk d.w (fun i => keep.getD i false) j ++ (if keep.getD j false then [x] else []) := by
      simp only [pk]; rw [List.getElem?_eq_getElem c, ex]
    have sl : slen lv' = (pk d.w (fun i => keep.getD i false) j).length := slen_fm wc_len (by decide) hg.sl
    by_cases cj : j < keep.length
    · have c2 : decide ((j : Int) < (keep.length : Int)) = true := by simp; omega
      have ha2 : aidx keep.length (.int .i64 (j : Int)) = some j := by simp [aidx]; omega
      obtain ⟨id', off', cp', g', k', own', rfl, hi', _, hc'⟩ := hkK.elem1 cj
      have ek : keep.getD j false = keep[j] := by simp [cj]
      cases hb : keep[j] <;> rw [hb] at hc' ek <;> rw [ek] at hpk
      · simp only [b55, h1, h2, h6, h7, oK, wl, kl, c1, c2, ha2, hi', hc', w1, rwA, rwB, Nat.reduceAdd, Nat.reduceMul, Nat.reduceLeDiff, Int.reduceEq, Int.reduceLT, Int.reduceLE, Int.reduceAdd, Int.reduceSub, Int.reduceMul, ↓reduceIte, Nat.reduceEqDiff, reduceCtorEq, ↓cnd_true, ↓cnd_false]
        rw [outs_some]
        exact .inl ⟨rfl, j + 1, by omega, by omega, by simp [Env.set, h1], by simp [Env.set, h2], by simp [Env.set, h4], ⟨lv', by simp [Env.set, h6], by rw [hpk]; simpa using hg, hgb⟩, by simp [Env.set], hn, hK, by rw [hpk, List.length_append]; simp only [Bool.false_eq_true, if_false, if_true, List.length_nil, List.length_cons]; omega⟩
      · obtain ⟨v2, K2, e2, g2, i2, f2, s2, a2, ea2⟩ := hg.push (by' := 24) (by decide) (x := [.int .i64 (x.1 : Int), .str x.2]) rfl (by rw [sl]; omega)
        have := f2.1
        have e2' := e2
        rw [ea2] at e2
        simp only [b55, h1, h2, h6, h7, oK, wl, kl, c1, c2, ha, ha2, hi, hi', hc', ld, e2, w1, rwA, rwB, Nat.reduceAdd, Nat.reduceMul, Nat.reduceLeDiff, Int.reduceEq, Int.reduceLT, Int.reduceLE, Int.reduceAdd, Int.reduceSub, Int.reduceMul, ↓reduceIte, Nat.reduceEqDiff, reduceCtorEq, ↓cnd_true, ↓cnd_false]
        rw [outs_some]
        refine .inl ⟨rfl, j + 1, by omega, by omega, by simp [Env.set, h1], by simp [Env.set, h2], by simp [Env.set, h4], ⟨v2, by rw [ea2]; simp [Env.set], ?_, fun i hi => by have := i2 i hi; omega⟩, by simp [Env.set], by omega, fun i hi => ?_, by rw [hpk, List.length_append]; simp only [Bool.false_eq_true, if_false, if_true, List.length_nil, List.length_cons]; omega⟩
        · rw [hpk, List.flatMap_append]
          have : (if true = true then [x] else []).flatMap wc = [.int .i64 (x.1 : Int), .str x.2] := by simp [wc]
          rw [this]; exact g2
        · rw [f2.2 i (by omega) (fun hx => by have := hgb i hx; omega)]; exact hK i hi
    · have c2 : decide ((j : Int) < (keep.length : Int)) = false := by simp; omega
      have ek : keep.getD j false = false := by simp [List.getElem?_eq_none (show keep.length ≤ j by omega)]
      rw [ek] at hpk
      simp only [b55, h1, h2, h6, h7, oK, wl, kl, c1, c2, w1, rwA, rwB, Nat.reduceAdd, Nat.reduceMul, Nat.reduceLeDiff, Int.reduceEq, Int.reduceLT, Int.reduceLE, Int.reduceAdd, Int.reduceSub, Int.reduceMul, ↓reduceIte, Nat.reduceEqDiff, reduceCtorEq, ↓cnd_true, ↓cnd_false]
      rw [outs_some]
      exact .inl ⟨rfl, j + 1, by omega, by omega, by simp [Env.set, h1], by simp [Env.set, h2], by simp [Env.set, h4], ⟨lv', by simp [Env.set, h6], by rw [hpk]; simpa using hg, hgb⟩, by simp [Env.set], hn, hK, by rw [hpk, List.length_append]; simp only [Bool.false_eq_true, if_false, if_true, List.length_nil, List.length_cons]; omega⟩
  · have e : j = d.w.length := by omega
    subst e
    have c1 : decide ((d.w.length : Int) < (d.w.length : Int)) = false := by simp
    simp only [b55, h2, h7, oK, wl, c1, rwA, rwB, Nat.reduceAdd, Nat.reduceMul, Nat.reduceLeDiff, Int.reduceEq, Int.reduceLT, Int.reduceLE, Int.reduceAdd, Int.reduceSub, Int.reduceMul, ↓reduceIte, Nat.reduceEqDiff, reduceCtorEq, ↓cnd_true, ↓cnd_false]
    rw [outs_some]
    exact .inr ⟨by simp, rfl, by simp [Env.set, h2], by simp [Env.set, h4], ⟨lv', by simp [Env.set, h6], hg, hgb⟩, hn, hK⟩

theorem pk_le (w : List (Nat × List UInt8)) (P : Nat → Bool) : ∀ j, (pk w P j).length ≤ j
  | 0 => Nat.le_refl _
  | j + 1 => by
    have := pk_le w P j
    simp only [pk, List.length_append]
    split
    · split <;> simp <;> omega
    · simp; omega

theorem U55 {H : AHeap} {vs vw kv : AVal} {d : DS} {keep : List Bool} (h : R H vs vw d) (hk : Sl H 1 kv (keep.map .bool)) (hki : ∀ i, i ∈ kv.ids → i < H.next) (hw : d.w.length < 1000000) (n1 : 1 ≤ d.s.length) (n2 : d.s.length ≤ 4865) (hat : ∀ x, x ∈ d.w → x.1 < d.s.length) :
    ∃ H' vs', AC A 55 [.agg (rc vs vw d), kv] H = some (.tuple [.agg (rc vs' .nils (d.up keep).1), .int .i64 ((d.up keep).2 : Int)], H') ∧ R H' vs' .nils (d.up keep).1 ∧ Keeps H H' ∧ (∀ j, j ∈ vs'.ids → H.next ≤ j) := by
  have key : Rets (AC A 55 [.agg (rc vs vw d), kv] H) fun v H' => ∃ vs', v = .tuple [.agg (rc vs' .nils (d.up keep).1), .int .i64 ((d.up keep).2 : Int)] ∧ R H' vs' .nils (d.up keep).1 ∧ Keeps H H' ∧ (∀ j, j ∈ vs'.ids → H.next ≤ j) := by
    rw [s_fn (A := A) (f := 55) (x := DnFns.c55) rfl rfl rfl]
    obtain ⟨q, eq⟩ : ∃ q, H.next = q := ⟨_, rfl⟩
    obtain ⟨K, eK⟩ : ∃ K, ((H.new (.cells (rc vs vw d) true)).new (.cells [.nils, .nils, .int .i64 0, .bool false, .int .i64 0] true)).new (.cells [] true) = K := ⟨_, rfl⟩
    have kK : Keeps H K := by rw [← eK]; exact Keeps.new' (Keeps.new' (Keeps.new' (Keeps.refl _)))
    have nK : K.next = q + 3 := by rw [← eK]; simp [new_next, eq]
    have hK := h.keeps kK
    have o0 : K.obj q = some (.cells (rc vs vw d) true) := by rw [← eK]; simp only [new_obj, new_next, eq]; rw [if_neg (by omega), if_neg (by omega), if_pos trivial]
    have o1 : K.obj (q + 1) = some (.cells [.nils, .nils, .int .i64 0, .bool false, .int .i64 0] true) := by rw [← eK]; simp only [new_obj, new_next, eq]; rw [if_neg (by omega), if_pos trivial]
    have g0 : Gr K 2 (.slice (q + 2) 0 0 0 none) [] := by
      have := Gr.empty ((H.new (.cells (rc vs vw d) true)).new (.cells [.nils, .nils, .int .i64 0, .bool false, .int .i64 0] true)) 2
      rw [eK, new_next, new_next, eq] at this; exact this
    have m1 : (q + 1 = q) = False := by simp
    have m2 : (q = q + 1) = False := by simp
    have shp1 := sl_shape' h.ss
    have shp2 := sl_shape' h.sw
    have hsb : ∀ i, i ∈ vs.ids ++ vw.ids ++ kv.ids → i < q + 2 := by
      intro i hi
      simp only [List.mem_append] at hi
      rcases hi with (hi | hi) | hi
      · have := h.si i hi; omega
      · have := h.wi i hi; omega
      · have := hki i hi; omega
    have L := fun env h1 h2 h6 h7 => loop55 (env := env) hK (hk.keep hki kK) (fun i hi => by have := hki i hi; omega) hw o0 (by omega) g0 (b0 := q + 2) (by omega) (by simp [AVal.ids]) (by omega) hsb h1 h2 h6 h7
    unfold rc at eK
    rcases shp1 with rfl | ⟨_, _, _, _, _, rfl⟩ <;> rcases shp2 with rfl | ⟨_, _, _, _, _, rfl⟩
    all_goals
      simp only [c55, rc, eq, eK, rwA, rwB, Nat.reduceAdd, Nat.reduceMul, Nat.reduceLeDiff, Int.reduceEq, Int.reduceLT, Int.reduceLE, Int.reduceAdd, Int.reduceSub, Int.reduceMul, ↓reduceIte, Nat.reduceEqDiff, reduceCtorEq, ↓cnd_true, ↓cnd_false]
      repeat (first | refine outs_seq ?_ | refine outs_block ?_ | refine outs_step ?_ | refine outs_stepD ?_ | refine rets_end ?_ | refine ans_end ?_)
      refine (L _ (by simp [Env.set, ainit]) (by simp [Env.set]) (by simp [Env.set]) (by simp [Env.set])).mono ?_
      rintro e env K1 ⟨rfl, h2, h4, ⟨lv, h6, hg, hgb⟩, hn, hK1⟩
      have h4 : env 4 = .ptr (q + 1) 0 := by rw [h4]; simp [Env.set]
      have k1 : Keeps H K1 := ⟨by omega, fun i hi => by rw [hK1 i (by omega)]; exact kK.2 i hi⟩
      have h1 := h.keeps k1
      have p0 := (hK1 q (by omega)).trans o0
      have p1 := (hK1 (q + 1) (by omega)).trans o1
      have pl := pk_le d.w (fun i => keep.getD i false) d.w.length
      have u69 := U69 (l := pk d.w (fun i => keep.getD i false) d.w.length) h1 hg.sl hg.lt (by omega) n1 n2 (fun x hx => hat x (pk_mem hx))
      obtain ⟨K2, eK2⟩ : ∃ K2, K1.new (.cells ((puts d.s (pk d.w (fun i => keep.getD i false) d.w.length)).map .str) true) = K2 := ⟨_, rfl⟩
      have k2 : Keeps K1 K2 := by rw [← eK2]; exact Keeps.new _ _
      have nK2 : K2.next = K1.next + 1 := by rw [← eK2, new_next]
      have os : K2.obj K1.next = some (.cells ((puts d.s (pk d.w (fun i => keep.getD i false) d.w.length)).map .str) true) := by rw [← eK2, new_obj, if_pos rfl]
      rw [eK2] at u69
      have r0 := (k2.2 q (by omega)).trans p0
      have r1 := (k2.2 (q + 1) (by omega)).trans p1
      have ll := hg.sl.alen
      rw [slen_fm wc_len (by decide) hg.sl] at ll
      unfold rc at u69 p0 r0
      simp only [outs_some, h2, h4, h6, p0, p1, r0, r1, u69, ll, m1, m2, AHeap.set_set, rwA, rwB, Nat.reduceAdd, Nat.reduceMul, Nat.reduceLeDiff, Int.reduceEq, Int.reduceLT, Int.reduceLE, Int.reduceAdd, Int.reduceSub, Int.reduceMul, ↓reduceIte, Nat.reduceEqDiff, reduceCtorEq, ↓cnd_true, ↓cnd_false]
      rw [rets_some]
      refine ⟨_, rfl, ?_, ?_, ?_⟩
      · have eo : ((K2.set q (.cells [.slice K1.next 0 d.s.length d.s.length (some 1), .nils, .int .i64 0, .bool false, .int .i64 d.ops] true)).set (q + 1) (.cells [.slice K1.next 0 d.s.length d.s.length (some 1), .nils, .int .i64 0, .bool false, .int .i64 d.ops] true)).obj K1.next = some (.cells ((puts d.s (pk d.w (fun i => keep.getD i false) d.w.length)).map .str) true) := by rw [set_obj, if_neg (by omega), set_obj, if_neg (by omega)]; exact os
        have sl := safe_sl (g := some 1) eo
        rw [puts_len] at sl
        exact ⟨sl, .inl ⟨rfl, rfl⟩, by simp [AVal.ids, set_next, nK2], by simp [AVal.ids]⟩
      · exact Keeps.set' (by omega) (Keeps.set' (by omega) (k1.trans k2))
      · simp [AVal.ids]; omega
  obtain ⟨v, H', e, vs', rfl, h1, h2, h3⟩ := key
  exact ⟨H', vs', e, h1, h2, h3⟩

/-! ### Made -/
def b20 : ACode := (.seq (.seq (.region [⟨(some 18), (.mv (.tmp 6)), none, none⟩, ⟨(some 19), (.mv (.tmp 0)), none, none⟩, ⟨(some 20), (.bin .lss (.tmp 18) (.tmp 19)), none, none⟩]) (.cond (.tmp 20) .skip (.exit 0))) (.seq (.block 1 (.region [⟨(some 23), (.fieldA 0 (.tmp 4)), none, none⟩, ⟨(some 24), (.load false 1 (.tmp 23)), none, none⟩, ⟨(some 25), (.mv (.tmp 6)), none, none⟩, ⟨(some 26), (.mv (.tmp 5)), none, none⟩, ⟨(some 27), (.idxASl 1 (.tmp 24) (.tmp 25)), none, none⟩, ⟨none, (.store 1 (.tmp 27) (.tmp 26)), none, none⟩])) (.region [⟨(some 21), (.mv (.tmp 6)), none, none⟩, ⟨(some 22), (.bin .add (.tmp 21) (.con (.int .i64 1))), none, none⟩, ⟨(some 6), (.mv (.tmp 22)), none, none⟩])))
theorem loop20 {H : AHeap} {b q : Nat} {N : Nat} {x : List UInt8} (hN : N < 1000000) (hb : H.obj b = some (.cells (upx N x 0) true)) (ho : H.obj q = some (.cells [.slice b 0 N N none, .nils, .int .i64 0, .bool false, .int .i64 0] true)) (hbq : b ≠ q) {env : Env}
    (h0 : env 0 = .int .i64 (N : Int)) (h4 : env 4 = .ptr q 0) (h5 : env 5 = .str x) (h6 : env 6 = .int .i64 0) :
    Outs (AX A (.loop b20) env H) fun e env' K => e = .exit 0 ∧ env' 2 = env 2 ∧ env' 4 = .ptr q 0 ∧ Fr [b] H K ∧ K.obj b = some (.cells (upx N x N) true) := by
  refine loop_ends (I := fun (j : Nat) env' K => j ≤ N ∧ env' 0 = .int .i64 (N : Int) ∧ env' 2 = env 2 ∧ env' 4 = .ptr q 0 ∧ env' 5 = .str x ∧ env' 6 = .int .i64 (j : Int) ∧ Fr [b] H K ∧ K.obj b = some (.cells (upx N x j) true) ∧ K.obj q = some (.cells [.slice b 0 N N none, .nils, .int .i64 0, .bool false, .int .i64 0] true)) (fun j => N - j) ?_ 0 env H ⟨Nat.zero_le _, h0, rfl, h4, h5, h6, Fr.refl _ _, hb, ho⟩
  rintro j env1 K ⟨hj, h0, h2, h4, h5, h6, hF, hb, ho⟩
  by_cases c : j < N
  · have c1 : decide ((j : Int) < (N : Int)) = true := by simp; omega
    have w1 : IntKind.i64.wrap ((j : Int) + 1) = ((j + 1 : Nat) : Int) := by rw [wrap_i64]; omega
    have ha : aidx N (.int .i64 (j : Int)) = some j := by simp [aidx]; omega
    have st := store_one K b j (.str x) (upx N x j) (by rw [upx_len hj]; exact c)
    rw [upx_set c] at st
    simp only [b20, h0, h4, h5, h6, ho, hb, c1, ha, st, w1, rwA, rwB, Nat.reduceAdd, Nat.reduceMul, Nat.reduceLeDiff, Int.reduceEq, Int.reduceLT, Int.reduceLE, Int.reduceAdd, Int.reduceSub, Int.reduceMul, ↓reduceIte, Nat.reduceEqDiff, reduceCtorEq, ↓cnd_true, ↓cnd_false]
    rw [outs_some]
    exact .inl ⟨rfl, j + 1, by omega, by omega, by simp [Env.set, h0], by simp [Env.set, h2], by simp [Env.set, h4], by simp [Env.set, h5], by simp [Env.set], Fr.set (.inl (by simp)) hF, by rw [set_obj, if_pos rfl], by rw [set_obj, if_neg (Ne.symm hbq)]; exact ho⟩
  · have e : j = N := by omega
    subst e
    have c1 : decide ((j : Int) < (j : Int)) = false := by simp
    simp only [b20, h0, h6, c1, rwA, rwB, Nat.reduceAdd, Nat.reduceMul, Nat.reduceLeDiff, Int.reduceEq, Int.reduceLT, Int.reduceLE, Int.reduceAdd, Int.reduceSub, Int.reduceMul, ↓reduceIte, Nat.reduceEqDiff, reduceCtorEq, ↓cnd_true, ↓cnd_false]
    rw [outs_some]
    exact .inr ⟨by simp, rfl, by simp [Env.set, h2], by simp [Env.set, h4], hF, hb⟩

theorem U20x {n : Int} (h : ¬ (1 ≤ n ∧ n ≤ 4865)) (H : AHeap) : ∃ H', AC A 20 [.int .i64 n] H = some (.tuple [.agg [.nils, .nils, .int .i64 0, .bool false, .int .i64 0], .bool false], H') ∧ Keeps H H' := by
  refine ⟨(H.new (.cells [.nils, .nils, .int .i64 0, .bool false, .int .i64 0] true)).set H.next (.cells [.nils, .nils, .int .i64 0, .bool false, .int .i64 0] true), ?_, Keeps.set' (Nat.le_refl _) (Keeps.new' (Keeps.refl _))⟩
  rw [s_fn (A := A) (f := 20) (x := DnFns.c20) rfl rfl rfl]
  cases c : decide (n < 1)
  · have c2 : decide (4865 < n) = true := by simp at c; simp; omega
    simp only [c20, c, c2, rwA, rwB, Nat.reduceAdd, Nat.reduceMul, Nat.reduceLeDiff, Int.reduceEq, Int.reduceLT, Int.reduceLE, Int.reduceAdd, Int.reduceSub, Int.reduceMul, ↓reduceIte, Nat.reduceEqDiff, reduceCtorEq, ↓cnd_true, ↓cnd_false]
  · simp only [c20, c, rwA, rwB, Nat.reduceAdd, Nat.reduceMul, Nat.reduceLeDiff, Int.reduceEq, Int.reduceLT, Int.reduceLE, Int.reduceAdd, Int.reduceSub, Int.reduceMul, ↓reduceIte, Nat.reduceEqDiff, reduceCtorEq, ↓cnd_true, ↓cnd_false]

theorem U20 {n : Nat} (h1 : 1 ≤ n) (h2 : n ≤ 4865) (H : AHeap) : ∃ H' vs, AC A 20 [.int .i64 (n : Int)] H = some (.tuple [.agg (rc vs .nils (fresh n)), .bool true], H') ∧ R H' vs .nils (fresh n) ∧ Keeps H H' ∧ (∀ j, j ∈ vs.ids → H.next ≤ j) := by
  have key : Rets (AC A 20 [.int .i64 (n : Int)] H) fun v H' => ∃ vs, v = .tuple [.agg (rc vs .nils (fresh n)), .bool true] ∧ R H' vs .nils (fresh n) ∧ Keeps H H' ∧ (∀ j, j ∈ vs.ids → H.next ≤ j) := by
    rw [s_fn (A := A) (f := 20) (x := DnFns.c20) rfl rfl rfl]
    obtain ⟨q, eq⟩ : ∃ q, H.next = q := ⟨_, rfl⟩
    have c : decide ((n : Int) < 1) = false := by simp; omega
    have c2 : decide (4865 < (n : Int)) = false := by simp; omega
    have mk : ∀ M : AHeap, amkS M 1 16 [.str []] (.int .i64 (n : Int)) (.int .i64 (n : Int)) = some (.slice M.next 0 n n none, M.new (.cells (upx n (noughts 512) 0) true)) := by
      intro M
      simp only [amkS]
      rw [if_pos ⟨by omega, by omega, by omega, by omega, rfl⟩, Int.toNat_natCast, arep_str]
      rfl
    obtain ⟨K, eK⟩ : ∃ K, (((H.new (.cells [.nils, .nils, .int .i64 0, .bool false, .int .i64 0] true)).new (.cells (upx n (noughts 512) 0) true)).new (.cells [.nils, .nils, .int .i64 0, .bool false, .int .i64 0] true)).set (q + 2) (.cells [.slice (q + 1) 0 n n none, .nils, .int .i64 0, .bool false, .int .i64 0] true) = K := ⟨_, rfl⟩
    have kK : Keeps H K := by rw [← eK]; exact Keeps.set' (by omega) (Keeps.new' (Keeps.new' (Keeps.new' (Keeps.refl _))))
    have nK : K.next = q + 3 := by rw [← eK]; simp [new_next, set_next, eq]
    have o0 : K.obj q = some (.cells [.nils, .nils, .int .i64 0, .bool false, .int .i64 0] true) := by rw [← eK]; simp only [set_obj, new_obj, new_next, eq]; rw [if_neg (by omega), if_neg (by omega), if_neg (by omega), if_pos trivial]
    have o1 : K.obj (q + 1) = some (.cells (upx n (noughts 512) 0) true) := by rw [← eK]; simp only [set_obj, new_obj, new_next, eq]; rw [if_neg (by omega), if_neg (by omega), if_pos trivial]
    have o2 : K.obj (q + 2) = some (.cells [.slice (q + 1) 0 n n none, .nils, .int .i64 0, .bool false, .int .i64 0] true) := by rw [← eK]; simp only [set_obj]; rw [if_pos trivial]
    simp only [c20, c, c2, eq, mk, U52a, eK, rwA, rwB, Nat.reduceAdd, Nat.reduceMul, Nat.reduceLeDiff, Int.reduceEq, Int.reduceLT, Int.reduceLE, Int.reduceAdd, Int.reduceSub, Int.reduceMul, ↓reduceIte, Nat.reduceEqDiff, reduceCtorEq, ↓cnd_true, ↓cnd_false]
    repeat (first | refine outs_seq ?_ | refine outs_block ?_ | refine outs_step ?_ | refine outs_stepD ?_ | refine rets_end ?_ | refine ans_end ?_)
    refine (loop20 (x := noughts 512) (by omega) o1 o2 (by omega) ?_ ?_ ?_ ?_).mono ?_
    · simp [Env.set, ainit]
    · simp [Env.set]
    · simp [Env.set]
    · simp [Env.set]
    rintro e env K1 ⟨rfl, g2, g4, hF, hb⟩
    have g2 : env 2 = .ptr q 0 := by rw [g2]; simp [Env.set]
    have p0 := (hF.2 q (by omega) (by simp)).trans o0
    have p2 := (hF.2 (q + 2) (by omega) (by simp)).trans o2
    have k1 : Keeps H K1 := ⟨by have := hF.1; omega, fun i hi => by rw [hF.2 i (by omega) (by simp; omega)]; exact kK.2 i hi⟩
    simp only [outs_some, g2, g4, p0, p2, rwA, rwB, Nat.reduceAdd, Nat.reduceMul, Nat.reduceLeDiff, Int.reduceEq, Int.reduceLT, Int.reduceLE, Int.reduceAdd, Int.reduceSub, Int.reduceMul, ↓reduceIte, Nat.reduceEqDiff, reduceCtorEq, ↓cnd_true, ↓cnd_false]
    rw [rets_some]
    have hn1 := hF.1
    refine ⟨.slice (q + 1) 0 n n none, rfl, ⟨?_, .inl ⟨rfl, rfl⟩, by simp [AVal.ids, set_next]; omega, by simp [AVal.ids]⟩, Keeps.set' (by omega) k1, by simp [AVal.ids]⟩
    have eo : (K1.set q (.cells [.slice (q + 1) 0 n n none, .nils, .int .i64 0, .bool false, .int .i64 0] true)).obj (q + 1) = some (.cells ((List.replicate n (noughts 512)).map .str) true) := by rw [set_obj, if_neg (by omega), hb, upx_all]
    have sl := safe_sl (g := none) eo
    rw [List.length_replicate] at sl
    exact sl
  obtain ⟨v, H', e, vs', rfl, h1, h2, h3⟩ := key
  exact ⟨H', vs', e, h1, h2, h3⟩

/-! ### Two lists that are one -/
def b24 : ACode := (.seq (.seq (.region [⟨(some 11), (.mv (.tmp 5)), none, none⟩, ⟨(some 12), (.mv (.tmp 0)), none, none⟩, ⟨(some 13), (.len false (.tmp 12)), none, none⟩, ⟨(some 14), (.bin .lss (.tmp 11) (.tmp 13)), none, none⟩]) (.cond (.tmp 14) .skip (.exit 0))) (.seq (.block 1 (.seq (.draw [⟨(some 17), (.mv (.tmp 0)), none, none⟩, ⟨(some 18), (.mv (.tmp 5)), none, none⟩, ⟨(some 19), (.idxASl 1 (.tmp 17) (.tmp 18)), none, none⟩, ⟨(some 20), (.load false 1 (.tmp 19)), none, none⟩, ⟨(some 21), (.mv (.tmp 1)), none, none⟩, ⟨(some 22), (.mv (.tmp 5)), none, none⟩, ⟨(some 23), (.idxASl 1 (.tmp 21) (.tmp 22)), none, none⟩, ⟨(some 24), (.load false 1 (.tmp 23)), none, none⟩, ⟨(some 25), (.bin .neq (.tmp 20) (.tmp 24)), none, none⟩]) (.cond (.tmp 25) (.seq (.region [⟨(some 4), (.mv (.con (.bool false))), none, none⟩]) .ret) .skip))) (.region [⟨(some 15), (.mv (.tmp 5)), none, none⟩, ⟨(some 16), (.bin .add (.tmp 15) (.con (.int .i64 1))), none, none⟩, ⟨(some 5), (.mv (.tmp 16)), none, none⟩])))
theorem loop24 {H : AHeap} {s t : AVal} {l k : List (List UInt8)} (hs : Sl H 1 s (l.map .str)) (ht : Sl H 1 t (k.map .str)) (hl : l.length = k.length) (hb : l.length < 1000000) {env : Env} (h0 : env 0 = s) (h1 : env 1 = t) (h5 : env 5 = .int .i64 0) :
    Outs (AX A (.loop b24) env H) fun e env' H' => H' = H ∧ ((e = .exit 0 ∧ l = k) ∨ (e = .ret ∧ env' 4 = .bool false ∧ l ≠ k)) := by
  refine loop_ends (I := fun (j : Nat) env' H' => j ≤ l.length ∧ H' = H ∧ env' 0 = s ∧ env' 1 = t ∧ env' 5 = .int .i64 (j : Int) ∧ l.take j = k.take j) (fun j => l.length - j) ?_ 0 env H ⟨Nat.zero_le _, rfl, h0, h1, h5, by simp⟩
  rintro j env' _ ⟨hj, rfl, h0, h1, h5, hp⟩
  have e0 := hs.len1
  rw [List.length_map] at e0
  by_cases hjm : j < l.length
  · have e1 : decide ((j : Int) < (l.length : Int)) = true := by simp; omega
    obtain ⟨id, off, cap, g, c, own, rfl, ho, _, a1⟩ := hs.elem1 hjm
    obtain ⟨id2, off2, cap2, g2, c2, own2, rfl, ho2, _, a2⟩ := ht.elem1 (i := j) (by omega)
    have ha : aidx l.length (.int .i64 (j : Int)) = some j := by simp [aidx]; omega
    have w1 : IntKind.i64.wrap ((j : Int) + 1) = ((j + 1 : Nat) : Int) := by rw [wrap_i64]; omega
    have ha2 : aidx k.length (.int .i64 (j : Int)) = some j := by simp [aidx]; omega
    have ge : ∀ (l : List (List UInt8)) (h : j < l.length), l.take (j + 1) = l.take j ++ [l[j]] := fun l h => by
      rw [List.take_add_one, List.getElem?_eq_getElem h]; rfl
    cases hd : decide (l[j] = k[j])
    · simp only [b24, h0, h1, h5, e0, e1, ha, ha2, ho, ho2, a1, a2, hd, rwA, rwB, Nat.reduceAdd, Nat.reduceMul, Nat.reduceLeDiff, Int.reduceEq, Int.reduceLT, Int.reduceLE, Int.reduceAdd, Int.reduceSub, Int.reduceMul, ↓reduceIte, Nat.reduceEqDiff, reduceCtorEq, ↓cnd_true, ↓cnd_false]
      rw [outs_some]
      refine .inr ⟨by simp, rfl, .inr ⟨rfl, by simp [Env.set], ?_⟩⟩
      intro h
      subst h
      simp at hd
    · simp only [b24, h0, h1, h5, e0, e1, ha, ha2, ho, ho2, a1, a2, hd, w1, rwA, rwB, Nat.reduceAdd, Nat.reduceMul, Nat.reduceLeDiff, Int.reduceEq, Int.reduceLT, Int.reduceLE, Int.reduceAdd, Int.reduceSub, Int.reduceMul, ↓reduceIte, Nat.reduceEqDiff, reduceCtorEq, ↓cnd_true, ↓cnd_false]
      rw [outs_some]
      refine .inl ⟨rfl, j + 1, by omega, by omega, rfl, by simp [Env.set, h0], by simp [Env.set, h1], by simp [Env.set], ?_⟩
      rw [ge l hjm, ge k (by omega), hp]
      simp only [decide_eq_true_eq] at hd
      rw [hd]
  · have : j = l.length := by omega
    subst this
    have e1 : decide ((l.length : Int) < (l.length : Int)) = false := by simp
    simp only [b24, h0, h5, e0, e1, rwA, rwB, Nat.reduceAdd, Nat.reduceMul, Nat.reduceLeDiff, Int.reduceEq, Int.reduceLT, Int.reduceLE, Int.reduceAdd, Int.reduceSub, Int.reduceMul, ↓reduceIte, Nat.reduceEqDiff, reduceCtorEq, ↓cnd_true, ↓cnd_false]
    rw [outs_some]
    refine .inr ⟨by simp, rfl, .inl ⟨rfl, ?_⟩⟩
    rw [List.take_length, hl, List.take_length] at hp
    exact hp

theorem U24 {H : AHeap} {s t : AVal} {l k : List (List UInt8)} (hs : Sl H 1 s (l.map .str)) (ht : Sl H 1 t (k.map .str)) (hb : l.length < 1000000) :
    AC A 24 [s, t] H = some (.bool (decide (l = k)), H) := by
  refine look_val (x := DnFns.c24) rfl rfl rfl rfl ?_
  have hsf := hs.frz
  have htf := ht.frz
  have e0 := hsf.len1
  have e1 := htf.len1
  rw [List.length_map] at e0 e1
  by_cases c : l.length = k.length
  · have c1 : decide ((l.length : Int) = (k.length : Int)) = true := by simp; omega
    simp only [c24, e0, e1, c1, rwA, rwB, Nat.reduceAdd, Nat.reduceMul, Nat.reduceLeDiff, Int.reduceEq, Int.reduceLT, Int.reduceLE, Int.reduceAdd, Int.reduceSub, Int.reduceMul, ↓reduceIte, Nat.reduceEqDiff, reduceCtorEq, ↓cnd_true, ↓cnd_false]
    repeat (first | refine outs_seq ?_ | refine outs_block ?_ | refine outs_step ?_ | refine outs_stepD ?_ | refine rets_end ?_ | refine ans_end ?_)
    refine (loop24 hsf htf c hb ?_ ?_ ?_).mono ?_
    · simp [Env.set, ainit]
    · simp [Env.set, ainit]
    · simp [Env.set]
    rintro e env K ⟨rfl, (⟨rfl, h⟩ | ⟨rfl, h4, h⟩)⟩
    · simp only [outs_some, h, decide_true, rwA, rwB, Nat.reduceAdd, Nat.reduceMul, Nat.reduceLeDiff, Int.reduceEq, Int.reduceLT, Int.reduceLE, Int.reduceAdd, Int.reduceSub, Int.reduceMul, ↓reduceIte, Nat.reduceEqDiff, reduceCtorEq, ↓cnd_true, ↓cnd_false]
    · simp only [outs_some, h4, decide_eq_false h, rwA, rwB, Nat.reduceAdd, Nat.reduceMul, Nat.reduceLeDiff, Int.reduceEq, Int.reduceLT, Int.reduceLE, Int.reduceAdd, Int.reduceSub, Int.reduceMul, ↓reduceIte, Nat.reduceEqDiff, reduceCtorEq, ↓cnd_true, ↓cnd_false]
  · have c1 : decide ((l.length : Int) = (k.length : Int)) = false := by simp; omega
    have c2 : decide (l = k) = false := decide_eq_false fun h => c (by rw [h])
    rw [c2]
    simp only [c24, e0, e1, c1, rwA, rwB, Nat.reduceAdd, Nat.reduceMul, Nat.reduceLeDiff, Int.reduceEq, Int.reduceLT, Int.reduceLE, Int.reduceAdd, Int.reduceSub, Int.reduceMul, ↓reduceIte, Nat.reduceEqDiff, reduceCtorEq, ↓cnd_true, ↓cnd_false]

end Go.Proofs.Ytilhjcnkaelheaa.Dk
