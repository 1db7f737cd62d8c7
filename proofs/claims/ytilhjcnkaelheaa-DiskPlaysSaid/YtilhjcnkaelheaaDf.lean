/- Disks: read, told, copied, made. -/
import Derived.Test.YtilhjcnkaelheaaDe
set_option maxRecDepth 100000
set_option linter.unusedSimpArgs false
set_option linter.unusedVariables false
set_option maxHeartbeats 2000000
namespace Go.Proofs.Ytilhjcnkaelheaa.Dk
open Go Go.Proofs.Ytilhjcnkaelheaa.Am DnFns Go.RowKit
open Sd (Sec noughts home homeno ofHome ofNo opened unfit pad)

theorem U51 {s : AVal} (hsc : s = .nils ∨ ∃ a b c d e, s = .slice a b c d e) (H : AHeap) : AC A 51 [s] H = some (.func 66 [] [.ptr H.next 0], H.new (.cells [s] true)) := by
  rw [s_fn (A := A) (f := 51) (x := DnFns.c51) rfl rfl rfl]
  rcases hsc with rfl | ⟨_, _, _, _, _, rfl⟩ <;> simp only [c51, rwA, rwB, Nat.reduceAdd, Nat.reduceMul, Nat.reduceLeDiff, Int.reduceEq, Int.reduceLT, Int.reduceLE, Int.reduceAdd, Int.reduceSub, Int.reduceMul, ↓reduceIte, Nat.reduceEqDiff, reduceCtorEq, ↓cnd_true, ↓cnd_false]

def as18 : ACode := (.region [⟨(some 7), (.new [(.int .i64 0), (.str [])]), none, none⟩, ⟨none, (.store 2 (.tmp 7) (.tmp 28)), none, none⟩])
def bd18 : ACode := (.block 2 (.seq (.region [⟨(some 29), (.fieldA 0 (.tmp 7)), none, none⟩, ⟨(some 30), (.load false 1 (.tmp 29)), none, none⟩, ⟨(some 31), (.load false 1 (.tmp 3)), none, none⟩, ⟨(some 32), (.bin .eql (.tmp 30) (.tmp 31)), none, none⟩]) (.cond (.tmp 32) (.seq (.region [⟨(some 33), (.fieldA 1 (.tmp 7)), none, none⟩, ⟨(some 34), (.load false 1 (.tmp 33)), none, none⟩, ⟨none, (.store 1 (.tmp 4) (.tmp 34)), none, none⟩, ⟨none, (.store 1 (.tmp 5) (.con (.int .i64 0))), none, none⟩]) .ret) .skip)))

theorem yield18 {K H : AHeap} {env : Env} {q : Nat} {ti : Int} {x : Nat × List UInt8} {i : Int} {a b : AVal} (hk : Keeps K H) (hq : q + 2 < K.next) (h3 : env 3 = .ptr q 0) (h4 : env 4 = .ptr (q + 1) 0) (h5 : env 5 = .ptr (q + 2) 0)
    (o3 : K.obj q = some (.cells [.int .i64 ti] true)) (o4 : K.obj (q + 1) = some (.cells [a] true)) (o5 : K.obj (q + 2) = some (.cells [b] true)) :
    ∃ H', (((x.1 : Int) = ti → ayield (AX A as18) (AX A bd18) [27, 28] env none [.int .i64 i, .agg (wc x)] H = some (false, some .ret, H') ∧ H'.obj (q + 1) = some (.cells [.str x.2] true) ∧ H'.obj (q + 2) = some (.cells [.int .i64 0] true)) ∧
      (¬ (x.1 : Int) = ti → ayield (AX A as18) (AX A bd18) [27, 28] env none [.int .i64 i, .agg (wc x)] H = some (true, none, H') ∧ Keeps K H')) := by
  have hn := hk.1
  have o3' : H.obj q = some (.cells [.int .i64 ti] true) := by rw [hk.2 _ (by omega)]; exact o3
  have o4' : H.obj (q + 1) = some (.cells [a] true) := by rw [hk.2 _ (by omega)]; exact o4
  have o5' : H.obj (q + 2) = some (.cells [b] true) := by rw [hk.2 _ (by omega)]; exact o5
  obtain ⟨H1, eH1⟩ : ∃ X, (H.new (.cells [.int .i64 0, .str []] true)).set H.next (.cells [.int .i64 (x.1 : Int), .str x.2] true) = X := ⟨_, rfl⟩
  have oH1 : H1.obj H.next = some (.cells [.int .i64 (x.1 : Int), .str x.2] true) := by rw [← eH1, set_obj, if_pos rfl]
  have kH1 : Keeps H H1 := by rw [← eH1]; exact Keeps.set' (Nat.le_refl _) (Keeps.new' (Keeps.refl _))
  have p3 : H1.obj q = some (.cells [.int .i64 ti] true) := by rw [kH1.2 _ (by omega)]; exact o3'
  have p4 : H1.obj (q + 1) = some (.cells [a] true) := by rw [kH1.2 _ (by omega)]; exact o4'
  have p5 : H1.obj (q + 2) = some (.cells [b] true) := by rw [kH1.2 _ (by omega)]; exact o5'
  have n32 : (q + 2 = q + 1) = False := by simp
  by_cases c : (x.1 : Int) = ti
  · refine ⟨(H1.set (q + 1) (.cells [.str x.2] true)).set (q + 2) (.cells [.int .i64 0] true), fun _ => ⟨?_, by simp [AHeap.set], by simp [AHeap.set]⟩, fun h => absurd c h⟩
    rw [r_yield _ _ _ _ _ _ rfl]
    have c1 : decide ((x.1 : Int) = ti) = true := decide_eq_true c
    simp only [as18, bd18, wc, r_ps, r_ps0, h3, h4, h5, eH1, oH1, p3, p4, p5, n32, c1, if_false, r_round, r_normal, r_ret, rwA, rwB, Nat.reduceAdd, Nat.reduceMul, Nat.reduceLeDiff, Int.reduceEq, Int.reduceLT, Int.reduceLE, Int.reduceAdd, Int.reduceSub, Int.reduceMul, ↓reduceIte, Nat.reduceEqDiff, reduceCtorEq, ↓cnd_true, ↓cnd_false]
  · refine ⟨H1, fun h => absurd h c, fun _ => ⟨?_, hk.trans kH1⟩⟩
    rw [r_yield _ _ _ _ _ _ rfl]
    simp only [as18, bd18, wc, r_ps, r_ps0, h3, h4, h5, eH1, oH1, p3, p4, p5, n32, c, decide_false, if_false, r_round, r_normal, r_ret, rwA, rwB, Nat.reduceAdd, Nat.reduceMul, Nat.reduceLeDiff, Int.reduceEq, Int.reduceLT, Int.reduceLE, Int.reduceAdd, Int.reduceSub, Int.reduceMul, ↓reduceIte, Nat.reduceEqDiff, reduceCtorEq, ↓cnd_true, ↓cnd_false]

theorem U18 {H : AHeap} {p a : Nat} {g : Option Nat} {vw : AVal} {d : DS} (h : DL H p a g vw d) (hw : d.w.length < 1000000) (i : Int) :
    AC A 18 [.ptr p 0, .int .i64 i] H = some (.tuple [.str (d.read i).1, .int .i64 (d.read i).2], H) := by
  refine look_val (x := DnFns.c18) rfl rfl rfl rfl ?_
  have hf := h.frz
  obtain ⟨q, eq⟩ : ∃ q, (frz H).next = q := ⟨_, rfl⟩
  obtain ⟨K, eK⟩ : ∃ K, (((frz H).new (.cells [.int .i64 i] true)).new (.cells [.str []] true)).new (.cells [.int .i64 0] true) = K := ⟨_, rfl⟩
  have kK : Keeps (frz H) K := by rw [← eK]; exact Keeps.new' (Keeps.new' (Keeps.new' (Keeps.refl _)))
  have nK : K.next = q + 3 := by rw [← eK]; simp [new_next, eq]
  have hK := hf.keeps kK
  obtain ⟨o, op⟩ := hK.op
  have o3 : K.obj q = some (.cells [.int .i64 i] true) := by rw [← eK]; simp only [new_obj, new_next, eq]; rw [if_neg (by omega), if_neg (by omega), if_pos trivial]
  have o4 : K.obj (q + 1) = some (.cells [.str []] true) := by rw [← eK]; simp only [new_obj, new_next, eq]; rw [if_neg (by omega), if_pos trivial]
  have o5 : K.obj (q + 2) = some (.cells [.int .i64 0] true) := by rw [← eK]; simp only [new_obj, new_next, eq]; rw [if_pos trivial]
  have n32 : (q + 2 = q + 1) = False := by simp
  have n23 : (q + 1 = q + 2) = False := by simp
  have u45 := U45 hK i
  unfold DS.read
  cases hd : d.dead <;> rw [hd] at op
  · by_cases c : 0 ≤ i ∧ i < (d.s.length : Int)
    · have c1 : (decide (0 ≤ i) && decide (i < (d.s.length : Int))) = true := by simp; omega
      rw [c1] at u45
      rw [if_pos c]
      have u51 := U51 (sl_shape' hK.sw) K
      obtain ⟨K5, eK5⟩ : ∃ K5, K.new (.cells [vw] true) = K5 := ⟨_, rfl⟩
      rw [eK5] at u51
      have kK5 : Keeps K K5 := by rw [← eK5]; exact Keeps.new _ _
      have nK5 : K5.next = q + 4 := by rw [← eK5]; simp [new_next, nK]
      have oc : K5.obj (q + 3) = some (.cells [vw] true) := by rw [← eK5, new_obj, if_pos (by omega)]
      have hK5 := hK.keeps kK5
      obtain ⟨o', op5⟩ := hK5.op
      rw [hd] at op5
      obtain ⟨o'', oa5⟩ := hK5.oa
      have wnK5 := hK5.wn
      have key : ∀ env : Env, env 26 = .func 66 [] [.ptr K.next 0] → env 3 = .ptr q 0 → env 4 = .ptr (q + 1) 0 → env 5 = .ptr (q + 2) 0 → _ := fun env a0 a3 a4 a5 =>
        range_back (A := A) (es := 2) (enc := wc) wc_len (by decide) (l := d.w) (s := vw) (c := K.next) (by omega) (f := .tmp 26) (ps := [27, 28]) (ac := as18) (bd := bd18) (env := env) (H := K5) (g := 66) (fn := DnFns.c66) a0 rfl rfl
          (fun k M => Keeps K5 M ∧ lw d.w i d.w.length = lw d.w i k) (fun st M => st = some .ret ∧ ∃ y, lw d.w i d.w.length = some y ∧ M.obj (q + 1) = some (.cells [.str y] true) ∧ M.obj (q + 2) = some (.cells [.int .i64 0] true))
          (fun k M hM => ⟨⟨true, by rw [hM.1.2 _ (by omega), nK]; exact oc⟩, hK5.sw.keep wnK5 hM.1⟩)
          (fun k hk M hM => by
            obtain ⟨M', hT, hF⟩ := yield18 (x := d.w[k]) (ti := i) (i := (k : Int)) hM.1 (by omega) a3 a4 a5 (by rw [kK5.2 _ (by omega)]; exact o3) (by rw [kK5.2 _ (by omega)]; exact o4) (by rw [kK5.2 _ (by omega)]; exact o5)
            have ek : d.w.getD k (0, []) = d.w[k] := by simp [hk]
            by_cases cx : (d.w[k].1 : Int) = i
            · obtain ⟨hy, r4, r5⟩ := hT cx
              exact ⟨_, _, _, hy, .inr ⟨rfl, rfl, _, by rw [hM.2]; simp only [lw, ek, if_pos cx], r4, r5⟩⟩
            · obtain ⟨hy, kM⟩ := hF cx
              exact ⟨_, _, _, hy, .inl ⟨rfl, rfl, kM, by rw [hM.2]; simp only [lw, ek, if_neg cx]⟩⟩)
          ⟨⟨by simp [AHeap.skip], fun _ _ => rfl⟩, rfl⟩
      have ha : aidx d.s.length (.int .i64 i) = some i.toNat := by simp [aidx]; omega
      have hs : (d.s.map AVal.str)[i.toNat]? = some (.str (d.s.getD i.toNat [])) := by
        rw [List.getElem?_map, List.getElem?_eq_getElem (by omega)]; simp [show i.toNat < d.s.length by omega]
      rcases sl_shape' hf.sw with rfl | ⟨_, _, _, _, _, rfl⟩
      all_goals
        simp only [c18, e_nilp0, eq, eK, nK, op, o3, u45, u51, Bool.not_false, Bool.not_true, rwA, rwB, Nat.reduceAdd, Nat.reduceMul, Nat.reduceLeDiff, Int.reduceEq, Int.reduceLT, Int.reduceLE, Int.reduceAdd, Int.reduceSub, Int.reduceMul, ↓reduceIte, Nat.reduceEqDiff, reduceCtorEq, ↓cnd_true, ↓cnd_false]
        repeat (first | refine outs_seq ?_ | refine outs_block ?_ | refine outs_step ?_ | refine outs_stepD ?_ | refine rets_end ?_ | refine ans_end ?_)
        refine outs_gen (fun env => env 0 = .ptr p 0 ∧ env 26 = .func 66 [] [.ptr K.next 0] ∧ env 3 = .ptr q 0 ∧ env 4 = .ptr (q + 1) 0 ∧ env 5 = .ptr (q + 2) 0) ⟨by simp [Env.set, ainit], by simp [Env.set, nK], by simp [Env.set], by simp [Env.set], by simp [Env.set]⟩ ?_
        rintro env ⟨a0, a1, a2, a3, a4⟩
        refine (key env a1 a2 a3 a4).mono ?_
        rintro e env' M ⟨rfl, (⟨rfl, kM, hE⟩ | ⟨st, rfl, rfl, y, hE, p4, p5⟩)⟩
        · rw [hE]
          have q3 : M.obj q = some (.cells [.int .i64 i] true) := by rw [kM.2 _ (by omega), kK5.2 _ (by omega)]; exact o3
          have q4 : M.obj (q + 1) = some (.cells [.str []] true) := by rw [kM.2 _ (by omega), kK5.2 _ (by omega)]; exact o4
          have q5 : M.obj (q + 2) = some (.cells [.int .i64 0] true) := by rw [kM.2 _ (by omega), kK5.2 _ (by omega)]; exact o5
          have opM := (kM.2 _ hK5.pn).trans op5
          have oaM := (kM.2 _ hK5.an).trans oa5
          simp only [outs_some, a0, a2, a3, a4, q3, q4, q5, opM, oaM, ha, hs, n32, n23, lw, Option.getD, Bool.false_eq_true, Option.getD_none, if_false, rwA, rwB, Nat.reduceAdd, Nat.reduceMul, Nat.reduceLeDiff, Int.reduceEq, Int.reduceLT, Int.reduceLE, Int.reduceAdd, Int.reduceSub, Int.reduceMul, ↓reduceIte, Nat.reduceEqDiff, reduceCtorEq, ↓cnd_true, ↓cnd_false]
        · rw [hE]
          simp only [outs_some, a2, a3, a4, p4, p5, n32, n23, if_false, Option.getD_some, Bool.false_eq_true, rwA, rwB, Nat.reduceAdd, Nat.reduceMul, Nat.reduceLeDiff, Int.reduceEq, Int.reduceLT, Int.reduceLE, Int.reduceAdd, Int.reduceSub, Int.reduceMul, ↓reduceIte, Nat.reduceEqDiff, reduceCtorEq, ↓cnd_true, ↓cnd_false]
    · have c1 : (decide (0 ≤ i) && decide (i < (d.s.length : Int))) = false := by simp; omega
      rw [c1] at u45
      rw [if_neg c]
      rcases sl_shape' hf.sw with rfl | ⟨_, _, _, _, _, rfl⟩ <;> simp only [c18, e_nilp0, eq, eK, op, o3, o4, o5, u45, n32, n23, if_false, Bool.not_false, Bool.not_true, Bool.false_eq_true, rwA, rwB, Nat.reduceAdd, Nat.reduceMul, Nat.reduceLeDiff, Int.reduceEq, Int.reduceLT, Int.reduceLE, Int.reduceAdd, Int.reduceSub, Int.reduceMul, ↓reduceIte, Nat.reduceEqDiff, reduceCtorEq, ↓cnd_true, ↓cnd_false]
  · rcases sl_shape' hf.sw with rfl | ⟨_, _, _, _, _, rfl⟩ <;> simp only [c18, e_nilp0, eq, eK, op, o3, o4, o5, n32, n23, if_false, Bool.not_false, Bool.not_true, rwA, rwB, Nat.reduceAdd, Nat.reduceMul, Nat.reduceLeDiff, Int.reduceEq, Int.reduceLT, Int.reduceLE, Int.reduceAdd, Int.reduceSub, Int.reduceMul, ↓reduceIte, Nat.reduceEqDiff, reduceCtorEq, ↓cnd_true, ↓cnd_false]

end Go.Proofs.Ytilhjcnkaelheaa.Dk
