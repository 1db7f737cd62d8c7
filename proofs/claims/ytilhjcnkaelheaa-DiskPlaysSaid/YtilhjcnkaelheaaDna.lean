/- The laws' texts and pages of one byte. -/
import Derived.Test.YtilhjcnkaelheaaSef
import Derived.Test.YtilhjcnkaelheaaAmCut
set_option maxRecDepth 100000
set_option linter.unusedSimpArgs false
set_option linter.unusedVariables false
set_option maxHeartbeats 2000000
namespace Go.Proofs.Ytilhjcnkaelheaa.Sd
open Go Go.Proofs.Ytilhjcnkaelheaa.Am DnFns Go.RowKit

def b12 : ACode := (.seq (.region [⟨(some 9), (.bin .lss (.tmp 8) (.tmp 7)), none, none⟩]) (.seq (.cond (.tmp 9) .skip (.exit 0)) (.seq (.block 1 (.seq (.region [⟨(some 10), (.mv (.tmp 8)), none, none⟩, ⟨(some 4), (.mv (.tmp 10)), none, none⟩]) (.region [⟨(some 11), (.mv (.tmp 3)), none, none⟩, ⟨(some 12), (.mv (.tmp 4)), none, none⟩, ⟨(some 13), (.mv (.tmp 0)), none, none⟩, ⟨(some 14), (.idxASl 1 (.tmp 11) (.tmp 12)), none, none⟩, ⟨none, (.store 1 (.tmp 14) (.tmp 13)), none, none⟩]))) (.region [⟨(some 15), (.bin .add (.tmp 8) (.con (.int .i64 1))), none, none⟩, ⟨(some 8), (.mv (.tmp 15)), none, none⟩]))))
def b40 : ACode := (.seq (.region [⟨(some 9), (.bin .lss (.tmp 8) (.tmp 7)), none, none⟩]) (.seq (.cond (.tmp 9) .skip (.exit 0)) (.seq (.block 1 (.seq (.region [⟨(some 10), (.mv (.tmp 8)), none, none⟩, ⟨(some 4), (.mv (.tmp 10)), none, none⟩]) (.region [⟨(some 11), (.mv (.tmp 3)), none, none⟩, ⟨(some 12), (.mv (.tmp 4)), none, none⟩, ⟨(some 13), (.mv (.tmp 0)), none, none⟩, ⟨(some 14), (.idxASl 1 (.tmp 11) (.tmp 12)), none, none⟩, ⟨none, (.store 1 (.tmp 14) (.tmp 13)), none, none⟩]))) (.region [⟨(some 15), (.bin .add (.tmp 8) (.con (.int .i64 1))), none, none⟩, ⟨(some 8), (.mv (.tmp 15)), none, none⟩]))))
example : b40 = b12 := rfl
def halfT (n : Nat) (b : UInt8) (j : Nat) : List AVal := List.replicate j (by8 b) ++ List.replicate (n - j) (by8 0)
theorem halfT_len {n : Nat} (b : UInt8) {j : Nat} (h : j ≤ n) : (halfT n b j).length = n := by simp [halfT]; omega
theorem halfT_set {n : Nat} (b : UInt8) {j : Nat} (h : j < n) : (halfT n b j).set j (by8 b) = halfT n b (j + 1) := by
  unfold halfT
  rw [List.set_append_right _ _ (by simp), show n - j = (n - (j + 1)) + 1 by omega]
  simp only [List.length_replicate, Nat.sub_self, List.replicate_succ (n := n - (j + 1)), List.set_cons_zero]
  rw [List.replicate_succ']
  simp
theorem loop12 {K : AHeap} {N n : Nat} {b : UInt8} {env : Env} (hn : n ≤ 1000) (h0 : env 0 = by8 b) (h3 : env 3 = .slice N 0 n n none) (h7 : env 7 = .int .i64 (n : Int)) (h8 : env 8 = .int .i64 0) (hN : K.obj N = some (.cells (halfT n b 0) true)) :
    Outs (AX A (.loop b12) env K) fun e env' K' => e = .exit 0 ∧ env' 3 = .slice N 0 n n none ∧ K'.obj N = some (.cells (halfT n b n) true) := by
  refine loop_ends (I := fun (j : Nat) env' K' => j ≤ n ∧ env' 0 = by8 b ∧ env' 3 = .slice N 0 n n none ∧ env' 7 = .int .i64 (n : Int) ∧ env' 8 = .int .i64 (j : Int) ∧ K'.obj N = some (.cells (halfT n b j) true)) (fun j => n - j) ?_ 0 env K ⟨by omega, h0, h3, h7, h8, hN⟩
  rintro j env' K' ⟨hj, h0, h3, h7, h8, hN⟩
  by_cases hlt : j < n
  · have e1 : decide ((j : Int) < (n : Int)) = true := by simp; omega
    have w1 : IntKind.i64.wrap ((j : Int) + 1) = ((j + 1 : Nat) : Int) := by rw [wrap_i64]; omega
    have ha : aidx n (.int .i64 (j : Int)) = some j := by simp [aidx]; omega
    have hl := halfT_len (n := n) b hj
    have hs := halfT_set (n := n) b hlt
    unfold by8 at h0 hs
    have hlt' : j < (halfT n b j).length := by omega
    have st := store_one K' N j (.int .u8 (b.toNat : Int)) (halfT n b j) hlt'
    rw [hs] at st
    simp only [b12, h0, h3, h7, h8, e1, w1, ha, hN, st, rwA, rwB, Nat.reduceAdd, Nat.reduceMul, Nat.reduceLeDiff, Int.reduceEq, Int.reduceLT, Int.reduceLE, Int.reduceAdd, Int.reduceSub, Int.reduceMul, ↓reduceIte, Nat.reduceEqDiff, reduceCtorEq, ↓cnd_true, ↓cnd_false]
    rw [outs_some]
    exact .inl ⟨rfl, j + 1, by omega, by omega, by simp [Env.set, h0, by8], by simp [Env.set, h3], by simp [Env.set, h7], by simp [Env.set], by simp [AHeap.set]⟩
  · have : j = n := by omega
    subst this
    have e1 : decide ((j : Int) < (j : Int)) = false := by simp
    simp only [b12, h7, h8, e1, rwA, rwB, Nat.reduceAdd, Nat.reduceMul, Nat.reduceLeDiff, Int.reduceEq, Int.reduceLT, Int.reduceLE, Int.reduceAdd, Int.reduceSub, Int.reduceMul, ↓reduceIte, Nat.reduceEqDiff, reduceCtorEq, ↓cnd_true, ↓cnd_false]
    rw [outs_some]
    exact .inr ⟨by simp, rfl, by simp [Env.set, h3], hN⟩

theorem U12 (b : UInt8) (H : AHeap) : AC A 12 [by8 b] H = some (.str (List.replicate 512 b), H) := by
  refine one_val (x := DnFns.c12) rfl rfl rfl rfl rfl ?_ H
  have mk := mk8 512 (by decide) noH
  have hb : noH.next = 0 := rfl
  have e512 : ((512 : Nat) : Int) = 512 := rfl
  rw [e512] at mk
  have hf : halfT 512 b 0 = List.replicate 512 (by8 0) := by simp [halfT]
  rw [← hf] at mk
  have key : ∀ K : AHeap, K.obj 0 = some (.cells (halfT 512 b 512) true) → bToSX K (.slice 0 0 512 512 none) = some (.str (List.replicate 512 b), K) := by
    intro K hK
    refine bToS_sl (.inr ⟨_, _, _, _, _, rfl, by simp, .inr ⟨_, true, hK, by rw [halfT_len _ (Nat.le_refl _)]; decide, ?_⟩⟩)
    simp [halfT]
  simp only [c12, mk, hb, rwA, rwB, Nat.reduceAdd, Nat.reduceMul, Nat.reduceLeDiff, Int.reduceEq, Int.reduceLT, Int.reduceLE, Int.reduceAdd, Int.reduceSub, Int.reduceMul, ↓reduceIte, Nat.reduceEqDiff, reduceCtorEq, ↓cnd_true, ↓cnd_false]
  repeat (first | refine outs_seq ?_ | refine outs_block ?_ | refine outs_step ?_ | refine outs_stepD ?_ | refine rets_end ?_ | refine ans_end ?_)
  refine (loop12 (N := 0) (n := 512) (b := b) (by decide) ?_ ?_ ?_ ?_ ?_).mono ?_
  · simp [Env.set, ainit]
  · simp [Env.set]
  · simp [Env.set]
  · simp [Env.set]
  · simp [AHeap.new, noH]
  · rintro e env K ⟨rfl, h3, hK⟩
    simp only [outs_some, h3, key K hK, rwA, rwB, Nat.reduceAdd, Nat.reduceMul, Nat.reduceLeDiff, Int.reduceEq, Int.reduceLT, Int.reduceLE, Int.reduceAdd, Int.reduceSub, Int.reduceMul, ↓reduceIte, Nat.reduceEqDiff, reduceCtorEq, ↓cnd_true, ↓cnd_false]

theorem U40 (b : UInt8) (H : AHeap) : AC A 40 [by8 b] H = some (.str (List.replicate 480 b), H) := by
  refine one_val (x := DnFns.c40) rfl rfl rfl rfl rfl ?_ H
  have mk := mk8 480 (by decide) noH
  have hb : noH.next = 0 := rfl
  have e512 : ((480 : Nat) : Int) = 480 := rfl
  rw [e512] at mk
  have hf : halfT 480 b 0 = List.replicate 480 (by8 0) := by simp [halfT]
  rw [← hf] at mk
  have key : ∀ K : AHeap, K.obj 0 = some (.cells (halfT 480 b 480) true) → bToSX K (.slice 0 0 480 480 none) = some (.str (List.replicate 480 b), K) := by
    intro K hK
    refine bToS_sl (.inr ⟨_, _, _, _, _, rfl, by simp, .inr ⟨_, true, hK, by rw [halfT_len _ (Nat.le_refl _)]; decide, ?_⟩⟩)
    simp [halfT]
  simp only [c40, mk, hb, rwA, rwB, Nat.reduceAdd, Nat.reduceMul, Nat.reduceLeDiff, Int.reduceEq, Int.reduceLT, Int.reduceLE, Int.reduceAdd, Int.reduceSub, Int.reduceMul, ↓reduceIte, Nat.reduceEqDiff, reduceCtorEq, ↓cnd_true, ↓cnd_false]
  repeat (first | refine outs_seq ?_ | refine outs_block ?_ | refine outs_step ?_ | refine outs_stepD ?_ | refine rets_end ?_ | refine ans_end ?_)
  refine (loop12 (N := 0) (n := 480) (b := b) (by decide) ?_ ?_ ?_ ?_ ?_).mono ?_
  · simp [Env.set, ainit]
  · simp [Env.set]
  · simp [Env.set]
  · simp [Env.set]
  · simp [AHeap.new, noH]
  · rintro e env K ⟨rfl, h3, hK⟩
    simp only [outs_some, h3, key K hK, rwA, rwB, Nat.reduceAdd, Nat.reduceMul, Nat.reduceLeDiff, Int.reduceEq, Int.reduceLT, Int.reduceLE, Int.reduceAdd, Int.reduceSub, Int.reduceMul, ↓reduceIte, Nat.reduceEqDiff, reduceCtorEq, ↓cnd_true, ↓cnd_false]

end Go.Proofs.Ytilhjcnkaelheaa.Sd
