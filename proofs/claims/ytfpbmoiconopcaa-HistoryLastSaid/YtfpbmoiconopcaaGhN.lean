/- HistoryLast: the outer loop's round. -/
import Derived.Test.YtfpbmoiconopcaaGhM
set_option maxRecDepth 100000
set_option linter.unusedSimpArgs false
set_option linter.unusedVariables false
set_option maxHeartbeats 4000000
namespace Go.Proofs.Ytfpbmoiconopcaa.Gh
open Go Go.Proofs.Ytfpbmoiconopcaa.Am GaFns Go.RowKit

def b9 : ACode := (.seq (.region [⟨(some 50), (.bin .lss (.tmp 49) (.tmp 48)), none, none⟩]) (.seq (.cond (.tmp 50) .skip (.exit 0)) (.seq (.block 1 (.seq (.region [⟨(some 51), (.idxASl 2 (.tmp 47) (.tmp 49)), none, none⟩, ⟨(some 52), (.load true 2 (.tmp 51)), none, none⟩, ⟨(some 9), (.new [(.int .i64 0), (.int .i64 0)]), none, none⟩, ⟨none, (.store 2 (.tmp 9) (.tmp 52)), none, none⟩]) (.seq (.region [⟨(some 53), (.fieldA 0 (.tmp 9)), none, none⟩, ⟨(some 54), (.load false 1 (.tmp 53)), none, none⟩, ⟨(some 55), (.fieldA 1 (.tmp 9)), none, none⟩, ⟨(some 56), (.load false 1 (.tmp 55)), none, none⟩, ⟨(some 57), (.build [(.int .i64 0), (.int .i64 0)] [(0, (1, (.tmp 54))), (1, (1, (.tmp 56)))]), none, none⟩, ⟨(some 10), (.new [(.int .i64 0), (.int .i64 0)]), none, none⟩, ⟨none, (.store 2 (.tmp 10) (.tmp 57)), none, none⟩]) (.seq (.region [⟨(some 59), (.load true 2 (.tmp 5)), none, none⟩, ⟨(some 60), (.load true 2 (.tmp 10)), none, none⟩, ⟨(some 61), (.call (.con (.func 36 [] [])) [(.tmp 59), (.tmp 60)]), none, none⟩, ⟨(some 58), (.mv (.tmp 61)), none, none⟩, ⟨(some 62), (.extract (.tmp 58) 0), none, none⟩, ⟨(some 63), (.extract (.tmp 58) 1), none, none⟩, ⟨(some 11), (.new [(.int .i64 0), .nils]), none, none⟩, ⟨none, (.store 2 (.tmp 11) (.tmp 62)), none, none⟩, ⟨(some 12), (.mv (.tmp 63)), none, none⟩]) (.seq (.draw [⟨(some 64), (.fieldA 0 (.tmp 9)), none, none⟩, ⟨(some 65), (.load false 1 (.tmp 64)), none, none⟩, ⟨(some 66), (.bin .geq (.tmp 65) (.con (.int .i64 0))), none, none⟩, ⟨(some 67), (.mv (.tmp 66)), none, none⟩, ⟨(some 68), (.fieldA 0 (.tmp 9)), (some (67, true)), none⟩, ⟨(some 69), (.load false 1 (.tmp 68)), (some (67, true)), none⟩, ⟨(some 70), (.bin .leq (.tmp 69) (.con (.int .i64 1125899906842624))), (some (67, true)), none⟩, ⟨(some 71), (.pick (.tmp 67) (.tmp 70) (.con (.bool false))), none, none⟩, ⟨(some 72), (.mv (.tmp 71)), none, none⟩, ⟨(some 73), (.fieldA 1 (.tmp 9)), (some (72, true)), none⟩, ⟨(some 74), (.load false 1 (.tmp 73)), (some (72, true)), none⟩, ⟨(some 75), (.bin .geq (.tmp 74) (.con (.int .i64 0))), (some (72, true)), none⟩, ⟨(some 76), (.pick (.tmp 72) (.tmp 75) (.con (.bool false))), none, none⟩, ⟨(some 77), (.mv (.tmp 76)), none, none⟩, ⟨(some 78), (.fieldA 1 (.tmp 9)), (some (77, true)), none⟩, ⟨(some 79), (.load false 1 (.tmp 78)), (some (77, true)), none⟩, ⟨(some 80), (.bin .leq (.tmp 79) (.con (.int .i64 1125899906842624))), (some (77, true)), none⟩, ⟨(some 81), (.pick (.tmp 77) (.tmp 80) (.con (.bool false))), none, none⟩, ⟨(some 82), (.mv (.tmp 81)), none, none⟩, ⟨(some 83), (.mv (.tmp 7)), (some (82, true)), none⟩, ⟨(some 84), (.len false (.tmp 83)), (some (82, true)), none⟩, ⟨(some 85), (.bin .eql (.tmp 84) (.con (.int .i64 0))), (some (82, true)), none⟩, ⟨(some 86), (.mv (.tmp 85)), (some (82, true)), none⟩, ⟨(some 87), (.mv (.tmp 7)), (some (86, false)), none⟩, ⟨(some 88), (.mv (.tmp 7)), (some (86, false)), none⟩, ⟨(some 89), (.len false (.tmp 88)), (some (86, false)), none⟩, ⟨(some 90), (.bin .sub (.tmp 89) (.con (.int .i64 1))), (some (86, false)), none⟩, ⟨(some 91), (.idxASl 2 (.tmp 87) (.tmp 90)), (some (86, false)), none⟩, ⟨(some 92), (.fieldA 0 (.tmp 91)), (some (86, false)), none⟩, ⟨(some 93), (.load false 1 (.tmp 92)), (some (86, false)), none⟩, ⟨(some 94), (.fieldA 0 (.tmp 9)), (some (86, false)), none⟩, ⟨(some 95), (.load false 1 (.tmp 94)), (some (86, false)), none⟩, ⟨(some 96), (.bin .lss (.tmp 93) (.tmp 95)), (some (86, false)), none⟩, ⟨(some 97), (.pick (.tmp 86) (.con (.bool true)) (.tmp 96)), (some (82, true)), none⟩, ⟨(some 98), (.pick (.tmp 82) (.tmp 97) (.con (.bool false))), none, none⟩, ⟨(some 13), (.mv (.tmp 98)), none, none⟩]) (.seq (.seq (.region [⟨(some 99), (.mv (.tmp 13)), none, none⟩, ⟨(some 100), (.mv (.tmp 12)), none, none⟩, ⟨(some 101), (.bin .eql (.tmp 100) (.con (.int .i64 0))), none, none⟩, ⟨(some 102), (.eq true .bool (.tmp 99) (.tmp 101)), none, none⟩]) (.cond (.tmp 102) (.seq (.region [⟨(some 4), (.mv (.con (.bool false))), none, none⟩]) .ret) .skip)) (.seq (.seq (.region [⟨(some 103), (.mv (.tmp 13)), none, none⟩]) (.cond (.tmp 103) (.draw [⟨(some 104), (.load true 2 (.tmp 11)), none, (some (0, 2))⟩, ⟨(some 105), (.mv (.tmp 7)), none, none⟩, ⟨(some 106), (.load true 2 (.tmp 10)), none, none⟩, ⟨(some 107), (.buildS 1 [(.int .i64 0), (.int .i64 0)] [(0, (2, (.tmp 106)))]), none, none⟩, ⟨(some 108), (.append 2 16 (.tmp 105) (.tmp 107)), none, none⟩, ⟨none, (.store 2 (.tmp 5) (.tmp 104)), none, none⟩, ⟨(some 7), (.mv (.tmp 108)), none, none⟩]) .skip)) (.seq (.seq (.region [⟨(some 109), (.load true 2 (.tmp 5)), none, none⟩, ⟨(some 110), (.call (.con (.func 35 [] [])) [(.tmp 109)]), none, none⟩, ⟨(some 111), (.bin .neq (.tmp 110) (.con (.int .i64 0))), none, none⟩, ⟨(some 112), (.mv (.tmp 111)), none, none⟩, ⟨(some 113), (.fieldA 1 (.tmp 5)), (some (112, false)), none⟩, ⟨(some 114), (.load false 1 (.tmp 113)), (some (112, false)), none⟩, ⟨(some 115), (.len false (.tmp 114)), (some (112, false)), none⟩, ⟨(some 116), (.mv (.tmp 7)), (some (112, false)), none⟩, ⟨(some 117), (.len false (.tmp 116)), (some (112, false)), none⟩, ⟨(some 118), (.mv (.tmp 0)), (some (112, false)), none⟩, ⟨(some 119), (.minmax false [(.tmp 117), (.tmp 118)]), (some (112, false)), none⟩, ⟨(some 120), (.bin .neq (.tmp 115) (.tmp 119)), (some (112, false)), none⟩, ⟨(some 121), (.pick (.tmp 112) (.con (.bool true)) (.tmp 120)), none, none⟩]) (.cond (.tmp 121) (.seq (.region [⟨(some 4), (.mv (.con (.bool false))), none, none⟩]) .ret) .skip)) (.seq (.region [⟨(some 122), (.fieldA 1 (.tmp 5)), none, none⟩, ⟨(some 123), (.load false 1 (.tmp 122)), none, none⟩, ⟨(some 124), (.len false (.tmp 123)), none, none⟩, ⟨(some 125), (.mv (.con (.int .i64 0))), none, none⟩]) (.block 2 (.loop (.seq (.region [⟨(some 126), (.bin .lss (.tmp 125) (.tmp 124)), none, none⟩]) (.seq (.cond (.tmp 126) .skip (.exit 2)) (.seq (.block 3 (.seq (.region [⟨(some 127), (.mv (.tmp 125)), none, none⟩, ⟨(some 128), (.idxASl 2 (.tmp 123) (.tmp 125)), none, none⟩, ⟨(some 129), (.load true 2 (.tmp 128)), none, none⟩, ⟨(some 15), (.new [(.int .i64 0), (.int .i64 0)]), none, none⟩, ⟨(some 14), (.mv (.tmp 127)), none, none⟩, ⟨none, (.store 2 (.tmp 15) (.tmp 129)), none, none⟩]) (.seq (.draw [⟨(some 130), (.load true 2 (.tmp 15)), none, none⟩, ⟨(some 131), (.mv (.tmp 7)), none, none⟩, ⟨(some 132), (.mv (.tmp 7)), none, none⟩, ⟨(some 133), (.len false (.tmp 132)), none, none⟩, ⟨(some 134), (.fieldA 1 (.tmp 5)), none, none⟩, ⟨(some 135), (.load false 1 (.tmp 134)), none, none⟩, ⟨(some 136), (.len false (.tmp 135)), none, none⟩, ⟨(some 137), (.bin .sub (.tmp 133) (.tmp 136)), none, none⟩, ⟨(some 138), (.mv (.tmp 14)), none, none⟩, ⟨(some 139), (.bin .add (.tmp 137) (.tmp 138)), none, none⟩, ⟨(some 140), (.idxASl 2 (.tmp 131) (.tmp 139)), none, none⟩, ⟨(some 141), (.load true 2 (.tmp 140)), none, none⟩, ⟨(some 142), (.eq true (.fld 0 1 false (.int .i64) (.fld 1 1 false (.int .i64) .fend)) (.tmp 130) (.tmp 141)), none, none⟩]) (.cond (.tmp 142) (.seq (.region [⟨(some 4), (.mv (.con (.bool false))), none, none⟩]) .ret) .skip)))) (.region [⟨(some 143), (.bin .add (.tmp 125) (.con (.int .i64 1))), none, none⟩, ⟨(some 125), (.mv (.tmp 143)), none, none⟩]))))))))))))))) (.region [⟨(some 144), (.bin .add (.tmp 49) (.con (.int .i64 1))), none, none⟩, ⟨(some 49), (.mv (.tmp 144)), none, none⟩]))))
def blk9 : ACode := match b9 with
  | .seq _ (.seq _ (.seq (.block _ x) _)) => x
  | x => x
def tl9 : ACode := rest 6 blk9
def wrap9 (x : ACode) : ACode := match b9 with
  | .seq a (.seq b (.seq (.block i _) d)) => .seq a (.seq b (.seq (.block i x) d))
  | y => y
theorem b9_cut : b9 = wrap9 (upto 6 blk9 tl9) := by
  have h := cut 6 blk9
  unfold tl9
  rw [← h]
  rfl

theorem tail9 {K : AHeap} {p : Nat} {r : Int} {v hs : AVal} {all : List (Int × Int)} {env : Env} (op : K.obj p = some (.cells [.int .i64 r, hs] true)) (hp : p < K.next) (hv : Sl K 2 v (PS all)) (hvi : ∀ i, i ∈ v.ids → i < K.next)
    (hh : Sl K 2 hs (PS (lastN r.toNat all))) (hhi : ∀ i, i ∈ hs.ids → i < K.next) (hhc : hs = .nils ∨ ∃ a b c d e, hs = .slice a b c d e) (hl : all.length ≤ 8796093021952) (hr : 1 ≤ r ∧ r ≤ 64) (hg : Good all)
    (h0 : env 0 = .int .i64 r) (h5 : env 5 = .ptr p 0) (h7 : env 7 = v) :
    Outs (AX A tl9 env K) fun e env' K' => e = .normal ∧ Keeps K K' ∧ ∀ j, j < 109 → j ≠ 14 → j ≠ 15 → env' j = env j := by
  have hn := lastN_len r.toNat all
  have u35 := U35 (r := r) hh hhi (by omega)
  have c0 := chk0 r (lastN r.toNat all)
  rw [lastN_right hr hg] at c0
  have l1 := PS_alen hh
  have l2 := PS_alen hv
  have emin : (if r < (all.length : Int) then r else (all.length : Int)) = ((lastN r.toNat all).length : Int) := by split <;> omega
  have key : ∀ env2 : Env, env2 5 = .ptr p 0 → env2 7 = v → env2 123 = hs → env2 124 = .int .i64 ((lastN r.toNat all).length : Int) → env2 125 = .int .i64 0 → _ := fun env2 => loop9b (env := env2) op hp hv hvi hh hhi hl hr
  rcases hhc with rfl | ⟨a1, a2, a3, a4, a5, rfl⟩
  · simp only [tl9, blk9, b9, rest, h0, h5, h7, op, u35, c0, l1, l2, emin, Bool.not_true, rwA, rwB, Nat.reduceAdd, Nat.reduceMul, Nat.reduceLeDiff, Int.reduceEq, Int.reduceLT, Int.reduceLE, Int.reduceAdd, Int.reduceSub, Int.reduceMul, ↓reduceIte, Nat.reduceEqDiff, reduceCtorEq, ↓cnd_true, ↓cnd_false]
    repeat (first | refine outs_seq ?_ | refine outs_block ?_ | refine outs_step ?_ | refine outs_stepD ?_ | refine rets_end ?_ | refine ans_end ?_)
    refine (key _ ?_ ?_ ?_ ?_ ?_).mono ?_
    · simp [Env.set, h5]
    · simp [Env.set, h7]
    · simp [Env.set]
    · simp [Env.set]
    · simp [Env.set]
    · rintro e env' K' ⟨rfl, hk, hE⟩
      simp only [outs_some, rwA, rwB, Nat.reduceAdd, Nat.reduceMul, Nat.reduceLeDiff, Int.reduceEq, Int.reduceLT, Int.reduceLE, Int.reduceAdd, Int.reduceSub, Int.reduceMul, ↓reduceIte, Nat.reduceEqDiff, reduceCtorEq, ↓cnd_true, ↓cnd_false]
      refine ⟨trivial, hk, fun j j1 j2 j3 => ?_⟩
      rw [hE j (by omega) j2 j3]
      simp only [Env.set]
      repeat rw [if_neg (by omega)]
  · simp only [tl9, blk9, b9, rest, h0, h5, h7, op, u35, c0, l1, l2, emin, Bool.not_true, rwA, rwB, Nat.reduceAdd, Nat.reduceMul, Nat.reduceLeDiff, Int.reduceEq, Int.reduceLT, Int.reduceLE, Int.reduceAdd, Int.reduceSub, Int.reduceMul, ↓reduceIte, Nat.reduceEqDiff, reduceCtorEq, ↓cnd_true, ↓cnd_false]
    repeat (first | refine outs_seq ?_ | refine outs_block ?_ | refine outs_step ?_ | refine outs_stepD ?_ | refine rets_end ?_ | refine ans_end ?_)
    refine (key _ ?_ ?_ ?_ ?_ ?_).mono ?_
    · simp [Env.set, h5]
    · simp [Env.set, h7]
    · simp [Env.set]
    · simp [Env.set]
    · simp [Env.set]
    · rintro e env' K' ⟨rfl, hk, hE⟩
      simp only [outs_some, rwA, rwB, Nat.reduceAdd, Nat.reduceMul, Nat.reduceLeDiff, Int.reduceEq, Int.reduceLT, Int.reduceLE, Int.reduceAdd, Int.reduceSub, Int.reduceMul, ↓reduceIte, Nat.reduceEqDiff, reduceCtorEq, ↓cnd_true, ↓cnd_false]
      refine ⟨trivial, hk, fun j j1 j2 j3 => ?_⟩
      rw [hE j (by omega) j2 j3]
      simp only [Env.set]
      repeat rw [if_neg (by omega)]

end Go.Proofs.Ytfpbmoiconopcaa.Gh
