/- The getters of the records: ours. -/
import Derived.Test.YtmicohgachjcgaaReg
set_option maxRecDepth 100000
set_option linter.unusedSimpArgs false
set_option linter.unusedVariables false
set_option maxHeartbeats 4000000
namespace Go.Proofs.Ytmicohgachjcgaa.Re
open Go Go.Proofs.Ytmicohgachjcgaa.Am ReFns Go.RowKit

/-- A tenant's record, as a reader's steps give it. -/
def tA (s : List UInt8) : Int := i8 (va (s, 0) 8) 1
def tB (s : List UInt8) : Int := i8 (va (st (s, 0) 8) 8) 1
def tC (s : List UInt8) : Int := i8 (va (st (st (s, 0) 8) 8) 8) 0
def tD (s : List UInt8) : Int := i8 (va (st (st (st (s, 0) 8) 8) 8) 8) 0
def tFit (s : List UInt8) : Bool := fit (steps [8, 8, 8, 8] (s, 0)) (rightc (tA s) (tB s) (tC s) (tD s)) (pc (tA s) (tB s) (tC s) (tD s)) s

theorem U54 (s : List UInt8) (H : AHeap) : AC A 54 [.str s] H = some (.tuple [.agg [.int .i64 (keep (tFit s) (tA s)), .int .i64 (keep (tFit s) (tB s)), .int .i64 (keep (tFit s) (tC s)), .int .i64 (keep (tFit s) (tD s))], .int .i64 (bad (tFit s))], H) := by
  refine one_val (x := ReFns.c54) rfl rfl rfl rfl rfl ?_ H
  obtain ⟨H0, eH0⟩ : ∃ K, (noH.new (.cells [.int .i64 0, .int .i64 0, .int .i64 0, .int .i64 0] true)).new (rd s 0) = K := ⟨_, rfl⟩
  have n0 : H0.next = 2 := by rw [← eH0]; rfl
  have r0 : Rs H0 1 (s, 0) := ⟨by unfold Rd; rw [← eH0]; simp [AHeap.new, noH, rd], by omega⟩
  have o0 : H0.obj 0 = some (.cells [.int .i64 0, .int .i64 0, .int .i64 0, .int .i64 0] true) := by rw [← eH0]; simp [AHeap.new, noH]
  obtain ⟨K1, u1, r1, x1⟩ := U99 r0 1
  have g1 := x1.1
  obtain ⟨K2, eK2⟩ : ∃ K, (K1.new (.cells [.int .i64 0, .int .i64 0, .int .i64 0, .int .i64 0] true)).set K1.next (.cells [.int .i64 (tA s), .int .i64 (tB s), .int .i64 0, .int .i64 0] true) = K := ⟨_, rfl⟩
  have n2 : K2.next = K1.next + 1 := by rw [← eK2]; rfl
  have k2 : ∀ i, i < K1.next → K2.obj i = K1.obj i := fun i hi => by rw [← eK2]; simp only [set_obj, new_obj]; rw [if_neg (by omega), if_neg (by omega)]
  have r2 : Rs K2 1 (st (st (s, 0) 8) 8) := ⟨by unfold Rd; rw [k2 1 (by omega)]; exact r1.1, by omega⟩
  have q2 : K2.obj K1.next = some (.cells [.int .i64 (tA s), .int .i64 (tB s), .int .i64 0, .int .i64 0] true) := by rw [← eK2]; simp [AHeap.set]
  obtain ⟨K3, u3, r3, x3⟩ := U99 r2 0
  have g3 := x3.1
  have q3 : K3.obj K1.next = some (.cells [.int .i64 (tA s), .int .i64 (tB s), .int .i64 0, .int .i64 0] true) := by rw [x3.2 _ (by omega) (by omega)]; exact q2
  obtain ⟨K4, eK4⟩ : ∃ K, K3.set K1.next (.cells [.int .i64 (tA s), .int .i64 (tB s), .int .i64 (tC s), .int .i64 (tD s)] true) = K := ⟨_, rfl⟩
  have q4 : K4.obj K1.next = some (.cells [.int .i64 (tA s), .int .i64 (tB s), .int .i64 (tC s), .int .i64 (tD s)] true) := by rw [← eK4]; simp [AHeap.set]
  have r4 : Rs K4 1 (steps [8, 8, 8, 8] (s, 0)) := ⟨by unfold Rd; rw [← eK4]; simp only [set_obj]; rw [if_neg (by omega)]; exact r3.1, by rw [← eK4]; exact r3.2⟩
  have o4 : K4.obj 0 = some (.cells [.int .i64 0, .int .i64 0, .int .i64 0, .int .i64 0] true) := by
    rw [← eK4]; simp only [set_obj]; rw [if_neg (by omega), x3.2 0 (by omega) (by omega), k2 0 (by omega), x1.2 0 (by omega) (by omega)]; exact o0
  have u4 := U100 r4 (tA s) (tB s) (tC s) (tD s) s
  have ea : i8 (va (s, 0) 8) 1 = tA s := rfl
  have eb : i8 (va (st (s, 0) 8) 8) 1 = tB s := rfl
  have ec : i8 (va (st (st (s, 0) 8) 8) 8) 0 = tC s := rfl
  have ed : i8 (va (st (st (st (s, 0) 8) 8) 8) 8) 0 = tD s := rfl
  rw [ea, eb] at u1
  rw [ec, ed] at u3
  have ef : fit (steps [8, 8, 8, 8] (s, 0)) (rightc (tA s) (tB s) (tC s) (tD s)) (pc (tA s) (tB s) (tC s) (tD s)) s = tFit s := rfl
  rw [ef] at u4
  simp only [c54, U32, eH0, u1, eK2, q2, u3, q3, eK4, q4, u4, o4, rwA, rwB, Nat.reduceAdd, Nat.reduceMul, Nat.reduceLeDiff, Int.reduceEq, Int.reduceLT, Int.reduceLE, Int.reduceAdd, Int.reduceSub, Int.reduceMul, ↓reduceIte, Nat.reduceEqDiff, reduceCtorEq, ↓cnd_true, ↓cnd_false]

end Go.Proofs.Ytmicohgachjcgaa.Re
