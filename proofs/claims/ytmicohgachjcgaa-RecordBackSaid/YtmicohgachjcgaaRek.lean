/- The getters of the records: a bucket's, a version's. -/
import Derived.Test.YtmicohgachjcgaaRej
set_option maxRecDepth 100000
set_option linter.unusedSimpArgs false
set_option linter.unusedVariables false
set_option maxHeartbeats 4000000
namespace Go.Proofs.Ytmicohgachjcgaa.Re
open Go Go.Proofs.Ytmicohgachjcgaa.Am ReFns Go.RowKit

def bS (s : List UInt8) : List UInt8 × Int := st (s, 0) 1
def bK (s : List UInt8) : Int := wi (va (s, 0) 1)
def bA (s : List UInt8) : Int := i8 (va (bS s) 8) 1
def bB (s : List UInt8) : Int := i8 (va (st (bS s) 8) 8) 1
def bC (s : List UInt8) : Int := i8 (va (st (st (bS s) 8) 8) 8) 0
def bD (s : List UInt8) : Int := i8 (va (st (st (st (bS s) 8) 8) 8) 8) 0
def bN (s : List UInt8) : Nat := va (st (st (st (st (bS s) 8) 8) 8) 8) 8
def bFit (s : List UInt8) : Bool := fit (steps [1, 8, 8, 8, 8, 8] (s, 0)) (bok (bK s) (bA s) (bB s) (bC s) (bD s)) (bval (bK s) (bA s) (bB s) (bC s) (bD s) (bN s)) s

theorem U56 (s : List UInt8) (H : AHeap) : AC A 56 [.str s] H = some (.tuple [.agg [.int .i64 (keep (bFit s) (bK s)), .int .i64 (keep (bFit s) (bA s)), .int .i64 (keep (bFit s) (bB s)), .int .i64 (keep (bFit s) (bC s)), .int .i64 (keep (bFit s) (bD s)), .int .u64 (keep (bFit s) (bN s : Int))], .int .i64 (bad (bFit s))], H) := by
  refine one_val (x := ReFns.c56) rfl rfl rfl rfl rfl ?_ H
  obtain ⟨H0, eH0⟩ : ∃ K, (noH.new (.cells [.int .i64 0, .int .i64 0, .int .i64 0, .int .i64 0, .int .i64 0, .int .u64 0] true)).new (rd s 0) = K := ⟨_, rfl⟩
  have n0 : H0.next = 2 := by rw [← eH0]; rfl
  have r0 : Rs H0 1 (s, 0) := ⟨by unfold Rd; rw [← eH0]; simp [AHeap.new, noH, rd], by omega⟩
  have o0 : H0.obj 0 = some (.cells [.int .i64 0, .int .i64 0, .int .i64 0, .int .i64 0, .int .i64 0, .int .u64 0] true) := by rw [← eH0]; simp [AHeap.new, noH]
  obtain ⟨Ka, ua, ra, xa⟩ := readS r0 1 (by omega)
  obtain ⟨K1, u1, r1, xb⟩ := U99 ra 1
  have x1 := xa.trans xb
  have g1 := x1.1
  obtain ⟨K2, eK2⟩ : ∃ K, (K1.new (.cells [.int .i64 0, .int .i64 0, .int .i64 0, .int .i64 0, .int .i64 0, .int .u64 0] true)).set K1.next (.cells [.int .i64 (bK s), .int .i64 (bA s), .int .i64 (bB s), .int .i64 0, .int .i64 0, .int .u64 0] true) = K := ⟨_, rfl⟩
  have n2 : K2.next = K1.next + 1 := by rw [← eK2]; rfl
  have k2 : ∀ i, i < K1.next → K2.obj i = K1.obj i := fun i hi => by rw [← eK2]; simp only [set_obj, new_obj]; rw [if_neg (by omega), if_neg (by omega)]
  have r2 : Rs K2 1 (st (st (bS s) 8) 8) := ⟨by unfold Rd; rw [k2 1 (by omega)]; exact r1.1, by omega⟩
  have q2 : K2.obj K1.next = some (.cells [.int .i64 (bK s), .int .i64 (bA s), .int .i64 (bB s), .int .i64 0, .int .i64 0, .int .u64 0] true) := by rw [← eK2]; simp [AHeap.set]
  obtain ⟨K3, u3, r3, x3⟩ := U99 r2 0
  have g3 := x3.1
  have q3 : K3.obj K1.next = some (.cells [.int .i64 (bK s), .int .i64 (bA s), .int .i64 (bB s), .int .i64 0, .int .i64 0, .int .u64 0] true) := by rw [x3.2 _ (by omega) (by omega)]; exact q2
  obtain ⟨K4, eK4⟩ : ∃ K, K3.set K1.next (.cells [.int .i64 (bK s), .int .i64 (bA s), .int .i64 (bB s), .int .i64 (bC s), .int .i64 (bD s), .int .u64 0] true) = K := ⟨_, rfl⟩
  have n4 : K4.next = K3.next := by rw [← eK4]; rfl
  have q4 : K4.obj K1.next = some (.cells [.int .i64 (bK s), .int .i64 (bA s), .int .i64 (bB s), .int .i64 (bC s), .int .i64 (bD s), .int .u64 0] true) := by rw [← eK4]; simp [AHeap.set]
  have r4 : Rs K4 1 (st (st (st (st (bS s) 8) 8) 8) 8) := ⟨by unfold Rd; rw [← eK4]; simp only [set_obj]; rw [if_neg (by omega)]; exact r3.1, by rw [← eK4]; exact r3.2⟩
  obtain ⟨K5, u5, r5, x5⟩ := readS r4 8 (by omega)
  have g5 := x5.1
  have q5 : K5.obj K1.next = some (.cells [.int .i64 (bK s), .int .i64 (bA s), .int .i64 (bB s), .int .i64 (bC s), .int .i64 (bD s), .int .u64 0] true) := by rw [x5.2 _ (by omega) (by omega)]; exact q4
  obtain ⟨K6, eK6⟩ : ∃ K, K5.set K1.next (.cells [.int .i64 (bK s), .int .i64 (bA s), .int .i64 (bB s), .int .i64 (bC s), .int .i64 (bD s), .int .u64 (bN s : Int)] true) = K := ⟨_, rfl⟩
  have q6 : K6.obj K1.next = some (.cells [.int .i64 (bK s), .int .i64 (bA s), .int .i64 (bB s), .int .i64 (bC s), .int .i64 (bD s), .int .u64 (bN s : Int)] true) := by rw [← eK6]; simp [AHeap.set]
  have r6 : Rs K6 1 (steps [1, 8, 8, 8, 8, 8] (s, 0)) := ⟨by unfold Rd; rw [← eK6]; simp only [set_obj]; rw [if_neg (by omega)]; exact r5.1, by rw [← eK6]; exact r5.2⟩
  have o6 : K6.obj 0 = some (.cells [.int .i64 0, .int .i64 0, .int .i64 0, .int .i64 0, .int .i64 0, .int .u64 0] true) := by
    rw [← eK6]; simp only [set_obj]; rw [if_neg (by omega), x5.2 0 (by omega) (by omega), ← eK4]; simp only [set_obj]; rw [if_neg (by omega), x3.2 0 (by omega) (by omega), k2 0 (by omega), x1.2 0 (by omega) (by omega)]; exact o0
  have u7 := U102 r6 (bK s) (bA s) (bB s) (bC s) (bD s) (bN s) s
  have ea : i8 (va (bS s) 8) 1 = bA s := rfl
  have eb : i8 (va (st (bS s) 8) 8) 1 = bB s := rfl
  have ec : i8 (va (st (st (bS s) 8) 8) 8) 0 = bC s := rfl
  have ed : i8 (va (st (st (st (bS s) 8) 8) 8) 8) 0 = bD s := rfl
  have en : va (st (st (st (st (bS s) 8) 8) 8) 8) 8 = bN s := rfl
  have ek : IntKind.i64.wrap (va (s, 0) 1 : Int) = bK s := rfl
  have e1 : ((1 : Nat) : Int) = 1 := rfl
  have e8 : ((8 : Nat) : Int) = 8 := rfl
  have eS : st (s, 0) 1 = bS s := rfl
  rw [e1] at ua
  rw [eS, ea, eb] at u1
  rw [ec, ed] at u3
  rw [e8, en] at u5
  have ef : fit (steps [1, 8, 8, 8, 8, 8] (s, 0)) (bok (bK s) (bA s) (bB s) (bC s) (bD s)) (bval (bK s) (bA s) (bB s) (bC s) (bD s) (bN s)) s = bFit s := rfl
  rw [ef] at u7
  simp only [c56, U32, eH0, ua, ek, u1, eK2, q2, u3, q3, eK4, q4, u5, q5, eK6, q6, u7, o6, rwA, rwB, Nat.reduceAdd, Nat.reduceMul, Nat.reduceLeDiff, Int.reduceEq, Int.reduceLT, Int.reduceLE, Int.reduceAdd, Int.reduceSub, Int.reduceMul, ↓reduceIte, Nat.reduceEqDiff, reduceCtorEq, ↓cnd_true, ↓cnd_false]

/-- A version's record. -/
def vS (s : List UInt8) : List UInt8 × Int := st (st (s, 0) 8) 1
def vN (s : List UInt8) : Nat := va (s, 0) 8
def vM (s : List UInt8) : Bool := decide ((va (st (s, 0) 8) 1 : Int) = 1)
def vC (s : List UInt8) : Int := w4 (va (vS s) 4)
def vA (s : List UInt8) : Int := wi (va (st (vS s) 4) 2)
def vB (s : List UInt8) : Int := wi (va (st (st (vS s) 4) 2) 2)
def vFit (s : List UInt8) : Bool := fit (steps [8, 1, 4, 2, 2] (s, 0)) (vok (vM s) (vC s) (vA s) (vB s)) (vval (vN s) (vM s) (vC s) (vA s) (vB s)) s

theorem U58 (s : List UInt8) (H : AHeap) : AC A 58 [.str s] H = some (.tuple [.agg [.int .u64 (keep (vFit s) (vN s : Int)), .bool (keepb (vFit s) (vM s)), .int .u32 (keep (vFit s) (vC s)), .int .i64 (keep (vFit s) (vA s)), .int .i64 (keep (vFit s) (vB s))], .int .i64 (bad (vFit s))], H) := by
  refine one_val (x := ReFns.c58) rfl rfl rfl rfl rfl ?_ H
  obtain ⟨H0, eH0⟩ : ∃ K, (noH.new (.cells [.int .u64 0, .bool false, .int .u32 0, .int .i64 0, .int .i64 0] true)).new (rd s 0) = K := ⟨_, rfl⟩
  have n0 : H0.next = 2 := by rw [← eH0]; rfl
  have r0 : Rs H0 1 (s, 0) := ⟨by unfold Rd; rw [← eH0]; simp [AHeap.new, noH, rd], by omega⟩
  have o0 : H0.obj 0 = some (.cells [.int .u64 0, .bool false, .int .u32 0, .int .i64 0, .int .i64 0] true) := by rw [← eH0]; simp [AHeap.new, noH]
  obtain ⟨Ka, ua, ra, xa⟩ := readS r0 8 (by omega)
  obtain ⟨K1, u1, r1, xb⟩ := readS ra 1 (by omega)
  have x1 := xa.trans xb
  have g1 := x1.1
  obtain ⟨K2, eK2⟩ : ∃ K, (K1.new (.cells [.int .u64 0, .bool false, .int .u32 0, .int .i64 0, .int .i64 0] true)).set K1.next (.cells [.int .u64 (vN s : Int), .bool (vM s), .int .u32 0, .int .i64 0, .int .i64 0] true) = K := ⟨_, rfl⟩
  have n2 : K2.next = K1.next + 1 := by rw [← eK2]; rfl
  have k2 : ∀ i, i < K1.next → K2.obj i = K1.obj i := fun i hi => by rw [← eK2]; simp only [set_obj, new_obj]; rw [if_neg (by omega), if_neg (by omega)]
  have r2 : Rs K2 1 (vS s) := ⟨by unfold Rd; rw [k2 1 (by omega)]; exact r1.1, by omega⟩
  have q2 : K2.obj K1.next = some (.cells [.int .u64 (vN s : Int), .bool (vM s), .int .u32 0, .int .i64 0, .int .i64 0] true) := by rw [← eK2]; simp [AHeap.set]
  obtain ⟨K3, u3, r3, x3⟩ := U104 r2
  have g3 := x3.1
  obtain ⟨K4, eK4⟩ : ∃ K, (K3.new (.cells [.int .u32 0, .int .i64 0, .int .i64 0] true)).set K3.next (.cells [.int .u32 (vC s), .int .i64 (vA s), .int .i64 (vB s)] true) = K := ⟨_, rfl⟩
  have n4 : K4.next = K3.next + 1 := by rw [← eK4]; rfl
  have k4 : ∀ i, i < K3.next → K4.obj i = K3.obj i := fun i hi => by rw [← eK4]; simp only [set_obj, new_obj]; rw [if_neg (by omega), if_neg (by omega)]
  have q4 : K4.obj K1.next = some (.cells [.int .u64 (vN s : Int), .bool (vM s), .int .u32 0, .int .i64 0, .int .i64 0] true) := by rw [k4 _ (by omega), x3.2 _ (by omega) (by omega)]; exact q2
  have p4 : K4.obj K3.next = some (.cells [.int .u32 (vC s), .int .i64 (vA s), .int .i64 (vB s)] true) := by rw [← eK4]; simp [AHeap.set]
  obtain ⟨K5, eK5⟩ : ∃ K, K4.set K1.next (.cells [.int .u64 (vN s : Int), .bool (vM s), .int .u32 (vC s), .int .i64 0, .int .i64 0] true) = K := ⟨_, rfl⟩
  have q5 : K5.obj K1.next = some (.cells [.int .u64 (vN s : Int), .bool (vM s), .int .u32 (vC s), .int .i64 0, .int .i64 0] true) := by rw [← eK5]; simp [AHeap.set]
  have p5 : K5.obj K3.next = some (.cells [.int .u32 (vC s), .int .i64 (vA s), .int .i64 (vB s)] true) := by rw [← eK5]; simp only [set_obj]; rw [if_neg (by omega)]; exact p4
  obtain ⟨K6, eK6⟩ : ∃ K, K5.set K1.next (.cells [.int .u64 (vN s : Int), .bool (vM s), .int .u32 (vC s), .int .i64 (vA s), .int .i64 (vB s)] true) = K := ⟨_, rfl⟩
  have q6 : K6.obj K1.next = some (.cells [.int .u64 (vN s : Int), .bool (vM s), .int .u32 (vC s), .int .i64 (vA s), .int .i64 (vB s)] true) := by rw [← eK6]; simp [AHeap.set]
  have o46 : ∀ i, i ≠ K1.next → K6.obj i = K4.obj i := fun i hi => by rw [← eK6, ← eK5]; simp only [set_obj]; rw [if_neg hi, if_neg hi]
  have r6 : Rs K6 1 (steps [8, 1, 4, 2, 2] (s, 0)) := ⟨by unfold Rd; rw [o46 1 (by omega), k4 1 (by omega)]; exact r3.1, by rw [← eK6, ← eK5]; simp only [set_next]; omega⟩
  have o6 : K6.obj 0 = some (.cells [.int .u64 0, .bool false, .int .u32 0, .int .i64 0, .int .i64 0] true) := by
    rw [o46 0 (by omega), k4 0 (by omega), x3.2 0 (by omega) (by omega), k2 0 (by omega), x1.2 0 (by omega) (by omega)]; exact o0
  have u7 := U105 r6 (vN s) (vM s) (vC s) (vA s) (vB s) s
  have ea : w4 (va (vS s) 4) = vC s := rfl
  have eb : wi (va (st (vS s) 4) 2) = vA s := rfl
  have ec : wi (va (st (st (vS s) 4) 2) 2) = vB s := rfl
  have en : va (s, 0) 8 = vN s := rfl
  have em : decide ((va (st (s, 0) 8) 1 : Int) = 1) = vM s := rfl
  have e1 : ((1 : Nat) : Int) = 1 := rfl
  have e8 : ((8 : Nat) : Int) = 8 := rfl
  rw [e8, en] at ua
  rw [e1] at u1
  rw [ea, eb, ec] at u3
  have ef : fit (steps [8, 1, 4, 2, 2] (s, 0)) (vok (vM s) (vC s) (vA s) (vB s)) (vval (vN s) (vM s) (vC s) (vA s) (vB s)) s = vFit s := rfl
  rw [ef] at u7
  simp only [c58, U32, eH0, ua, u1, em, eK2, q2, u3, eK4, q4, p4, eK5, q5, p5, eK6, q6, u7, o6, rwA, rwB, Nat.reduceAdd, Nat.reduceMul, Nat.reduceLeDiff, Int.reduceEq, Int.reduceLT, Int.reduceLE, Int.reduceAdd, Int.reduceSub, Int.reduceMul, ↓reduceIte, Nat.reduceEqDiff, reduceCtorEq, ↓cnd_true, ↓cnd_false]

end Go.Proofs.Ytmicohgachjcgaa.Re
