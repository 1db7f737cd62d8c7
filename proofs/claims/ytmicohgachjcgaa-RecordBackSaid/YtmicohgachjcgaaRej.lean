/- The getters of the records: ours, the others. -/
import Derived.Test.YtmicohgachjcgaaRei
set_option maxRecDepth 100000
set_option linter.unusedSimpArgs false
set_option linter.unusedVariables false
set_option maxHeartbeats 4000000
namespace Go.Proofs.Ytmicohgachjcgaa.Re
open Go Go.Proofs.Ytmicohgachjcgaa.Am ReFns Go.RowKit

def w4 (n : Nat) : Int := IntKind.u32.wrap (n : Int)
def wi (n : Nat) : Int := IntKind.i64.wrap (n : Int)

/-- A count read. -/
theorem U104 {H : AHeap} {p : Nat} {x : List UInt8 × Int} (h : Rs H p x) :
    ∃ K, AC A 104 [.ptr p 0] H = some (.agg [.int .u32 (w4 (va x 4)), .int .i64 (wi (va (st x 4) 2)), .int .i64 (wi (va (st (st x 4) 2) 2))], K) ∧ Rs K p (steps [4, 2, 2] x) ∧ Kp p H K := by
  obtain ⟨H0, eH0⟩ : ∃ K, H.new (.cells [.int .u32 0, .int .i64 0, .int .i64 0] true) = K := ⟨_, rfl⟩
  have n0 : H0.next = H.next + 1 := by rw [← eH0]; rfl
  have hp := h.2
  have k0 : Kp p H H0 := by rw [← eH0]; exact Kp.new p _ _
  have h0 : Rs H0 p x := ⟨by unfold Rd; rw [← eH0]; simp only [new_obj]; rw [if_neg (by omega)]; exact h.1, by omega⟩
  have o0 : H0.obj H.next = some (.cells [.int .u32 0, .int .i64 0, .int .i64 0] true) := by rw [← eH0]; simp [AHeap.new]
  obtain ⟨K1, u1, r1, x1⟩ := readS h0 4 (by omega)
  have g1 := x1.1
  obtain ⟨K2, eK2⟩ : ∃ K, (K1.new (.cells [.int .u32 0, .int .i64 0, .int .i64 0] true)).set K1.next (.cells [.int .u32 (w4 (va x 4)), .int .i64 0, .int .i64 0] true) = K := ⟨_, rfl⟩
  have n2 : K2.next = K1.next + 1 := by rw [← eK2]; rfl
  have k2 : ∀ i, i < K1.next → K2.obj i = K1.obj i := fun i hi => by rw [← eK2]; simp only [set_obj, new_obj]; rw [if_neg (by omega), if_neg (by omega)]
  have r2 : Rs K2 p (st x 4) := ⟨by unfold Rd; rw [k2 p (by omega)]; exact r1.1, by omega⟩
  have q2 : K2.obj K1.next = some (.cells [.int .u32 (w4 (va x 4)), .int .i64 0, .int .i64 0] true) := by rw [← eK2]; simp [AHeap.set]
  obtain ⟨K3, u3, r3, x3⟩ := readS r2 2 (by omega)
  obtain ⟨K4, u4, r4, x4⟩ := readS r3 2 (by omega)
  have x34 := x3.trans x4
  have g4 := x34.1
  have q4 : K4.obj K1.next = some (.cells [.int .u32 (w4 (va x 4)), .int .i64 0, .int .i64 0] true) := by rw [x34.2 _ (by omega) (by omega)]; exact q2
  obtain ⟨K5, eK5⟩ : ∃ K, K4.set K1.next (.cells [.int .u32 (w4 (va x 4)), .int .i64 (wi (va (st x 4) 2)), .int .i64 (wi (va (st (st x 4) 2) 2))] true) = K := ⟨_, rfl⟩
  have q5 : K5.obj K1.next = some (.cells [.int .u32 (w4 (va x 4)), .int .i64 (wi (va (st x 4) 2)), .int .i64 (wi (va (st (st x 4) 2) 2))] true) := by rw [← eK5]; simp [AHeap.set]
  have o5 : K5.obj H.next = some (.cells [.int .u32 0, .int .i64 0, .int .i64 0] true) := by
    rw [← eK5]; simp only [set_obj]; rw [if_neg (by omega), x34.2 _ (by omega) (by omega), k2 _ (by omega), x1.2 _ (by omega) (by omega)]; exact o0
  have e4 : ((4 : Nat) : Int) = 4 := rfl
  have e2 : ((2 : Nat) : Int) = 2 := rfl
  rw [e4] at u1
  rw [e2] at u3 u4
  refine ⟨K5.set H.next (.cells [.int .u32 (w4 (va x 4)), .int .i64 (wi (va (st x 4) 2)), .int .i64 (wi (va (st (st x 4) 2) 2))] true), ?_, ⟨?_, ?_⟩, ?_⟩
  · have f4 : ∀ n : Nat, IntKind.u32.wrap (n : Int) = w4 n := fun _ => rfl
    have f8 : ∀ n : Nat, IntKind.i64.wrap (n : Int) = wi n := fun _ => rfl
    rw [s_fn (A := A) (f := 104) (x := ReFns.c104) rfl rfl rfl]
    simp only [c104, eH0, u1, f4, eK2, q2, u3, u4, f8, q4, eK5, q5, o5, rwA, rwB, Nat.reduceAdd, Nat.reduceMul, Nat.reduceLeDiff, Int.reduceEq, Int.reduceLT, Int.reduceLE, Int.reduceAdd, Int.reduceSub, Int.reduceMul, ↓reduceIte, Nat.reduceEqDiff, reduceCtorEq, ↓cnd_true, ↓cnd_false]
  · unfold Rd; simp only [set_obj]; rw [if_neg (by omega), ← eK5]; simp only [set_obj]; rw [if_neg (by omega)]; exact r4.1
  · rw [← eK5]; exact r4.2
  · refine ⟨by rw [← eK5]; simp only [set_next]; omega, fun i hi hlt => ?_⟩
    rw [← eK5]
    simp only [set_obj]
    rw [if_neg (by omega), if_neg (by omega), x34.2 i hi (by omega), k2 i (by omega), x1.2 i hi (by omega), k0.2 i hi hlt]

/-- A part's record. -/
def pC (s : List UInt8) : Int := w4 (va (s, 0) 4)
def pA (s : List UInt8) : Int := wi (va (st (s, 0) 4) 2)
def pB (s : List UInt8) : Int := wi (va (st (st (s, 0) 4) 2) 2)
def pFit (s : List UInt8) : Bool := fit (steps [4, 2, 2] (s, 0)) (blobok (pA s) (pB s)) (body (pC s) (pA s) (pB s)) s

theorem U62 (s : List UInt8) (H : AHeap) : AC A 62 [.str s] H = some (.tuple [.agg [.int .u32 (keep (pFit s) (pC s)), .int .i64 (keep (pFit s) (pA s)), .int .i64 (keep (pFit s) (pB s))], .int .i64 (bad (pFit s))], H) := by
  refine one_val (x := ReFns.c62) rfl rfl rfl rfl rfl ?_ H
  obtain ⟨H0, eH0⟩ : ∃ K, (noH.new (.cells [.int .u32 0, .int .i64 0, .int .i64 0] true)).new (rd s 0) = K := ⟨_, rfl⟩
  have n0 : H0.next = 2 := by rw [← eH0]; rfl
  have r0 : Rs H0 1 (s, 0) := ⟨by unfold Rd; rw [← eH0]; simp [AHeap.new, noH, rd], by omega⟩
  have o0 : H0.obj 0 = some (.cells [.int .u32 0, .int .i64 0, .int .i64 0] true) := by rw [← eH0]; simp [AHeap.new, noH]
  obtain ⟨K1, u1, r1, x1⟩ := U104 r0
  have o1 : K1.obj 0 = some (.cells [.int .u32 0, .int .i64 0, .int .i64 0] true) := by rw [x1.2 0 (by omega) (by omega)]; exact o0
  have u2 := U107 r1 (pC s) (pA s) (pB s) s
  have ea : w4 (va (s, 0) 4) = pC s := rfl
  have eb : wi (va (st (s, 0) 4) 2) = pA s := rfl
  have ec : wi (va (st (st (s, 0) 4) 2) 2) = pB s := rfl
  have ef : fit (steps [4, 2, 2] (s, 0)) (blobok (pA s) (pB s)) (body (pC s) (pA s) (pB s)) s = pFit s := rfl
  rw [ea, eb, ec] at u1
  rw [ef] at u2
  simp only [c62, U32, eH0, u1, u2, o1, rwA, rwB, Nat.reduceAdd, Nat.reduceMul, Nat.reduceLeDiff, Int.reduceEq, Int.reduceLT, Int.reduceLE, Int.reduceAdd, Int.reduceSub, Int.reduceMul, ↓reduceIte, Nat.reduceEqDiff, reduceCtorEq, ↓cnd_true, ↓cnd_false]

/-- A key. -/
theorem U60 (s : List UInt8) (H : AHeap) : AC A 60 [.str s] H = some (.tuple [.agg [.str (sure (keyok s) s)], .int .i64 (bad (keyok s))], H) := by
  refine one_val (x := ReFns.c60) rfl rfl rfl rfl rfl ?_ H
  obtain ⟨H0, eH0⟩ : ∃ K, (noH.new (.cells [.str []] true)).new (rd [] 0) = K := ⟨_, rfl⟩
  have n0 : H0.next = 2 := by rw [← eH0]; rfl
  have r0 : Rs H0 1 ([], 0) := ⟨by unfold Rd; rw [← eH0]; simp [AHeap.new, noH, rd], by omega⟩
  have o0 : H0.obj 0 = some (.cells [.str []] true) := by rw [← eH0]; simp [AHeap.new, noH]
  have u2 := U106 r0 s s
  have ef : fit ([], 0) (keyok s) s s = keyok s := by
    unfold fit
    have : decide (ending [] 0 = 0) = true := rfl
    simp only [this, decide_true, Bool.and_true, Bool.true_and]
  rw [ef] at u2
  simp only [c60, U32, eH0, u2, o0, rwA, rwB, Nat.reduceAdd, Nat.reduceMul, Nat.reduceLeDiff, Int.reduceEq, Int.reduceLT, Int.reduceLE, Int.reduceAdd, Int.reduceSub, Int.reduceMul, ↓reduceIte, Nat.reduceEqDiff, reduceCtorEq, ↓cnd_true, ↓cnd_false]

end Go.Proofs.Ytmicohgachjcgaa.Re
