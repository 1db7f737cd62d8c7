/- The sectors: the reference's opening; homes; what lives() asks. -/
import Derived.Test.YtilhjcnkaelheaaSed
set_option maxRecDepth 100000
set_option linter.unusedSimpArgs false
set_option linter.unusedVariables false
set_option maxHeartbeats 4000000
namespace Go.Proofs.Ytilhjcnkaelheaa.Sd
open Go Go.Proofs.Ytilhjcnkaelheaa.Am DnFns Go.RowKit

theorem wid2 : wid 2 = 2 := rfl
theorem wid8 : wid 8 = 8 := rfl
theorem be_at {b : List UInt8} {k w : Nat} (h : k + w ≤ b.length) : be (raw (b.drop k) 0 (w : Int)).2.2 = wd b k w := va_at h
theorem wd1 {b : List UInt8} (h : 1 ≤ b.length) : wd b 0 1 = (b[0]).toNat := by
  unfold wd
  rw [if_neg (by omega)]
  match b, h with
  | c :: l, _ => simp [be]

/-! ### Where a page belongs -/
def noughts (n : Nat) : List UInt8 := List.replicate n 0
theorem pad512 : pad [] 512 = noughts 512 := by unfold pad; rw [if_neg (by simp)]; rfl
theorem pad480 : pad [] 480 = noughts 480 := by unfold pad; rw [if_neg (by simp)]; rfl
theorem U44 (H : AHeap) : AC A 44 [] H = some (.str (noughts 512), H) := by
  refine one_val (x := DnFns.c44) rfl rfl rfl rfl rfl ?_ H
  simp only [c44, U60, pad512, rwA, rwB, Nat.reduceAdd, Nat.reduceMul, Nat.reduceLeDiff, Int.reduceEq, Int.reduceLT, Int.reduceLE, Int.reduceAdd, Int.reduceSub, Int.reduceMul, ↓reduceIte, Nat.reduceEqDiff, reduceCtorEq, ↓cnd_true, ↓cnd_false]
theorem U52a (H : AHeap) : AC A 52 [.int .i64 512] H = some (.str (noughts 512), H) := by
  refine one_val (x := DnFns.c52) rfl rfl rfl rfl rfl ?_ H
  simp only [c52, U67, pad512, rwA, rwB, Nat.reduceAdd, Nat.reduceMul, Nat.reduceLeDiff, Int.reduceEq, Int.reduceLT, Int.reduceLE, Int.reduceAdd, Int.reduceSub, Int.reduceMul, ↓reduceIte, Nat.reduceEqDiff, reduceCtorEq, ↓cnd_true, ↓cnd_false]
theorem U52b (H : AHeap) : AC A 52 [.int .i64 480] H = some (.str (noughts 480), H) := by
  refine one_val (x := DnFns.c52) rfl rfl rfl rfl rfl ?_ H
  simp only [c52, U67, pad480, rwA, rwB, Nat.reduceAdd, Nat.reduceMul, Nat.reduceLeDiff, Int.reduceEq, Int.reduceLT, Int.reduceLE, Int.reduceAdd, Int.reduceSub, Int.reduceMul, ↓reduceIte, Nat.reduceEqDiff, reduceCtorEq, ↓cnd_true, ↓cnd_false]
theorem all_noughts (t : List UInt8) : t.all (· == 0) = true ↔ t = noughts t.length := by
  unfold noughts
  rw [List.eq_replicate_iff, List.all_eq_true]
  simp

def homes (a : Int) (t : List UInt8) : Bool := short a && decide (t = noughts 480)
def home (a : Int) (t : List UInt8) : List UInt8 := if homes a t then noughts 512 else Sec.sealb ⟨4, 0, 0, a, 0, t⟩
def homeno (a : Int) (t : List UInt8) : Int := if homes a t then 0 else Sec.no ⟨4, 0, 0, a, 0, t⟩
theorem homes_is (a : Int) (t : List UInt8) : (Sec.ok ⟨4, 0, 0, a, 0, t⟩ && t.all (· == 0)) = homes a t := by
  have h4 : decide ((0 : Int) < 4) = true := rfl
  have h5 : decide ((4 : Int) < 5) = true := rfl
  have h0 : short 0 = true := rfl
  unfold homes Sec.ok
  simp only [h4, h5, h0, Bool.true_and, Bool.and_true]
  rw [Bool.and_assoc]
  congr 1
  rw [Bool.eq_iff_iff]
  simp only [Bool.and_eq_true, decide_eq_true_eq, all_noughts]
  constructor
  · rintro ⟨h1, h2⟩
    rw [h1] at h2
    exact h2
  · intro h
    have hl : t.length = 480 := by rw [h]; simp [noughts]
    exact ⟨hl, by rw [hl]; exact h⟩

theorem U41 (a : Int) (t : List UInt8) (H : AHeap) : AC A 41 [.int .i64 a, .str t] H = some (.tuple [.str (home a t), .int .i64 (homeno a t)], H) := by
  refine one_val (x := DnFns.c41) rfl rfl rfl rfl rfl ?_ H
  have hh := homes_is a t
  have u16 := U61 4 0 0 a 0 t
  have u11 := U63 4 0 0 a 0 t
  have z : (((0 : Nat)) : Int) = 0 := rfl
  rw [z] at u16 u11
  unfold home homeno
  rw [← hh]
  have hn : Sec.no ⟨4, 0, 0, a, 0, t⟩ = if Sec.ok ⟨4, 0, 0, a, 0, t⟩ then 0 else 18 := rfl
  cases c1 : Sec.ok ⟨4, 0, 0, a, 0, t⟩
  · rw [c1] at hn
    have hn : Sec.no ⟨4, 0, 0, a, 0, t⟩ = 18 := hn
    simp only [c41, u16, u11, hn, rwA, rwB, Nat.reduceAdd, Nat.reduceMul, Nat.reduceLeDiff, Int.reduceEq, Int.reduceLT, Int.reduceLE, Int.reduceAdd, Int.reduceSub, Int.reduceMul, ↓reduceIte, Nat.reduceEqDiff, reduceCtorEq, ↓cnd_true, ↓cnd_false]
    try rfl
  · rw [c1] at hn
    have hn : Sec.no ⟨4, 0, 0, a, 0, t⟩ = 0 := hn
    cases c2 : t.all (· == 0)
    · simp only [c41, u16, u11, hn, U62, c2, rwA, rwB, Nat.reduceAdd, Nat.reduceMul, Nat.reduceLeDiff, Int.reduceEq, Int.reduceLT, Int.reduceLE, Int.reduceAdd, Int.reduceSub, Int.reduceMul, ↓reduceIte, Nat.reduceEqDiff, reduceCtorEq, ↓cnd_true, ↓cnd_false]
      try rfl
    · simp only [c41, u16, hn, U62, c2, U44, rwA, rwB, Nat.reduceAdd, Nat.reduceMul, Nat.reduceLeDiff, Int.reduceEq, Int.reduceLT, Int.reduceLE, Int.reduceAdd, Int.reduceSub, Int.reduceMul, ↓reduceIte, Nat.reduceEqDiff, reduceCtorEq, ↓cnd_true, ↓cnd_false]
      try rfl

def isHome (s : Sec) (g : Int) : Bool := (((decide (s.kind = 4) && decide ((s.epoch : Int) = 0)) && decide ((s.number : Int) = 0)) && decide (s.at' = g)) && decide (s.many = 0)
def ofHome (b : List UInt8) (g : Int) : List UInt8 := if decide (b = noughts 512) then noughts 480 else if (decide (unfit b = 0) && isHome (opened b) g) then (opened b).page else []
def ofNo (b : List UInt8) (g : Int) : Int := if decide (b = noughts 512) then 0 else if (decide (unfit b = 0) && isHome (opened b) g) then 0 else 19

theorem U42 (b : List UInt8) (g : Int) (H : AHeap) : AC A 42 [.str b, .int .i64 g] H = some (.tuple [.str (ofHome b g), .int .i64 (ofNo b g)], H) := by
  refine one_val (x := DnFns.c42) rfl rfl rfl rfl rfl ?_ H
  unfold ofHome ofNo
  have v14 := U64 b
  have dp : ∀ p : List UInt8, decide (p = p) = true := fun p => by simp
  cases c1 : decide (b = noughts 512)
  · cases ho : opened b with
    | mk k e n a m p =>
      rw [ho] at v14
      simp only [Sec.cells] at v14
      unfold isHome
      generalize (e : Int) = e at *
      generalize (n : Int) = n at *
      generalize unfit b = w at *
      cases c2 : decide (w = 0)
      · simp only [c42, c1, v14, c2, U44, rwA, rwB, Nat.reduceAdd, Nat.reduceMul, Nat.reduceLeDiff, Int.reduceEq, Int.reduceLT, Int.reduceLE, Int.reduceAdd, Int.reduceSub, Int.reduceMul, ↓reduceIte, Nat.reduceEqDiff, reduceCtorEq, ↓cnd_true, ↓cnd_false]
        try rfl
      · cases d1 : decide (k = 4) <;> cases d2 : decide (e = 0) <;> cases d3 : decide (n = 0) <;> cases d4 : decide (a = g) <;> cases d5 : decide (m = 0) <;> simp only [c42, c1, v14, c2, U44, d1, d2, d3, d4, d5, dp, Bool.false_and, Bool.true_and, Bool.and_false, rwA, rwB, Nat.reduceAdd, Nat.reduceMul, Nat.reduceLeDiff, Int.reduceEq, Int.reduceLT, Int.reduceLE, Int.reduceAdd, Int.reduceSub, Int.reduceMul, ↓reduceIte, Nat.reduceEqDiff, reduceCtorEq, ↓cnd_true, ↓cnd_false] <;> rfl
  · simp only [c42, c1, U44, U60, pad480, rwA, rwB, Nat.reduceAdd, Nat.reduceMul, Nat.reduceLeDiff, Int.reduceEq, Int.reduceLT, Int.reduceLE, Int.reduceAdd, Int.reduceSub, Int.reduceMul, ↓reduceIte, Nat.reduceEqDiff, reduceCtorEq, ↓cnd_true, ↓cnd_false]
    try rfl

/-! ### A page of one byte -/
end Go.Proofs.Ytilhjcnkaelheaa.Sd
