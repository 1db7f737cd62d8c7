/- The sectors: what each function answers. -/
import Derived.Test.YtilhjcnkaelheaaSea
set_option maxRecDepth 100000
set_option linter.unusedSimpArgs false
set_option linter.unusedVariables false
set_option maxHeartbeats 4000000
namespace Go.Proofs.Ytilhjcnkaelheaa.Sd
open Go Go.Proofs.Ytilhjcnkaelheaa.Am DnFns Go.RowKit

theorem U72 (x : Int) (H : AHeap) : AC A 72 [.int .i64 x] H = some (.bool (short x), H) := by
  refine one_val (x := DnFns.c72) rfl rfl rfl rfl rfl ?_ H
  unfold short
  cases c1 : decide (0 ≤ x) <;> simp only [c72, c1, rwA, rwB, Nat.reduceAdd, Nat.reduceMul, Nat.reduceLeDiff, Int.reduceEq, Int.reduceLT, Int.reduceLE, Int.reduceAdd, Int.reduceSub, Int.reduceMul, ↓reduceIte, Nat.reduceEqDiff, reduceCtorEq, ↓cnd_true, ↓cnd_false] <;> simp

theorem ng1 (k : Int) : decide (k ≤ 0) = !decide (0 < k) := by rw [Bool.eq_iff_iff]; simp
theorem ng2 (k : Int) : decide (5 ≤ k) = !decide (k < 5) := by rw [Bool.eq_iff_iff]; simp
theorem ng3 (k : Int) : decide (1 ≤ k) = decide (0 < k) := by rw [Bool.eq_iff_iff]; simp; omega
theorem ng4 (k : Int) : decide (k ≤ 4) = decide (k < 5) := by rw [Bool.eq_iff_iff]; simp; omega
theorem ngl (p : List UInt8) (n : Nat) : decide ((p.length : Int) = (n : Int)) = decide (p.length = n) := by rw [Bool.eq_iff_iff]; simp; omega
theorem ngl480 (p : List UInt8) : decide ((p.length : Int) = 480) = decide (p.length = 480) := ngl p 480

theorem U61 (k : Int) (e : Nat) (n : Nat) (a : Int) (m : Int) (p : List UInt8) (H : AHeap) : AC A 61 [.agg [.int .i64 k, .int .u64 (e : Int), .int .u64 (n : Int), .int .i64 a, .int .i64 m, .str p]] H = some (.int .i64 (Sec.no ⟨k, e, n, a, m, p⟩), H) := by
  refine one_val (x := DnFns.c61) rfl rfl rfl rfl rfl ?_ H
  unfold Sec.no Sec.ok
  cases c1 : decide (0 < k) <;> cases c2 : decide (k < 5) <;> cases c3 : short a <;> cases c4 : short m <;> cases c5 : decide (p.length = 480) <;> simp only [c61, ng1, ng2, ngl480, c1, c2, c3, c4, c5, U72, rwA, rwB, Nat.reduceAdd, Nat.reduceMul, Nat.reduceLeDiff, Int.reduceEq, Int.reduceLT, Int.reduceLE, Int.reduceAdd, Int.reduceSub, Int.reduceMul, ↓reduceIte, Nat.reduceEqDiff, reduceCtorEq, ↓cnd_true, ↓cnd_false] <;> rfl

/-! ### The bytes -/
theorem cat (a b : List UInt8) (h : a.length + b.length ≤ 9223372036854775807) : abin .add (.str a) (.str b) = some (.str (a ++ b)) := b_cat a b h
theorem to64 (x : BitVec 32) (H : AHeap) : intX .u64 H (u x) = some (.int .u64 ((x.toNat : Nat) : Int), H) := by
  simp only [u, int_int]
  rw [wrap_u64 _ (by have := x.isLt; omega)]
theorem z0 : (0 : Int) = ((0 : Nat) : Int) := rfl
theorem top_left (s : Sec) : num 1 (un s.kind) ++ num 1 0 ++ num 2 (un s.at') ++ num 2 (un s.many) ++ num 2 0 ++ num 8 s.epoch ++ num 8 s.number ++ num 4 0 = s.top := by unfold Sec.top; simp only [List.append_assoc]
theorem bytes_left (s : Sec) : s.top ++ num 4 (crc (s.top ++ s.page)) ++ s.page = s.bytes := by unfold Sec.bytes; simp only [List.append_assoc]
theorem crc_parts (a b : List UInt8) : (more (more 0#32 a) b).toNat = crc (a ++ b) := by unfold crc; rw [more_app]

theorem U63 (k : Int) (e : Nat) (n : Nat) (a : Int) (m : Int) (p : List UInt8) (H : AHeap) : AC A 63 [.agg [.int .i64 k, .int .u64 (e : Int), .int .u64 (n : Int), .int .i64 a, .int .i64 m, .str p]] H = some (.tuple [.str (Sec.sealb ⟨k, e, n, a, m, p⟩), .int .i64 (Sec.no ⟨k, e, n, a, m, p⟩)], H) := by
  refine one_val (x := DnFns.c63) rfl rfl rfl rfl rfl ?_ H
  cases c1 : Sec.ok ⟨k, e, n, a, m, p⟩
  · have e1 : Sec.sealb ⟨k, e, n, a, m, p⟩ = [] := by unfold Sec.sealb; rw [c1]; rfl
    have e2 : Sec.no ⟨k, e, n, a, m, p⟩ = 18 := by unfold Sec.no; rw [c1]; rfl
    simp only [c63, U61, e1, e2, rwA, rwB, Nat.reduceAdd, Nat.reduceMul, Nat.reduceLeDiff, Int.reduceEq, Int.reduceLT, Int.reduceLE, Int.reduceAdd, Int.reduceSub, Int.reduceMul, ↓reduceIte, Nat.reduceEqDiff, reduceCtorEq, ↓cnd_true, ↓cnd_false]
  · have e1 : Sec.sealb ⟨k, e, n, a, m, p⟩ = Sec.bytes ⟨k, e, n, a, m, p⟩ := by unfold Sec.sealb; rw [c1]; rfl
    have e2 : Sec.no ⟨k, e, n, a, m, p⟩ = 0 := by unfold Sec.no; rw [c1]; rfl
    have hp : p.length = 480 := (ok_is c1).2.2.2
    have t := top_left ⟨k, e, n, a, m, p⟩
    have b := bytes_left ⟨k, e, n, a, m, p⟩
    simp only at t b
    obtain ⟨T, hT⟩ : ∃ T, Sec.top ⟨k, e, n, a, m, p⟩ = T := ⟨_, rfl⟩
    have lT : T.length = 28 := by rw [← hT, top_len]
    rw [hT] at t b
    have n1 := U74 1 0
    have n2 := U74 2 0
    have n4 := U74 4 0
    rw [← z0] at n1 n2 n4
    have u47 := U76 T (by omega)
    have u46 := U75 (more 0#32 T) p (by omega)
    simp only [c63, U61, e1, e2, wu, n1, n2, n4, U74, cat, List.length_append, len1, len2, len4, len8, t, lT, hp, u47, u46, to64, crc_parts, b, rwA, rwB, Nat.reduceAdd, Nat.reduceMul, Nat.reduceLeDiff, Int.reduceEq, Int.reduceLT, Int.reduceLE, Int.reduceAdd, Int.reduceSub, Int.reduceMul, ↓reduceIte, Nat.reduceEqDiff, reduceCtorEq, ↓cnd_true, ↓cnd_false]

/-! ### The reference's sums -/
theorem rem2 (r : BitVec 32) : abin .rem (u r) (.int .u32 2) = some (u (r &&& 1#32)) := by
  have e : (r &&& 1#32).toNat = r.toNat % 2 := by rw [BitVec.toNat_and]; exact Nat.and_two_pow_sub_one_eq_mod r.toNat 1
  have := b_int .rem .u32 (r.toNat : Int) 2 (by decide) (by decide)
  refine this.trans ?_
  simp only [aint, u, e]
  rw [if_neg (by decide), Int.tmod_eq_emod_of_nonneg (by omega)]
  rfl
theorem quo2 (r : BitVec 32) : abin .quo (u r) (.int .u32 2) = some (u (r >>> 1)) := by
  have e : (r >>> 1).toNat = r.toNat / 2 := by rw [BitVec.toNat_ushiftRight, Nat.shiftRight_eq_div_pow]
  have := b_int .quo .u32 (r.toNat : Int) 2 (by decide) (by decide)
  refine this.trans ?_
  simp only [aint, u, e]
  rw [if_neg (by decide), Int.tdiv_eq_ediv_of_nonneg (by omega)]
  have h : ((r.toNat : Int) / 2) = ((r.toNat / 2 : Nat) : Int) := by omega
  rw [h, wrap_u32 _ (by have := r.isLt; omega)]
def halfs : Nat → BitVec 32 → BitVec 32
  | 0, x => x
  | n + 1, x => half (halfs n x)
theorem halfs8 (x : BitVec 32) : halfs 8 x = Z x := rfl
theorem half_odd (r : BitVec 32) : half r = if decide (r &&& 1#32 = 1#32) then (r >>> 1) ^^^ 3945912366#32 else r >>> 1 := by
  rw [half_is, and_one]
  cases r.getLsbD 0 <;> simp
theorem nz1 : num 1 0 = [0] := by kernel_rfl
theorem nz2 : num 2 0 = [0, 0] := by kernel_rfl
theorem nz4 : num 4 0 = [0, 0, 0, 0] := by kernel_rfl
theorem top_ref (s : Sec) : num 1 (un s.kind) ++ [0] ++ num 2 (un s.at') ++ num 2 (un s.many) ++ [0, 0] ++ num 8 s.epoch ++ num 8 s.number ++ [0, 0, 0, 0] = s.top := by rw [← nz4, ← nz2, ← nz1, top_left]
theorem lz1 : ([0] : List UInt8).length = 1 := rfl
theorem lz2 : ([0, 0] : List UInt8).length = 2 := rfl
theorem lz4 : ([0, 0, 0, 0] : List UInt8).length = 4 := rfl

end Go.Proofs.Ytilhjcnkaelheaa.Sd
