/- The sectors: what each function answers. -/
import Derived.Test.YtfmjdlahabgkpaaSea
set_option maxRecDepth 100000
set_option linter.unusedSimpArgs false
set_option linter.unusedVariables false
set_option maxHeartbeats 4000000
namespace Go.Proofs.Ytfmjdlahabgkpaa.Sd
open Go Go.Proofs.Ytfmjdlahabgkpaa.Am SdFns Go.RowKit

theorem U54 (x : Int) (H : AHeap) : AC A 54 [.int .i64 x] H = some (.bool (short x), H) := by
  refine one_val (x := SdFns.c54) rfl rfl rfl rfl rfl ?_ H
  unfold short
  cases c1 : decide (0 ≤ x) <;> simp only [c54, c1, rwA, rwB, Nat.reduceAdd, Nat.reduceMul, Nat.reduceLeDiff, Int.reduceEq, Int.reduceLT, Int.reduceLE, Int.reduceAdd, Int.reduceSub, Int.reduceMul, ↓reduceIte, Nat.reduceEqDiff, reduceCtorEq, ↓cnd_true, ↓cnd_false] <;> simp

theorem ng1 (k : Int) : decide (k ≤ 0) = !decide (0 < k) := by rw [Bool.eq_iff_iff]; simp
theorem ng2 (k : Int) : decide (5 ≤ k) = !decide (k < 5) := by rw [Bool.eq_iff_iff]; simp
theorem ng3 (k : Int) : decide (1 ≤ k) = decide (0 < k) := by rw [Bool.eq_iff_iff]; simp; omega
theorem ng4 (k : Int) : decide (k ≤ 4) = decide (k < 5) := by rw [Bool.eq_iff_iff]; simp; omega
theorem ngl (p : List UInt8) (n : Nat) : decide ((p.length : Int) = (n : Int)) = decide (p.length = n) := by rw [Bool.eq_iff_iff]; simp; omega
theorem ngl480 (p : List UInt8) : decide ((p.length : Int) = 480) = decide (p.length = 480) := ngl p 480

theorem U16 (k : Int) (e : Nat) (n : Nat) (a : Int) (m : Int) (p : List UInt8) (H : AHeap) : AC A 16 [.agg [.int .i64 k, .int .u64 (e : Int), .int .u64 (n : Int), .int .i64 a, .int .i64 m, .str p]] H = some (.int .i64 (Sec.no ⟨k, e, n, a, m, p⟩), H) := by
  refine one_val (x := SdFns.c16) rfl rfl rfl rfl rfl ?_ H
  unfold Sec.no Sec.ok
  cases c1 : decide (0 < k) <;> cases c2 : decide (k < 5) <;> cases c3 : short a <;> cases c4 : short m <;> cases c5 : decide (p.length = 480) <;> simp only [c16, ng1, ng2, ngl480, c1, c2, c3, c4, c5, U54, rwA, rwB, Nat.reduceAdd, Nat.reduceMul, Nat.reduceLeDiff, Int.reduceEq, Int.reduceLT, Int.reduceLE, Int.reduceAdd, Int.reduceSub, Int.reduceMul, ↓reduceIte, Nat.reduceEqDiff, reduceCtorEq, ↓cnd_true, ↓cnd_false] <;> rfl

theorem U17 (k : Int) (e : Nat) (n : Nat) (a : Int) (m : Int) (p : List UInt8) (H : AHeap) : AC A 17 [.agg [.int .i64 k, .int .u64 (e : Int), .int .u64 (n : Int), .int .i64 a, .int .i64 m, .str p]] H = some (.bool (Sec.ok ⟨k, e, n, a, m, p⟩), H) := by
  refine one_val (x := SdFns.c17) rfl rfl rfl rfl rfl ?_ H
  unfold Sec.ok short
  cases c1 : decide (0 < k) <;> cases c2 : decide (k < 5) <;> cases c3 : decide (0 ≤ a) <;> cases c4 : decide (a ≤ 65535) <;> cases c5 : decide (0 ≤ m) <;> cases c6 : decide (m ≤ 65535) <;> simp only [c17, ng3, ng4, ngl480, c1, c2, c3, c4, c5, c6, rwA, rwB, Nat.reduceAdd, Nat.reduceMul, Nat.reduceLeDiff, Int.reduceEq, Int.reduceLT, Int.reduceLE, Int.reduceAdd, Int.reduceSub, Int.reduceMul, ↓reduceIte, Nat.reduceEqDiff, reduceCtorEq, ↓cnd_true, ↓cnd_false] <;> simp

theorem U12 (k : Int) (e : Nat) (n : Nat) (a : Int) (m : Int) (p : List UInt8) (H : AHeap) : AC A 12 [.agg [.int .i64 k, .int .u64 (e : Int), .int .u64 (n : Int), .int .i64 a, .int .i64 m, .str p]] H = some (.agg [.int .i64 k, .int .u64 (e : Int), .int .u64 (n : Int), .int .i64 a, .int .i64 m, .str p], H) := by
  refine one_val (x := SdFns.c12) rfl rfl rfl rfl rfl ?_ H
  simp only [c12, rwA, rwB, Nat.reduceAdd, Nat.reduceMul, Nat.reduceLeDiff, Int.reduceEq, Int.reduceLT, Int.reduceLE, Int.reduceAdd, Int.reduceSub, Int.reduceMul, ↓reduceIte, Nat.reduceEqDiff, reduceCtorEq, ↓cnd_true, ↓cnd_false]

/-! ### The bytes -/
theorem cat (a b : List UInt8) (h : a.length + b.length ≤ 9223372036854775807) : abin .add (.str a) (.str b) = some (.str (a ++ b)) := b_cat a b h
theorem to64 (x : BitVec 32) (H : AHeap) : intX .u64 H (u x) = some (.int .u64 ((x.toNat : Nat) : Int), H) := by
  simp only [u, int_int]
  rw [wrap_u64 _ (by have := x.isLt; omega)]
theorem z0 : (0 : Int) = ((0 : Nat) : Int) := rfl
theorem top_left (s : Sec) : num 1 (un s.kind) ++ num 1 0 ++ num 2 (un s.at') ++ num 2 (un s.many) ++ num 2 0 ++ num 8 s.epoch ++ num 8 s.number ++ num 4 0 = s.top := by unfold Sec.top; simp only [List.append_assoc]
theorem bytes_left (s : Sec) : s.top ++ num 4 (crc (s.top ++ s.page)) ++ s.page = s.bytes := by unfold Sec.bytes; simp only [List.append_assoc]
theorem crc_parts (a b : List UInt8) : (more (more 0#32 a) b).toNat = crc (a ++ b) := by unfold crc; rw [more_app]

theorem U11 (k : Int) (e : Nat) (n : Nat) (a : Int) (m : Int) (p : List UInt8) (H : AHeap) : AC A 11 [.agg [.int .i64 k, .int .u64 (e : Int), .int .u64 (n : Int), .int .i64 a, .int .i64 m, .str p]] H = some (.tuple [.str (Sec.sealb ⟨k, e, n, a, m, p⟩), .int .i64 (Sec.no ⟨k, e, n, a, m, p⟩)], H) := by
  refine one_val (x := SdFns.c11) rfl rfl rfl rfl rfl ?_ H
  cases c1 : Sec.ok ⟨k, e, n, a, m, p⟩
  · have e1 : Sec.sealb ⟨k, e, n, a, m, p⟩ = [] := by unfold Sec.sealb; rw [c1]; rfl
    have e2 : Sec.no ⟨k, e, n, a, m, p⟩ = 18 := by unfold Sec.no; rw [c1]; rfl
    simp only [c11, U16, e1, e2, rwA, rwB, Nat.reduceAdd, Nat.reduceMul, Nat.reduceLeDiff, Int.reduceEq, Int.reduceLT, Int.reduceLE, Int.reduceAdd, Int.reduceSub, Int.reduceMul, ↓reduceIte, Nat.reduceEqDiff, reduceCtorEq, ↓cnd_true, ↓cnd_false]
  · have e1 : Sec.sealb ⟨k, e, n, a, m, p⟩ = Sec.bytes ⟨k, e, n, a, m, p⟩ := by unfold Sec.sealb; rw [c1]; rfl
    have e2 : Sec.no ⟨k, e, n, a, m, p⟩ = 0 := by unfold Sec.no; rw [c1]; rfl
    have hp : p.length = 480 := (ok_is c1).2.2.2
    have t := top_left ⟨k, e, n, a, m, p⟩
    have b := bytes_left ⟨k, e, n, a, m, p⟩
    simp only at t b
    obtain ⟨T, hT⟩ : ∃ T, Sec.top ⟨k, e, n, a, m, p⟩ = T := ⟨_, rfl⟩
    have lT : T.length = 28 := by rw [← hT, top_len]
    rw [hT] at t b
    have n1 := U45 1 0
    have n2 := U45 2 0
    have n4 := U45 4 0
    rw [← z0] at n1 n2 n4
    have u47 := U47 T (by omega)
    have u46 := U46 (more 0#32 T) p (by omega)
    simp only [c11, U16, e1, e2, wu, n1, n2, n4, U45, cat, List.length_append, len1, len2, len4, len8, t, lT, hp, u47, u46, to64, crc_parts, b, rwA, rwB, Nat.reduceAdd, Nat.reduceMul, Nat.reduceLeDiff, Int.reduceEq, Int.reduceLT, Int.reduceLE, Int.reduceAdd, Int.reduceSub, Int.reduceMul, ↓reduceIte, Nat.reduceEqDiff, reduceCtorEq, ↓cnd_true, ↓cnd_false]

/-! ### The reference's sums -/
theorem rem2 (r : BitVec 32) : abin .rem (u r) (.int .u32 2) = some (u (r &&& 1#32)) := by
  have e : (r &&& 1#32).toNat = r.toNat % 2 := by rw [BitVec.toNat_and]; exact Nat.and_two_pow_sub_one_eq_mod r.toNat 1
  have := b_int .rem .u32 (r.toNat : Int) 2 (by decide) (by decide)
  refine this.trans ?_
  simp only [aint, u, e]
  rw [if_neg (by decide), Int.tmod_eq_emod_of_nonneg (by omega)]
  rfl
theorem quo2 (r : BitVec 32) : abin .quo (u r) (.int .u32 2) = some (u (r >>> 1)) := by
  have e : (r >>> 1).toNat = r.toNat / 2 := by rw [BitVec.toNat_ushiftRight, Nat.shiftRight_eq_div_pow]
  have := b_int .quo .u32 (r.toNat : Int) 2 (by decide) (by decide)
  refine this.trans ?_
  simp only [aint, u, e]
  rw [if_neg (by decide), Int.tdiv_eq_ediv_of_nonneg (by omega)]
  have h : ((r.toNat : Int) / 2) = ((r.toNat / 2 : Nat) : Int) := by omega
  rw [h, wrap_u32 _ (by have := r.isLt; omega)]
def halfs : Nat → BitVec 32 → BitVec 32
  | 0, x => x
  | n + 1, x => half (halfs n x)
theorem halfs8 (x : BitVec 32) : halfs 8 x = Z x := rfl
theorem half_odd (r : BitVec 32) : half r = if decide (r &&& 1#32 = 1#32) then (r >>> 1) ^^^ 3945912366#32 else r >>> 1 := by
  rw [half_is, and_one]
  cases r.getLsbD 0 <;> simp
def b93 : ACode := (.seq (.seq (.region [⟨(some 11), (.mv (.tmp 5)), none, none⟩, ⟨(some 12), (.bin .lss (.tmp 11) (.con (.int .i64 8))), none, none⟩]) (.cond (.tmp 12) .skip (.exit 0))) (.seq (.block 1 (.seq (.region [⟨(some 15), (.mv (.tmp 0)), none, none⟩, ⟨(some 16), (.bin .rem (.tmp 15) (.con (.int .u32 2))), none, none⟩, ⟨(some 17), (.bin .eql (.tmp 16) (.con (.int .u32 1))), none, none⟩, ⟨(some 6), (.mv (.tmp 17)), none, none⟩]) (.seq (.region [⟨(some 18), (.mv (.tmp 0)), none, none⟩, ⟨(some 19), (.bin .quo (.tmp 18) (.con (.int .u32 2))), none, none⟩, ⟨(some 0), (.mv (.tmp 19)), none, none⟩]) (.seq (.region [⟨(some 20), (.mv (.tmp 6)), none, none⟩]) (.cond (.tmp 20) (.region [⟨(some 21), (.mv (.tmp 0)), none, none⟩, ⟨(some 22), (.bin .xor (.tmp 21) (.con (.int .u32 3945912366))), none, none⟩, ⟨(some 0), (.mv (.tmp 22)), none, none⟩]) .skip))))) (.region [⟨(some 13), (.mv (.tmp 5)), none, none⟩, ⟨(some 14), (.bin .add (.tmp 13) (.con (.int .i64 1))), none, none⟩, ⟨(some 5), (.mv (.tmp 14)), none, none⟩])))
theorem loop93 {x : BitVec 32} {env : Env} {H : AHeap} (h0 : env 0 = u x) (h5 : env 5 = .int .i64 0) :
    Outs (AX A (.loop b93) env H) fun e env' H' => e = .exit 0 ∧ env' 0 = u (Z x) := by
  refine loop_ends (I := fun (j : Nat) env' H' => j ≤ 8 ∧ env' 0 = u (halfs j x) ∧ env' 5 = .int .i64 (j : Int)) (fun j => 8 - j) ?_ 0 env H ⟨by decide, h0, h5⟩
  rintro j env' H' ⟨hj, h0, h5⟩
  by_cases hlt : j < 8
  · have e1 : decide ((j : Int) < 8) = true := by simp; omega
    have w1 : IntKind.i64.wrap ((j : Int) + 1) = ((j + 1 : Nat) : Int) := by rw [wrap_i64]; omega
    have hh := half_odd (halfs j x)
    cases c1 : decide (halfs j x &&& 1#32 = 1#32)
    · simp only [b93, h0, h5, e1, w1, rem2, quo2, k1, kp, x_eql, x_xor, c1, rwA, rwB, Nat.reduceAdd, Nat.reduceMul, Nat.reduceLeDiff, Int.reduceEq, Int.reduceLT, Int.reduceLE, Int.reduceAdd, Int.reduceSub, Int.reduceMul, ↓reduceIte, Nat.reduceEqDiff, reduceCtorEq, ↓cnd_true, ↓cnd_false]
      rw [outs_some]
      rw [c1] at hh
      refine .inl ⟨rfl, j + 1, by omega, by omega, ?_, by simp [Env.set]⟩
      simp only [halfs, hh, rwA, rwB, Nat.reduceAdd, Nat.reduceMul, Nat.reduceLeDiff, Int.reduceEq, Int.reduceLT, Int.reduceLE, Int.reduceAdd, Int.reduceSub, Int.reduceMul, ↓reduceIte, Nat.reduceEqDiff, reduceCtorEq, ↓cnd_true, ↓cnd_false]
      try rfl
    · simp only [b93, h0, h5, e1, w1, rem2, quo2, k1, kp, x_eql, x_xor, c1, rwA, rwB, Nat.reduceAdd, Nat.reduceMul, Nat.reduceLeDiff, Int.reduceEq, Int.reduceLT, Int.reduceLE, Int.reduceAdd, Int.reduceSub, Int.reduceMul, ↓reduceIte, Nat.reduceEqDiff, reduceCtorEq, ↓cnd_true, ↓cnd_false]
      rw [outs_some]
      rw [c1] at hh
      refine .inl ⟨rfl, j + 1, by omega, by omega, ?_, by simp [Env.set]⟩
      simp only [halfs, hh, rwA, rwB, Nat.reduceAdd, Nat.reduceMul, Nat.reduceLeDiff, Int.reduceEq, Int.reduceLT, Int.reduceLE, Int.reduceAdd, Int.reduceSub, Int.reduceMul, ↓reduceIte, Nat.reduceEqDiff, reduceCtorEq, ↓cnd_true, ↓cnd_false]
  · have e1 : decide ((j : Int) < 8) = false := by simp; omega
    have : j = 8 := by omega
    subst this
    simp only [b93, h5, e1, rwA, rwB, Nat.reduceAdd, Nat.reduceMul, Nat.reduceLeDiff, Int.reduceEq, Int.reduceLT, Int.reduceLE, Int.reduceAdd, Int.reduceSub, Int.reduceMul, ↓reduceIte, Nat.reduceEqDiff, reduceCtorEq, ↓cnd_true, ↓cnd_false]
    rw [outs_some]
    exact .inr ⟨by simp, rfl, by simp [Env.set, h0, halfs8]⟩

theorem U93 (r : BitVec 32) (c : UInt8) (H : AHeap) : AC A 93 [u r, by8 c] H = some (u (byte r c), H) := by
  refine one_val (x := SdFns.c93) rfl rfl rfl rfl rfl ?_ H
  have e : intX .u32 noH (by8 c) = some (u (BitVec.ofNat 32 c.toNat), noH) := by
    show intX .u32 noH (.int .u8 (c.toNat : Int)) = _
    simp only [int_int, of8]
  simp only [c93, e, x_xor, rwA, rwB, Nat.reduceAdd, Nat.reduceMul, Nat.reduceLeDiff, Int.reduceEq, Int.reduceLT, Int.reduceLE, Int.reduceAdd, Int.reduceSub, Int.reduceMul, ↓reduceIte, Nat.reduceEqDiff, reduceCtorEq, ↓cnd_true, ↓cnd_false]
  repeat (first | refine outs_seq ?_ | refine outs_block ?_ | refine outs_step ?_ | refine outs_stepD ?_ | refine rets_end ?_ | refine ans_end ?_)
  refine (loop93 (x := r ^^^ BitVec.ofNat 32 c.toNat) ?_ ?_).mono ?_
  · simp only [rwA, rwB, Nat.reduceAdd, Nat.reduceMul, Nat.reduceLeDiff, Int.reduceEq, Int.reduceLT, Int.reduceLE, Int.reduceAdd, Int.reduceSub, Int.reduceMul, ↓reduceIte, Nat.reduceEqDiff, reduceCtorEq, ↓cnd_true, ↓cnd_false]
  · simp only [rwA, rwB, Nat.reduceAdd, Nat.reduceMul, Nat.reduceLeDiff, Int.reduceEq, Int.reduceLT, Int.reduceLE, Int.reduceAdd, Int.reduceSub, Int.reduceMul, ↓reduceIte, Nat.reduceEqDiff, reduceCtorEq, ↓cnd_true, ↓cnd_false]
  · rintro e env H ⟨rfl, h0⟩
    simp only [outs_some, h0, rwA, rwB, Nat.reduceAdd, Nat.reduceMul, Nat.reduceLeDiff, Int.reduceEq, Int.reduceLT, Int.reduceLE, Int.reduceAdd, Int.reduceSub, Int.reduceMul, ↓reduceIte, Nat.reduceEqDiff, reduceCtorEq, ↓cnd_true, ↓cnd_false]
    rfl

def b77 : ACode := (.seq (.seq (.region [⟨(some 9), (.mv (.tmp 6)), none, none⟩, ⟨(some 10), (.mv (.tmp 1)), none, none⟩, ⟨(some 11), (.len true (.tmp 10)), none, none⟩, ⟨(some 12), (.bin .lss (.tmp 9) (.tmp 11)), none, none⟩]) (.cond (.tmp 12) .skip (.exit 0))) (.seq (.block 1 (.region [⟨(some 15), (.mv (.tmp 5)), none, none⟩, ⟨(some 16), (.mv (.tmp 1)), none, none⟩, ⟨(some 17), (.mv (.tmp 6)), none, none⟩, ⟨(some 18), (.idxStr (.tmp 16) (.tmp 17)), none, none⟩, ⟨(some 19), (.call (.con (.func 93 [] [])) [(.tmp 15), (.tmp 18)]), none, none⟩, ⟨(some 5), (.mv (.tmp 19)), none, none⟩])) (.region [⟨(some 13), (.mv (.tmp 6)), none, none⟩, ⟨(some 14), (.bin .add (.tmp 13) (.con (.int .i64 1))), none, none⟩, ⟨(some 6), (.mv (.tmp 14)), none, none⟩])))
theorem loop77 {s : List UInt8} (hs : s.length < 9223372036854775807) {x : BitVec 32} {env : Env} {H : AHeap} (h1 : env 1 = .str s) (h5 : env 5 = u x) (h6 : env 6 = .int .i64 0) :
    Outs (AX A (.loop b77) env H) fun e env' H' => e = .exit 0 ∧ env' 5 = u (s.foldl byte x) := by
  refine loop_ends (I := fun (j : Nat) env' H' => j ≤ s.length ∧ env' 1 = .str s ∧ env' 5 = u ((s.take j).foldl byte x) ∧ env' 6 = .int .i64 (j : Int)) (fun j => s.length - j) ?_ 0 env H ⟨Nat.zero_le _, h1, h5, h6⟩
  rintro j env' H' ⟨hj, h1, h5, h6⟩
  by_cases hlt : j < s.length
  · have e1 : decide ((j : Int) < (s.length : Int)) = true := by simp; omega
    have w1 : IntKind.i64.wrap ((j : Int) + 1) = ((j + 1 : Nat) : Int) := by rw [wrap_i64]; omega
    have ha : aidx s.length (.int .i64 (j : Int)) = some j := by simp [aidx]; omega
    have hg : s[j]? = some s[j] := List.getElem?_eq_getElem hlt
    have hb : AVal.int .u8 (s[j].toNat : Int) = by8 s[j] := rfl
    simp only [b77, h1, h5, h6, e1, w1, ha, hg, hb, U93, rwA, rwB, Nat.reduceAdd, Nat.reduceMul, Nat.reduceLeDiff, Int.reduceEq, Int.reduceLT, Int.reduceLE, Int.reduceAdd, Int.reduceSub, Int.reduceMul, ↓reduceIte, Nat.reduceEqDiff, reduceCtorEq, ↓cnd_true, ↓cnd_false]
    rw [outs_some]
    refine .inl ⟨rfl, j + 1, by omega, by omega, by simp [Env.set, h1], ?_, by simp [Env.set]⟩
    rw [List.take_succ_eq_append_getElem hlt, List.foldl_append]
    simp [Env.set]
  · have e1 : decide ((j : Int) < (s.length : Int)) = false := by simp; omega
    have : j = s.length := by omega
    subst this
    simp only [b77, h1, h6, e1, rwA, rwB, Nat.reduceAdd, Nat.reduceMul, Nat.reduceLeDiff, Int.reduceEq, Int.reduceLT, Int.reduceLE, Int.reduceAdd, Int.reduceSub, Int.reduceMul, ↓reduceIte, Nat.reduceEqDiff, reduceCtorEq, ↓cnd_true, ↓cnd_false]
    rw [outs_some]
    refine .inr ⟨by simp, rfl, ?_⟩
    simp only [rwA, rwB, Nat.reduceAdd, Nat.reduceMul, Nat.reduceLeDiff, Int.reduceEq, Int.reduceLT, Int.reduceLE, Int.reduceAdd, Int.reduceSub, Int.reduceMul, ↓reduceIte, Nat.reduceEqDiff, reduceCtorEq, ↓cnd_true, ↓cnd_false]
    rw [h5, List.take_length]
theorem U77 (x : BitVec 32) (s : List UInt8) (hl : s.length < 9223372036854775807) (H : AHeap) : AC A 77 [u x, .str s] H = some (u (more x s), H) := by
  refine one_val (x := SdFns.c77) rfl rfl rfl rfl rfl ?_ H
  simp only [c77, kff, x_xor, rwA, rwB, Nat.reduceAdd, Nat.reduceMul, Nat.reduceLeDiff, Int.reduceEq, Int.reduceLT, Int.reduceLE, Int.reduceAdd, Int.reduceSub, Int.reduceMul, ↓reduceIte, Nat.reduceEqDiff, reduceCtorEq, ↓cnd_true, ↓cnd_false]
  repeat (first | refine outs_seq ?_ | refine outs_block ?_ | refine outs_step ?_ | refine outs_stepD ?_ | refine rets_end ?_ | refine ans_end ?_)
  refine (loop77 hl (x := x ^^^ 4294967295#32) ?_ ?_ ?_).mono ?_
  · simp only [rwA, rwB, Nat.reduceAdd, Nat.reduceMul, Nat.reduceLeDiff, Int.reduceEq, Int.reduceLT, Int.reduceLE, Int.reduceAdd, Int.reduceSub, Int.reduceMul, ↓reduceIte, Nat.reduceEqDiff, reduceCtorEq, ↓cnd_true, ↓cnd_false]
  · simp only [rwA, rwB, Nat.reduceAdd, Nat.reduceMul, Nat.reduceLeDiff, Int.reduceEq, Int.reduceLT, Int.reduceLE, Int.reduceAdd, Int.reduceSub, Int.reduceMul, ↓reduceIte, Nat.reduceEqDiff, reduceCtorEq, ↓cnd_true, ↓cnd_false]
  · simp only [rwA, rwB, Nat.reduceAdd, Nat.reduceMul, Nat.reduceLeDiff, Int.reduceEq, Int.reduceLT, Int.reduceLE, Int.reduceAdd, Int.reduceSub, Int.reduceMul, ↓reduceIte, Nat.reduceEqDiff, reduceCtorEq, ↓cnd_true, ↓cnd_false]
  · rintro e env H ⟨rfl, h5⟩
    simp only [outs_some, h5, kff, x_xor, rwA, rwB, Nat.reduceAdd, Nat.reduceMul, Nat.reduceLeDiff, Int.reduceEq, Int.reduceLT, Int.reduceLE, Int.reduceAdd, Int.reduceSub, Int.reduceMul, ↓reduceIte, Nat.reduceEqDiff, reduceCtorEq, ↓cnd_true, ↓cnd_false]
    rfl
theorem U49 (s : List UInt8) (hl : s.length < 9223372036854775807) (H : AHeap) : AC A 49 [.str s] H = some (u (more 0#32 s), H) := by
  refine one_val (x := SdFns.c49) rfl rfl rfl rfl rfl ?_ H
  have e := U77 0#32 s hl noH
  rw [← k0] at e
  simp only [c49, e, rwA, rwB, Nat.reduceAdd, Nat.reduceMul, Nat.reduceLeDiff, Int.reduceEq, Int.reduceLT, Int.reduceLE, Int.reduceAdd, Int.reduceSub, Int.reduceMul, ↓reduceIte, Nat.reduceEqDiff, reduceCtorEq, ↓cnd_true, ↓cnd_false]

theorem nz1 : num 1 0 = [0] := by kernel_rfl
theorem nz2 : num 2 0 = [0, 0] := by kernel_rfl
theorem nz4 : num 4 0 = [0, 0, 0, 0] := by kernel_rfl
theorem top_ref (s : Sec) : num 1 (un s.kind) ++ [0] ++ num 2 (un s.at') ++ num 2 (un s.many) ++ [0, 0] ++ num 8 s.epoch ++ num 8 s.number ++ [0, 0, 0, 0] = s.top := by rw [← nz4, ← nz2, ← nz1, top_left]
theorem lz1 : ([0] : List UInt8).length = 1 := rfl
theorem lz2 : ([0, 0] : List UInt8).length = 2 := rfl
theorem lz4 : ([0, 0, 0, 0] : List UInt8).length = 4 := rfl

theorem U13 (k : Int) (e n : Nat) (a m : Int) (p : List UInt8) (he : e < 18446744073709551616) (hn : n < 18446744073709551616) (H : AHeap) : AC A 13 [.agg [.int .i64 k, .int .u64 (e : Int), .int .u64 (n : Int), .int .i64 a, .int .i64 m, .str p]] H = some (.tuple [.str (Sec.sealb ⟨k, e, n, a, m, p⟩), .int .i64 (Sec.no ⟨k, e, n, a, m, p⟩)], H) := by
  refine one_val (x := SdFns.c13) rfl rfl rfl rfl rfl ?_ H
  cases c1 : Sec.ok ⟨k, e, n, a, m, p⟩
  · have e1 : Sec.sealb ⟨k, e, n, a, m, p⟩ = [] := by unfold Sec.sealb; rw [c1]; rfl
    have e2 : Sec.no ⟨k, e, n, a, m, p⟩ = 18 := by unfold Sec.no; rw [c1]; rfl
    simp only [c13, U17, c1, e1, e2, rwA, rwB, Nat.reduceAdd, Nat.reduceMul, Nat.reduceLeDiff, Int.reduceEq, Int.reduceLT, Int.reduceLE, Int.reduceAdd, Int.reduceSub, Int.reduceMul, ↓reduceIte, Nat.reduceEqDiff, reduceCtorEq, ↓cnd_true, ↓cnd_false]
  · have e1 : Sec.sealb ⟨k, e, n, a, m, p⟩ = Sec.bytes ⟨k, e, n, a, m, p⟩ := by unfold Sec.sealb; rw [c1]; rfl
    have e2 : Sec.no ⟨k, e, n, a, m, p⟩ = 0 := by unfold Sec.no; rw [c1]; rfl
    have hp : p.length = 480 := (ok_is c1).2.2.2
    have t := top_ref ⟨k, e, n, a, m, p⟩
    have b := bytes_left ⟨k, e, n, a, m, p⟩
    simp only at t b
    obtain ⟨T, hT⟩ : ∃ T, Sec.top ⟨k, e, n, a, m, p⟩ = T := ⟨_, rfl⟩
    have lT : T.length = 28 := by rw [← hT, top_len]
    rw [hT] at t b
    have n1 := U48 1 _ (un_lt k)
    have n2 := U48 2 _ (un_lt a)
    have n3 := U48 2 _ (un_lt m)
    have n4 := U48 8 e he
    have n5 := U48 8 n hn
    have n6 := U48 4 (crc (T ++ p)) (by unfold crc; have := (more 0#32 (T ++ p)).isLt; omega)
    have hc : (more 0#32 (T ++ p)).toNat = crc (T ++ p) := rfl
    have u49 := U49 (T ++ p) (by rw [List.length_append]; omega)
    simp only [c13, U17, c1, e1, e2, wu, n1, n2, n3, n4, n5, n6, cat, List.length_append, len1, len2, len4, len8, t, lT, hp, u49, to64, hc, b, rwA, rwB, Nat.reduceAdd, Nat.reduceMul, Nat.reduceLeDiff, Int.reduceEq, Int.reduceLT, Int.reduceLE, Int.reduceAdd, Int.reduceSub, Int.reduceMul, ↓reduceIte, Nat.reduceEqDiff, reduceCtorEq, ↓cnd_true, ↓cnd_false]

end Go.Proofs.Ytfmjdlahabgkpaa.Sd
