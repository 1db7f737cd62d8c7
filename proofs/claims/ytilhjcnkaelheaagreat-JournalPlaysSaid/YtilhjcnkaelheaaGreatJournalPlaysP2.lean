/- Texts put together by program: YtilhjcnkaelheaaGreatSea, YtilhjcnkaelheaaGreatSeb, YtilhjcnkaelheaaGreatSed, YtilhjcnkaelheaaGreatSef, YtilhjcnkaelheaaGreatDna, YtilhjcnkaelheaaGreatDa, YtilhjcnkaelheaaGreatDb, YtilhjcnkaelheaaGreatDc, YtilhjcnkaelheaaGreatDe, YtilhjcnkaelheaaGreatDf, YtilhjcnkaelheaaGreatDg, YtilhjcnkaelheaaGreatSegP, YtilhjcnkaelheaaGreatJa, YtilhjcnkaelheaaGreatJb, YtilhjcnkaelheaaGreatJc, YtilhjcnkaelheaaGreatJd, YtilhjcnkaelheaaGreatJe, YtilhjcnkaelheaaGreatJf, YtilhjcnkaelheaaGreatDh, YtilhjcnkaelheaaGreatJg. -/
import Derived.Test.YtilhjcnkaelheaaGreatJournalPlaysP1
section
/- The sector's plain law: what a sector's bytes are, and that the sector is had of them. No program in sight. -/
set_option maxRecDepth 100000
set_option linter.unusedSimpArgs false
set_option linter.unusedVariables false
set_option maxHeartbeats 4000000
namespace Go.Proofs.YtilhjcnkaelheaaGreat.Sd
open Go Go.Proofs.YtilhjcnkaelheaaGreat.Am DnFns Go.RowKit

/-! ### Small words -/
def un (x : Int) : Nat := (IntKind.u64.wrap x).toNat
theorem wu (x : Int) : IntKind.u64.wrap x = ((un x : Nat) : Int) := by
  unfold un
  rw [Int.toNat_of_nonneg]
  simp [IntKind.wrap, IntKind.signed, IntKind.bits]
  omega
theorem un_lt (x : Int) : un x < 18446744073709551616 := by
  unfold un
  simp [IntKind.wrap, IntKind.signed, IntKind.bits]
  omega
theorem num_n (w : Nat) (h : 1 ≤ w ∧ w ≤ 8) (n : Nat) : (num (w : Int) n).length = w := by
  unfold num; rw [if_pos (by omega), Int.toNat_natCast, encl_len]
theorem len8 (n : Nat) : (num 8 n).length = 8 := num_n 8 (by omega) n
theorem len4 (n : Nat) : (num 4 n).length = 4 := num_n 4 (by omega) n
theorem len2 (n : Nat) : (num 2 n).length = 2 := num_n 2 (by omega) n
theorem len1 (n : Nat) : (num 1 n).length = 1 := num_n 1 (by omega) n

def wd (s : List UInt8) (k w : Nat) : Nat := if s.length < k + w then 0 else be ((s.drop k).take w)
theorem wd_lt (s : List UInt8) (k w : Nat) (hw : w ≤ 8) : wd s k w < 18446744073709551616 := by
  unfold wd
  split
  · decide
  · exact be_lt8 _ (by rw [List.length_take]; omega)

/-! ### A sector -/
structure Sec where
  kind : Int
  epoch : Nat
  number : Nat
  at' : Int
  many : Int
  page : List UInt8
def Sec.cells (s : Sec) : List AVal := [.int .i64 s.kind, .int .u64 (s.epoch : Int), .int .u64 (s.number : Int), .int .i64 s.at', .int .i64 s.many, .str s.page]
def Sec.wf (s : Sec) : Prop := s.epoch < 18446744073709551616 ∧ s.number < 18446744073709551616
def short (n : Int) : Bool := decide (0 ≤ n) && decide (n ≤ 65535)
def Sec.ok (s : Sec) : Bool := ((((decide (0 < s.kind) && decide (s.kind < 5)) && short s.at') && short s.many) && decide (s.page.length = 480))
def Sec.top (s : Sec) : List UInt8 := num 1 (un s.kind) ++ (num 1 0 ++ (num 2 (un s.at') ++ (num 2 (un s.many) ++ (num 2 0 ++ (num 8 s.epoch ++ (num 8 s.number ++ num 4 0))))))
theorem top_len (s : Sec) : s.top.length = 28 := by unfold Sec.top; simp only [List.length_append, len1, len2, len4, len8]
def crc (s : List UInt8) : Nat := (more 0#32 s).toNat
def Sec.bytes (s : Sec) : List UInt8 := s.top ++ (num 4 (crc (s.top ++ s.page)) ++ s.page)
def Sec.sealb (s : Sec) : List UInt8 := if s.ok then s.bytes else []
def Sec.no (s : Sec) : Int := if s.ok then 0 else 18
theorem bytes_len (s : Sec) : s.bytes.length = 32 + s.page.length := by unfold Sec.bytes; simp only [List.length_append, len4, top_len]; omega
theorem ok_is {s : Sec} (h : s.ok = true) : (0 < s.kind ∧ s.kind < 5) ∧ (0 ≤ s.at' ∧ s.at' ≤ 65535) ∧ (0 ≤ s.many ∧ s.many ≤ 65535) ∧ s.page.length = 480 := by
  unfold Sec.ok short at h
  simp only [Bool.and_eq_true, decide_eq_true_eq] at h
  obtain ⟨⟨⟨⟨h1, h2⟩, h3, h4⟩, h5, h6⟩, h7⟩ := h
  exact ⟨⟨h1, h2⟩, ⟨h3, h4⟩, ⟨h5, h6⟩, h7⟩

def wi (n : Nat) : Int := IntKind.i64.wrap (n : Int)
def had (b : List UInt8) : Sec := ⟨wi (wd b 0 1), wd b 8 8, wd b 16 8, wi (wd b 2 2), wi (wd b 4 2), b.drop 32⟩
def fits (b : List UInt8) : Bool := decide (b.length = 512) && ((had b).ok && decide ((had b).bytes = b))
def none6 : Sec := ⟨0, 0, 0, 0, 0, []⟩
def opened (b : List UInt8) : Sec := if fits b then had b else none6
def unfit (b : List UInt8) : Int := if fits b then 0 else 19

theorem m8 (n : Nat) (h : n < 18446744073709551616) : n % 256 ^ 8 = n := Nat.mod_eq_of_lt (by exact h)
theorem fits_is {b : List UInt8} (h : fits b = true) : (had b).ok = true ∧ (had b).bytes = b := by
  unfold fits at h
  simp only [Bool.and_eq_true, decide_eq_true_eq] at h
  exact h.2

end Go.Proofs.YtilhjcnkaelheaaGreat.Sd
end

section
/- The sectors: what each function answers. -/
set_option maxRecDepth 100000
set_option linter.unusedSimpArgs false
set_option linter.unusedVariables false
set_option maxHeartbeats 4000000
namespace Go.Proofs.YtilhjcnkaelheaaGreat.Sd
open Go Go.Proofs.YtilhjcnkaelheaaGreat.Am DnFns Go.RowKit

theorem U83 (x : Int) (H : AHeap) : AC A 83 [.int .i64 x] H = some (.bool (short x), H) := by
  refine one_val (x := DnFns.c83) rfl rfl rfl rfl rfl ?_ H
  unfold short
  cases c1 : decide (0 ≤ x) <;> simp only [c83, c1, rwA, rwB, Nat.reduceAdd, Nat.reduceMul, Nat.reduceLeDiff, Int.reduceEq, Int.reduceLT, Int.reduceLE, Int.reduceAdd, Int.reduceSub, Int.reduceMul, ↓reduceIte, Nat.reduceEqDiff, reduceCtorEq, ↓cnd_true, ↓cnd_false] <;> simp

theorem ng1 (k : Int) : decide (k ≤ 0) = !decide (0 < k) := by rw [Bool.eq_iff_iff]; simp
theorem ng2 (k : Int) : decide (5 ≤ k) = !decide (k < 5) := by rw [Bool.eq_iff_iff]; simp
theorem ng3 (k : Int) : decide (1 ≤ k) = decide (0 < k) := by rw [Bool.eq_iff_iff]; simp; omega
theorem ng4 (k : Int) : decide (k ≤ 4) = decide (k < 5) := by rw [Bool.eq_iff_iff]; simp; omega
theorem ngl (p : List UInt8) (n : Nat) : decide ((p.length : Int) = (n : Int)) = decide (p.length = n) := by rw [Bool.eq_iff_iff]; simp; omega
theorem ngl480 (p : List UInt8) : decide ((p.length : Int) = 480) = decide (p.length = 480) := ngl p 480

theorem U67 (k : Int) (e : Nat) (n : Nat) (a : Int) (m : Int) (p : List UInt8) (H : AHeap) : AC A 67 [.agg [.int .i64 k, .int .u64 (e : Int), .int .u64 (n : Int), .int .i64 a, .int .i64 m, .str p]] H = some (.int .i64 (Sec.no ⟨k, e, n, a, m, p⟩), H) := by
  refine one_val (x := DnFns.c67) rfl rfl rfl rfl rfl ?_ H
  unfold Sec.no Sec.ok
  cases c1 : decide (0 < k) <;> cases c2 : decide (k < 5) <;> cases c3 : short a <;> cases c4 : short m <;> cases c5 : decide (p.length = 480) <;> simp only [c67, ng1, ng2, ngl480, c1, c2, c3, c4, c5, U83, rwA, rwB, Nat.reduceAdd, Nat.reduceMul, Nat.reduceLeDiff, Int.reduceEq, Int.reduceLT, Int.reduceLE, Int.reduceAdd, Int.reduceSub, Int.reduceMul, ↓reduceIte, Nat.reduceEqDiff, reduceCtorEq, ↓cnd_true, ↓cnd_false] <;> rfl

theorem U64 (k : Int) (e : Nat) (n : Nat) (a : Int) (m : Int) (p : List UInt8) (H : AHeap) : AC A 64 [.agg [.int .i64 k, .int .u64 (e : Int), .int .u64 (n : Int), .int .i64 a, .int .i64 m, .str p]] H = some (.bool (Sec.ok ⟨k, e, n, a, m, p⟩), H) := by
  refine one_val (x := DnFns.c64) rfl rfl rfl rfl rfl ?_ H
  unfold Sec.ok short
  cases c1 : decide (0 < k) <;> cases c2 : decide (k < 5) <;> cases c3 : decide (0 ≤ a) <;> cases c4 : decide (a ≤ 65535) <;> cases c5 : decide (0 ≤ m) <;> cases c6 : decide (m ≤ 65535) <;> simp only [c64, ng3, ng4, ngl480, c1, c2, c3, c4, c5, c6, rwA, rwB, Nat.reduceAdd, Nat.reduceMul, Nat.reduceLeDiff, Int.reduceEq, Int.reduceLT, Int.reduceLE, Int.reduceAdd, Int.reduceSub, Int.reduceMul, ↓reduceIte, Nat.reduceEqDiff, reduceCtorEq, ↓cnd_true, ↓cnd_false] <;> simp

/-! ### The bytes -/
theorem cat (a b : List UInt8) (h : a.length + b.length ≤ 9223372036854775807) : abin .add (.str a) (.str b) = some (.str (a ++ b)) := b_cat a b h
theorem to64 (x : BitVec 32) (H : AHeap) : intX .u64 H (u x) = some (.int .u64 ((x.toNat : Nat) : Int), H) := by
  simp only [u, int_int]
  rw [wrap_u64 _ (by have := x.isLt; omega)]
theorem z0 : (0 : Int) = ((0 : Nat) : Int) := rfl
theorem top_left (s : Sec) : num 1 (un s.kind) ++ num 1 0 ++ num 2 (un s.at') ++ num 2 (un s.many) ++ num 2 0 ++ num 8 s.epoch ++ num 8 s.number ++ num 4 0 = s.top := by unfold Sec.top; simp only [List.append_assoc]
theorem bytes_left (s : Sec) : s.top ++ num 4 (crc (s.top ++ s.page)) ++ s.page = s.bytes := by unfold Sec.bytes; simp only [List.append_assoc]
theorem crc_parts (a b : List UInt8) : (more (more 0#32 a) b).toNat = crc (a ++ b) := by unfold crc; rw [more_app]

theorem U56 (k : Int) (e : Nat) (n : Nat) (a : Int) (m : Int) (p : List UInt8) (H : AHeap) : AC A 56 [.agg [.int .i64 k, .int .u64 (e : Int), .int .u64 (n : Int), .int .i64 a, .int .i64 m, .str p]] H = some (.tuple [.str (Sec.sealb ⟨k, e, n, a, m, p⟩), .int .i64 (Sec.no ⟨k, e, n, a, m, p⟩)], H) := by
  refine one_val (x := DnFns.c56) rfl rfl rfl rfl rfl ?_ H
  cases c1 : Sec.ok ⟨k, e, n, a, m, p⟩
  · have e1 : Sec.sealb ⟨k, e, n, a, m, p⟩ = [] := by unfold Sec.sealb; rw [c1]; rfl
    have e2 : Sec.no ⟨k, e, n, a, m, p⟩ = 18 := by unfold Sec.no; rw [c1]; rfl
    simp only [c56, U67, e1, e2, rwA, rwB, Nat.reduceAdd, Nat.reduceMul, Nat.reduceLeDiff, Int.reduceEq, Int.reduceLT, Int.reduceLE, Int.reduceAdd, Int.reduceSub, Int.reduceMul, ↓reduceIte, Nat.reduceEqDiff, reduceCtorEq, ↓cnd_true, ↓cnd_false]
  · have e1 : Sec.sealb ⟨k, e, n, a, m, p⟩ = Sec.bytes ⟨k, e, n, a, m, p⟩ := by unfold Sec.sealb; rw [c1]; rfl
    have e2 : Sec.no ⟨k, e, n, a, m, p⟩ = 0 := by unfold Sec.no; rw [c1]; rfl
    have hp : p.length = 480 := (ok_is c1).2.2.2
    have t := top_left ⟨k, e, n, a, m, p⟩
    have b := bytes_left ⟨k, e, n, a, m, p⟩
    simp only at t b
    obtain ⟨T, hT⟩ : ∃ T, Sec.top ⟨k, e, n, a, m, p⟩ = T := ⟨_, rfl⟩
    have lT : T.length = 28 := by rw [← hT, top_len]
    rw [hT] at t b
    have n1 := U68 1 0
    have n2 := U68 2 0
    have n4 := U68 4 0
    rw [← z0] at n1 n2 n4
    have u47 := U70 T (by omega)
    have u46 := U69 (more 0#32 T) p (by omega)
    simp only [c56, U67, e1, e2, wu, n1, n2, n4, U68, cat, List.length_append, len1, len2, len4, len8, t, lT, hp, u47, u46, to64, crc_parts, b, rwA, rwB, Nat.reduceAdd, Nat.reduceMul, Nat.reduceLeDiff, Int.reduceEq, Int.reduceLT, Int.reduceLE, Int.reduceAdd, Int.reduceSub, Int.reduceMul, ↓reduceIte, Nat.reduceEqDiff, reduceCtorEq, ↓cnd_true, ↓cnd_false]

/-! ### The reference's sums -/
theorem rem2 (r : BitVec 32) : abin .rem (u r) (.int .u32 2) = some (u (r &&& 1#32)) := by
  have e : (r &&& 1#32).toNat = r.toNat % 2 := by rw [BitVec.toNat_and]; exact Nat.and_two_pow_sub_one_eq_mod r.toNat 1
  have := b_int .rem .u32 (r.toNat : Int) 2 (by decide) (by decide)
  refine this.trans ?_
  simp only [aint, u, e]
  rw [if_neg (by decide), Int.tmod_eq_emod_of_nonneg (by omega)]
  rfl
theorem quo2 (r : BitVec 32) : abin .quo (u r) (.int .u32 2) = some (u (r >>> 1)) := by
  have e : (r >>> 1).toNat = r.toNat / 2 := by rw [BitVec.toNat_ushiftRight, Nat.shiftRight_eq_div_pow]
  have := b_int .quo .u32 (r.toNat : Int) 2 (by decide) (by decide)
  refine this.trans ?_
  simp only [aint, u, e]
  rw [if_neg (by decide), Int.tdiv_eq_ediv_of_nonneg (by omega)]
  have h : ((r.toNat : Int) / 2) = ((r.toNat / 2 : Nat) : Int) := by omega
  rw [h, wrap_u32 _ (by have := r.isLt; omega)]
def halfs : Nat → BitVec 32 → BitVec 32
  | 0, x => x
  | n + 1, x => half (halfs n x)
theorem halfs8 (x : BitVec 32) : halfs 8 x = Z x := rfl
theorem half_odd (r : BitVec 32) : half r = if decide (r &&& 1#32 = 1#32) then (r >>> 1) ^^^ 3945912366#32 else r >>> 1 := by
  rw [half_is, and_one]
  cases r.getLsbD 0 <;> simp
def b95 : ACode := (.seq (.seq (.region [⟨(some 11), (.mv (.tmp 5)), none, none⟩, ⟨(some 12), (.bin .lss (.tmp 11) (.con (.int .i64 8))), none, none⟩]) (.cond (.tmp 12) .skip (.exit 0))) (.seq (.block 1 (.seq (.region [⟨(some 15), (.mv (.tmp 0)), none, none⟩, ⟨(some 16), (.bin .rem (.tmp 15) (.con (.int .u32 2))), none, none⟩, ⟨(some 17), (.bin .eql (.tmp 16) (.con (.int .u32 1))), none, none⟩, ⟨(some 6), (.mv (.tmp 17)), none, none⟩]) (.seq (.region [⟨(some 18), (.mv (.tmp 0)), none, none⟩, ⟨(some 19), (.bin .quo (.tmp 18) (.con (.int .u32 2))), none, none⟩, ⟨(some 0), (.mv (.tmp 19)), none, none⟩]) (.seq (.region [⟨(some 20), (.mv (.tmp 6)), none, none⟩]) (.cond (.tmp 20) (.region [⟨(some 21), (.mv (.tmp 0)), none, none⟩, ⟨(some 22), (.bin .xor (.tmp 21) (.con (.int .u32 3945912366))), none, none⟩, ⟨(some 0), (.mv (.tmp 22)), none, none⟩]) .skip))))) (.region [⟨(some 13), (.mv (.tmp 5)), none, none⟩, ⟨(some 14), (.bin .add (.tmp 13) (.con (.int .i64 1))), none, none⟩, ⟨(some 5), (.mv (.tmp 14)), none, none⟩])))
theorem loop95 {x : BitVec 32} {env : Env} {H : AHeap} (h0 : env 0 = u x) (h5 : env 5 = .int .i64 0) :
    Outs (AX A (.loop b95) env H) fun e env' H' => e = .exit 0 ∧ env' 0 = u (Z x) := by
  refine loop_ends (I := fun (j : Nat) env' H' => j ≤ 8 ∧ env' 0 = u (halfs j x) ∧ env' 5 = .int .i64 (j : Int)) (fun j => 8 - j) ?_ 0 env H ⟨by decide, h0, h5⟩
  rintro j env' H' ⟨hj, h0, h5⟩
  by_cases hlt : j < 8
  · have e1 : decide ((j : Int) < 8) = true := by simp; omega
    have w1 : IntKind.i64.wrap ((j : Int) + 1) = ((j + 1 : Nat) : Int) := by rw [wrap_i64]; omega
    have hh := half_odd (halfs j x)
    cases c1 : decide (halfs j x &&& 1#32 = 1#32)
    · simp only [b95, h0, h5, e1, w1, rem2, quo2, k1, kp, x_eql, x_xor, c1, rwA, rwB, Nat.reduceAdd, Nat.reduceMul, Nat.reduceLeDiff, Int.reduceEq, Int.reduceLT, Int.reduceLE, Int.reduceAdd, Int.reduceSub, Int.reduceMul, ↓reduceIte, Nat.reduceEqDiff, reduceCtorEq, ↓cnd_true, ↓cnd_false]
      rw [outs_some]
      rw [c1] at hh
      refine .inl ⟨rfl, j + 1, by omega, by omega, ?_, by simp [Env.set]⟩
      simp only [halfs, hh, rwA, rwB, Nat.reduceAdd, Nat.reduceMul, Nat.reduceLeDiff, Int.reduceEq, Int.reduceLT, Int.reduceLE, Int.reduceAdd, Int.reduceSub, Int.reduceMul, ↓reduceIte, Nat.reduceEqDiff, reduceCtorEq, ↓cnd_true, ↓cnd_false]
      try rfl
    · simp only [b95, h0, h5, e1, w1, rem2, quo2, k1, kp, x_eql, x_xor, c1, rwA, rwB, Nat.reduceAdd, Nat.reduceMul, Nat.reduceLeDiff, Int.reduceEq, Int.reduceLT, Int.reduceLE, Int.reduceAdd, Int.reduceSub, Int.reduceMul, ↓reduceIte, Nat.reduceEqDiff, reduceCtorEq, ↓cnd_true, ↓cnd_false]
      rw [outs_some]
      rw [c1] at hh
      refine .inl ⟨rfl, j + 1, by omega, by omega, ?_, by simp [Env.set]⟩
      simp only [halfs, hh, rwA, rwB, Nat.reduceAdd, Nat.reduceMul, Nat.reduceLeDiff, Int.reduceEq, Int.reduceLT, Int.reduceLE, Int.reduceAdd, Int.reduceSub, Int.reduceMul, ↓reduceIte, Nat.reduceEqDiff, reduceCtorEq, ↓cnd_true, ↓cnd_false]
  · have e1 : decide ((j : Int) < 8) = false := by simp; omega
    have : j = 8 := by omega
    subst this
    simp only [b95, h5, e1, rwA, rwB, Nat.reduceAdd, Nat.reduceMul, Nat.reduceLeDiff, Int.reduceEq, Int.reduceLT, Int.reduceLE, Int.reduceAdd, Int.reduceSub, Int.reduceMul, ↓reduceIte, Nat.reduceEqDiff, reduceCtorEq, ↓cnd_true, ↓cnd_false]
    rw [outs_some]
    exact .inr ⟨by simp, rfl, by simp [Env.set, h0, halfs8]⟩

theorem U95 (r : BitVec 32) (c : UInt8) (H : AHeap) : AC A 95 [u r, by8 c] H = some (u (byte r c), H) := by
  refine one_val (x := DnFns.c95) rfl rfl rfl rfl rfl ?_ H
  have e : intX .u32 noH (by8 c) = some (u (BitVec.ofNat 32 c.toNat), noH) := by
    show intX .u32 noH (.int .u8 (c.toNat : Int)) = _
    simp only [int_int, of8]
  simp only [c95, e, x_xor, rwA, rwB, Nat.reduceAdd, Nat.reduceMul, Nat.reduceLeDiff, Int.reduceEq, Int.reduceLT, Int.reduceLE, Int.reduceAdd, Int.reduceSub, Int.reduceMul, ↓reduceIte, Nat.reduceEqDiff, reduceCtorEq, ↓cnd_true, ↓cnd_false]
  repeat (first | refine outs_seq ?_ | refine outs_block ?_ | refine outs_step ?_ | refine outs_stepD ?_ | refine rets_end ?_ | refine ans_end ?_)
  refine (loop95 (x := r ^^^ BitVec.ofNat 32 c.toNat) ?_ ?_).mono ?_
  · simp only [rwA, rwB, Nat.reduceAdd, Nat.reduceMul, Nat.reduceLeDiff, Int.reduceEq, Int.reduceLT, Int.reduceLE, Int.reduceAdd, Int.reduceSub, Int.reduceMul, ↓reduceIte, Nat.reduceEqDiff, reduceCtorEq, ↓cnd_true, ↓cnd_false]
  · simp only [rwA, rwB, Nat.reduceAdd, Nat.reduceMul, Nat.reduceLeDiff, Int.reduceEq, Int.reduceLT, Int.reduceLE, Int.reduceAdd, Int.reduceSub, Int.reduceMul, ↓reduceIte, Nat.reduceEqDiff, reduceCtorEq, ↓cnd_true, ↓cnd_false]
  · rintro e env H ⟨rfl, h0⟩
    simp only [outs_some, h0, rwA, rwB, Nat.reduceAdd, Nat.reduceMul, Nat.reduceLeDiff, Int.reduceEq, Int.reduceLT, Int.reduceLE, Int.reduceAdd, Int.reduceSub, Int.reduceMul, ↓reduceIte, Nat.reduceEqDiff, reduceCtorEq, ↓cnd_true, ↓cnd_false]
    rfl

def b82 : ACode := (.seq (.seq (.region [⟨(some 9), (.mv (.tmp 6)), none, none⟩, ⟨(some 10), (.mv (.tmp 1)), none, none⟩, ⟨(some 11), (.len true (.tmp 10)), none, none⟩, ⟨(some 12), (.bin .lss (.tmp 9) (.tmp 11)), none, none⟩]) (.cond (.tmp 12) .skip (.exit 0))) (.seq (.block 1 (.region [⟨(some 15), (.mv (.tmp 5)), none, none⟩, ⟨(some 16), (.mv (.tmp 1)), none, none⟩, ⟨(some 17), (.mv (.tmp 6)), none, none⟩, ⟨(some 18), (.idxStr (.tmp 16) (.tmp 17)), none, none⟩, ⟨(some 19), (.call (.con (.func 95 [] [])) [(.tmp 15), (.tmp 18)]), none, none⟩, ⟨(some 5), (.mv (.tmp 19)), none, none⟩])) (.region [⟨(some 13), (.mv (.tmp 6)), none, none⟩, ⟨(some 14), (.bin .add (.tmp 13) (.con (.int .i64 1))), none, none⟩, ⟨(some 6), (.mv (.tmp 14)), none, none⟩])))
theorem loop82 {s : List UInt8} (hs : s.length < 9223372036854775807) {x : BitVec 32} {env : Env} {H : AHeap} (h1 : env 1 = .str s) (h5 : env 5 = u x) (h6 : env 6 = .int .i64 0) :
    Outs (AX A (.loop b82) env H) fun e env' H' => e = .exit 0 ∧ env' 5 = u (s.foldl byte x) := by
  refine loop_ends (I := fun (j : Nat) env' H' => j ≤ s.length ∧ env' 1 = .str s ∧ env' 5 = u ((s.take j).foldl byte x) ∧ env' 6 = .int .i64 (j : Int)) (fun j => s.length - j) ?_ 0 env H ⟨Nat.zero_le _, h1, h5, h6⟩
  rintro j env' H' ⟨hj, h1, h5, h6⟩
  by_cases hlt : j < s.length
  · have e1 : decide ((j : Int) < (s.length : Int)) = true := by simp; omega
    have w1 : IntKind.i64.wrap ((j : Int) + 1) = ((j + 1 : Nat) : Int) := by rw [wrap_i64]; omega
    have ha : aidx s.length (.int .i64 (j : Int)) = some j := by simp [aidx]; omega
    have hg : s[j]? = some s[j] := List.getElem?_eq_getElem hlt
    have hb : AVal.int .u8 (s[j].toNat : Int) = by8 s[j] := rfl
    simp only [b82, h1, h5, h6, e1, w1, ha, hg, hb, U95, rwA, rwB, Nat.reduceAdd, Nat.reduceMul, Nat.reduceLeDiff, Int.reduceEq, Int.reduceLT, Int.reduceLE, Int.reduceAdd, Int.reduceSub, Int.reduceMul, ↓reduceIte, Nat.reduceEqDiff, reduceCtorEq, ↓cnd_true, ↓cnd_false]
    rw [outs_some]
    refine .inl ⟨rfl, j + 1, by omega, by omega, by simp [Env.set, h1], ?_, by simp [Env.set]⟩
    rw [List.take_succ_eq_append_getElem hlt, List.foldl_append]
    simp [Env.set]
  · have e1 : decide ((j : Int) < (s.length : Int)) = false := by simp; omega
    have : j = s.length := by omega
    subst this
    simp only [b82, h1, h6, e1, rwA, rwB, Nat.reduceAdd, Nat.reduceMul, Nat.reduceLeDiff, Int.reduceEq, Int.reduceLT, Int.reduceLE, Int.reduceAdd, Int.reduceSub, Int.reduceMul, ↓reduceIte, Nat.reduceEqDiff, reduceCtorEq, ↓cnd_true, ↓cnd_false]
    rw [outs_some]
    refine .inr ⟨by simp, rfl, ?_⟩
    simp only [rwA, rwB, Nat.reduceAdd, Nat.reduceMul, Nat.reduceLeDiff, Int.reduceEq, Int.reduceLT, Int.reduceLE, Int.reduceAdd, Int.reduceSub, Int.reduceMul, ↓reduceIte, Nat.reduceEqDiff, reduceCtorEq, ↓cnd_true, ↓cnd_false]
    rw [h5, List.take_length]
theorem U82 (x : BitVec 32) (s : List UInt8) (hl : s.length < 9223372036854775807) (H : AHeap) : AC A 82 [u x, .str s] H = some (u (more x s), H) := by
  refine one_val (x := DnFns.c82) rfl rfl rfl rfl rfl ?_ H
  simp only [c82, kff, x_xor, rwA, rwB, Nat.reduceAdd, Nat.reduceMul, Nat.reduceLeDiff, Int.reduceEq, Int.reduceLT, Int.reduceLE, Int.reduceAdd, Int.reduceSub, Int.reduceMul, ↓reduceIte, Nat.reduceEqDiff, reduceCtorEq, ↓cnd_true, ↓cnd_false]
  repeat (first | refine outs_seq ?_ | refine outs_block ?_ | refine outs_step ?_ | refine outs_stepD ?_ | refine rets_end ?_ | refine ans_end ?_)
  refine (loop82 hl (x := x ^^^ 4294967295#32) ?_ ?_ ?_).mono ?_
  · simp only [rwA, rwB, Nat.reduceAdd, Nat.reduceMul, Nat.reduceLeDiff, Int.reduceEq, Int.reduceLT, Int.reduceLE, Int.reduceAdd, Int.reduceSub, Int.reduceMul, ↓reduceIte, Nat.reduceEqDiff, reduceCtorEq, ↓cnd_true, ↓cnd_false]
  · simp only [rwA, rwB, Nat.reduceAdd, Nat.reduceMul, Nat.reduceLeDiff, Int.reduceEq, Int.reduceLT, Int.reduceLE, Int.reduceAdd, Int.reduceSub, Int.reduceMul, ↓reduceIte, Nat.reduceEqDiff, reduceCtorEq, ↓cnd_true, ↓cnd_false]
  · simp only [rwA, rwB, Nat.reduceAdd, Nat.reduceMul, Nat.reduceLeDiff, Int.reduceEq, Int.reduceLT, Int.reduceLE, Int.reduceAdd, Int.reduceSub, Int.reduceMul, ↓reduceIte, Nat.reduceEqDiff, reduceCtorEq, ↓cnd_true, ↓cnd_false]
  · rintro e env H ⟨rfl, h5⟩
    simp only [outs_some, h5, kff, x_xor, rwA, rwB, Nat.reduceAdd, Nat.reduceMul, Nat.reduceLeDiff, Int.reduceEq, Int.reduceLT, Int.reduceLE, Int.reduceAdd, Int.reduceSub, Int.reduceMul, ↓reduceIte, Nat.reduceEqDiff, reduceCtorEq, ↓cnd_true, ↓cnd_false]
    rfl
theorem U66 (s : List UInt8) (hl : s.length < 9223372036854775807) (H : AHeap) : AC A 66 [.str s] H = some (u (more 0#32 s), H) := by
  refine one_val (x := DnFns.c66) rfl rfl rfl rfl rfl ?_ H
  have e := U82 0#32 s hl noH
  rw [← k0] at e
  simp only [c66, e, rwA, rwB, Nat.reduceAdd, Nat.reduceMul, Nat.reduceLeDiff, Int.reduceEq, Int.reduceLT, Int.reduceLE, Int.reduceAdd, Int.reduceSub, Int.reduceMul, ↓reduceIte, Nat.reduceEqDiff, reduceCtorEq, ↓cnd_true, ↓cnd_false]

theorem nz1 : num 1 0 = [0] := by kernel_rfl
theorem nz2 : num 2 0 = [0, 0] := by kernel_rfl
theorem nz4 : num 4 0 = [0, 0, 0, 0] := by kernel_rfl
theorem top_ref (s : Sec) : num 1 (un s.kind) ++ [0] ++ num 2 (un s.at') ++ num 2 (un s.many) ++ [0, 0] ++ num 8 s.epoch ++ num 8 s.number ++ [0, 0, 0, 0] = s.top := by rw [← nz4, ← nz2, ← nz1, top_left]
theorem U55 (k : Int) (e n : Nat) (a m : Int) (p : List UInt8) (he : e < 18446744073709551616) (hn : n < 18446744073709551616) (H : AHeap) : AC A 55 [.agg [.int .i64 k, .int .u64 (e : Int), .int .u64 (n : Int), .int .i64 a, .int .i64 m, .str p]] H = some (.tuple [.str (Sec.sealb ⟨k, e, n, a, m, p⟩), .int .i64 (Sec.no ⟨k, e, n, a, m, p⟩)], H) := by
  refine one_val (x := DnFns.c55) rfl rfl rfl rfl rfl ?_ H
  cases c1 : Sec.ok ⟨k, e, n, a, m, p⟩
  · have e1 : Sec.sealb ⟨k, e, n, a, m, p⟩ = [] := by unfold Sec.sealb; rw [c1]; rfl
    have e2 : Sec.no ⟨k, e, n, a, m, p⟩ = 18 := by unfold Sec.no; rw [c1]; rfl
    simp only [c55, U64, c1, e1, e2, rwA, rwB, Nat.reduceAdd, Nat.reduceMul, Nat.reduceLeDiff, Int.reduceEq, Int.reduceLT, Int.reduceLE, Int.reduceAdd, Int.reduceSub, Int.reduceMul, ↓reduceIte, Nat.reduceEqDiff, reduceCtorEq, ↓cnd_true, ↓cnd_false]
  · have e1 : Sec.sealb ⟨k, e, n, a, m, p⟩ = Sec.bytes ⟨k, e, n, a, m, p⟩ := by unfold Sec.sealb; rw [c1]; rfl
    have e2 : Sec.no ⟨k, e, n, a, m, p⟩ = 0 := by unfold Sec.no; rw [c1]; rfl
    have hp : p.length = 480 := (ok_is c1).2.2.2
    have t := top_ref ⟨k, e, n, a, m, p⟩
    have b := bytes_left ⟨k, e, n, a, m, p⟩
    simp only at t b
    obtain ⟨T, hT⟩ : ∃ T, Sec.top ⟨k, e, n, a, m, p⟩ = T := ⟨_, rfl⟩
    have lT : T.length = 28 := by rw [← hT, top_len]
    rw [hT] at t b
    have n1 := U65 1 _ (un_lt k)
    have n2 := U65 2 _ (un_lt a)
    have n3 := U65 2 _ (un_lt m)
    have n4 := U65 8 e he
    have n5 := U65 8 n hn
    have n6 := U65 4 (crc (T ++ p)) (by unfold crc; have := (more 0#32 (T ++ p)).isLt; omega)
    have hc : (more 0#32 (T ++ p)).toNat = crc (T ++ p) := rfl
    have u49 := U66 (T ++ p) (by rw [List.length_append]; omega)
    simp only [c55, U64, c1, e1, e2, wu, n1, n2, n3, n4, n5, n6, cat, List.length_append, len1, len2, len4, len8, t, lT, hp, u49, to64, hc, b, rwA, rwB, Nat.reduceAdd, Nat.reduceMul, Nat.reduceLeDiff, Int.reduceEq, Int.reduceLT, Int.reduceLE, Int.reduceAdd, Int.reduceSub, Int.reduceMul, ↓reduceIte, Nat.reduceEqDiff, reduceCtorEq, ↓cnd_true, ↓cnd_false]

end Go.Proofs.YtilhjcnkaelheaaGreat.Sd
end

section
/- The sectors: opening bytes. -/
set_option maxRecDepth 100000
set_option linter.unusedSimpArgs false
set_option linter.unusedVariables false
set_option maxHeartbeats 4000000
namespace Go.Proofs.YtilhjcnkaelheaaGreat.Sd
open Go Go.Proofs.YtilhjcnkaelheaaGreat.Am DnFns Go.RowKit

def st (x : List UInt8 × Int) (w : Nat) : List UInt8 × Int := ((raw x.1 x.2 (w : Int)).1, (raw x.1 x.2 (w : Int)).2.1)
def va (x : List UInt8 × Int) (w : Nat) : Nat := be (raw x.1 x.2 (w : Int)).2.2
def steps : List Nat → List UInt8 × Int → List UInt8 × Int
  | [], x => x
  | w :: l, x => steps l (st x w)
theorem st_ok (s : List UInt8) (w : Nat) (h : w ≤ s.length) : st (s, 0) w = (s.drop w, 0) := by
  unfold st raw
  simp only
  rw [if_neg (by simp), if_neg (by omega), if_neg (by omega), Int.toNat_natCast]
theorem va_ok (s : List UInt8) (w : Nat) (h : w ≤ s.length) : va (s, 0) w = be (s.take w) := by
  unfold va raw
  simp only
  rw [if_neg (by simp), if_neg (by omega), if_neg (by omega), Int.toNat_natCast]
/-! ### Memory in which one object alone is written -/
def Kp (p : Nat) (H K : AHeap) : Prop := H.next ≤ K.next ∧ ∀ i, i ≠ p → i < H.next → K.obj i = H.obj i
theorem Kp.refl (p : Nat) (H : AHeap) : Kp p H H := ⟨Nat.le_refl _, fun _ _ _ => rfl⟩
theorem Kp.trans {p : Nat} {a b c : AHeap} (h : Kp p a b) (k : Kp p b c) : Kp p a c := ⟨Nat.le_trans h.1 k.1, fun i hp hi => (k.2 i hp (Nat.lt_of_lt_of_le hi h.1)).trans (h.2 i hp hi)⟩
theorem Kp.set (p : Nat) (H : AHeap) (o : AObj) : Kp p H (H.set p o) := ⟨Nat.le_refl _, fun i hp _ => by simp only [set_obj]; rw [if_neg hp]⟩
theorem Kp.new (p : Nat) (H : AHeap) (o : AObj) : Kp p H (H.new o) := ⟨Nat.le_succ _, fun i _ hi => by simp only [new_obj]; rw [if_neg (by omega)]⟩

def Rs (H : AHeap) (p : Nat) (x : List UInt8 × Int) : Prop := Rd H p x.1 x.2 ∧ p < H.next
theorem readS {H : AHeap} {p : Nat} {x : List UInt8 × Int} (h : Rs H p x) (w : Nat) (hw : 1 ≤ w ∧ w ≤ 8) :
    ∃ K, AC A 79 [.ptr p 0, .int .i64 (w : Int)] H = some (.int .u64 (va x w : Int), K) ∧ Rs K p (st x w) ∧ Kp p H K := by
  have u := U79 h.1 (w : Int)
  rw [show wid (w : Int) = (w : Int) by unfold wid; rw [if_pos (by omega)]] at u
  refine ⟨_, u, ⟨?_, by simp only [new_next, set_next]; have := h.2; omega⟩, (Kp.set p H _).trans (Kp.new p _ _)⟩
  unfold Rd st
  simp only [new_obj, set_next, set_obj]
  rw [if_neg (by have := h.2; omega), if_pos trivial]
  rfl

theorem st_at {s : List UInt8} {k w : Nat} (h : k + w ≤ s.length) : st (s.drop k, 0) w = (s.drop (k + w), 0) := by
  rw [st_ok _ _ (by rw [List.length_drop]; omega), List.drop_drop]
theorem va_at {s : List UInt8} {k w : Nat} (h : k + w ≤ s.length) : va (s.drop k, 0) w = wd s k w := by
  rw [va_ok _ _ (by rw [List.length_drop]; omega)]
  unfold wd
  rw [if_neg (by omega)]
theorem va_at0 {s : List UInt8} {w : Nat} (h : w ≤ s.length) : va (s, 0) w = wd s 0 w := va_at (s := s) (k := 0) (by omega)
theorem st_at0 {s : List UInt8} {w : Nat} (h : w ≤ s.length) : st (s, 0) w = (s.drop w, 0) := st_ok s w h

def f1 (b : List UInt8) : List UInt8 × Int := st (b, 0) 1
def f2 (b : List UInt8) : List UInt8 × Int := st (f1 b) 1
def f3 (b : List UInt8) : List UInt8 × Int := st (f2 b) 2
def f4 (b : List UInt8) : List UInt8 × Int := st (f3 b) 2
def f5 (b : List UInt8) : List UInt8 × Int := st (f4 b) 2
def f6 (b : List UInt8) : List UInt8 × Int := st (f5 b) 8
def f7 (b : List UInt8) : List UInt8 × Int := st (f6 b) 8
def f8 (b : List UInt8) : List UInt8 × Int := st (f7 b) 8
def fr (b : List UInt8) : Sec := ⟨wi (va (b, 0) 1), va (f5 b) 8, va (f6 b) 8, wi (va (f2 b) 2), wi (va (f3 b) 2), (raw (f8 b).1 (f8 b).2 480).2.2⟩

theorem fr_same {b : List UInt8} (h : b.length = 512) : fr b = had b := by
  have e1 : f1 b = (b.drop 1, 0) := by unfold f1; rw [st_at0 (by omega)]
  have e2 : f2 b = (b.drop 2, 0) := by unfold f2; rw [e1, st_at (by omega)]
  have e3 : f3 b = (b.drop 4, 0) := by unfold f3; rw [e2, st_at (by omega)]
  have e4 : f4 b = (b.drop 6, 0) := by unfold f4; rw [e3, st_at (by omega)]
  have e5 : f5 b = (b.drop 8, 0) := by unfold f5; rw [e4, st_at (by omega)]
  have e6 : f6 b = (b.drop 16, 0) := by unfold f6; rw [e5, st_at (by omega)]
  have e7 : f7 b = (b.drop 24, 0) := by unfold f7; rw [e6, st_at (by omega)]
  have e8 : f8 b = (b.drop 32, 0) := by unfold f8; rw [e7, st_at (by omega)]
  unfold fr had
  rw [e2, e3, e5, e6, e8, va_at0 (by omega), va_at (by omega), va_at (by omega), va_at (by omega), va_at (by omega)]
  have : (raw (b.drop 32) 0 480).2.2 = b.drop 32 := by
    unfold raw
    rw [if_neg (by simp), if_neg (by omega), if_neg (by rw [List.length_drop]; omega)]
    exact List.take_of_length_le (by rw [List.length_drop]; omega)
  rw [this]

theorem fr_fits (b : List UInt8) : (fits b = false ∧ ((fr b).ok = false ∨ decide ((fr b).bytes = b) = false)) ∨ (fits b = true ∧ fr b = had b ∧ (fr b).ok = true ∧ (fr b).bytes = b) := by
  by_cases h : b.length = 512
  · have e := fr_same h
    cases hf : fits b
    · refine .inl ⟨rfl, ?_⟩
      rw [e]
      unfold fits at hf
      rw [h] at hf
      simpa [Decidable.or_iff_not_imp_left] using hf
    · refine .inr ⟨rfl, e, ?_⟩
      rw [e]
      exact fits_is hf
  · refine .inl ⟨?_, ?_⟩
    · unfold fits
      rw [decide_eq_false h]
      rfl
    · cases hk : (fr b).ok
      · exact .inl rfl
      · refine .inr (decide_eq_false fun hb => h ?_)
        rw [← hb, bytes_len, (ok_is hk).2.2.2]

theorem fr_seal (b : List UInt8) : ((fr b).ok = false ∧ (fr b).sealb = [] ∧ (fr b).no = 18) ∨ ((fr b).ok = true ∧ (fr b).sealb = (fr b).bytes ∧ (fr b).no = 0) := by
  cases h : (fr b).ok
  · exact .inl ⟨rfl, by unfold Sec.sealb; rw [h]; rfl, by unfold Sec.no; rw [h]; rfl⟩
  · exact .inr ⟨rfl, by unfold Sec.sealb; rw [h]; rfl, by unfold Sec.no; rw [h]; rfl⟩

theorem U60 (b : List UInt8) (H : AHeap) : AC A 60 [.str b] H = some (.tuple [.agg (opened b).cells, .int .i64 (unfit b)], H) := by
  refine one_val (x := DnFns.c60) rfl rfl rfl rfl rfl ?_ H
  obtain ⟨H0, eH0⟩ : ∃ K, (noH.new (.cells [.int .i64 0, .int .u64 0, .int .u64 0, .int .i64 0, .int .i64 0, .str []] true)).new (rd b 0) = K := ⟨_, rfl⟩
  have n0 : H0.next = 2 := by rw [← eH0]; rfl
  have r0 : Rs H0 1 (b, 0) := ⟨by unfold Rd; rw [← eH0]; simp [AHeap.new, noH, rd], by omega⟩
  have o0 : H0.obj 0 = some (.cells [.int .i64 0, .int .u64 0, .int .u64 0, .int .i64 0, .int .i64 0, .str []] true) := by rw [← eH0]; simp [AHeap.new, noH]
  obtain ⟨K1, u1, r1, x1⟩ := readS r0 1 (by omega)
  have g1 := x1.1
  obtain ⟨k, ek⟩ : ∃ x, wi (va (b, 0) 1) = x := ⟨_, rfl⟩
  obtain ⟨K2, eK2⟩ : ∃ K, (K1.new (.cells [.int .i64 0, .int .u64 0, .int .u64 0, .int .i64 0, .int .i64 0, .str []] true)).set K1.next (.cells [.int .i64 k, .int .u64 0, .int .u64 0, .int .i64 0, .int .i64 0, .str []] true) = K := ⟨_, rfl⟩
  have n2 : K2.next = K1.next + 1 := by rw [← eK2]; rfl
  have k2 : ∀ i, i < K1.next → K2.obj i = K1.obj i := fun i hi => by rw [← eK2]; simp only [set_obj, new_obj]; rw [if_neg (by omega), if_neg (by omega)]
  have r2 : Rs K2 1 (f1 b) := ⟨by unfold Rd; rw [k2 1 (by omega)]; exact r1.1, by omega⟩
  have q2 : K2.obj K1.next = some (.cells [.int .i64 k, .int .u64 0, .int .u64 0, .int .i64 0, .int .i64 0, .str []] true) := by rw [← eK2]; simp [AHeap.set]
  obtain ⟨K3, u3, r3, x3⟩ := readS r2 1 (by omega)
  obtain ⟨K4, u4, r4, x4⟩ := readS r3 2 (by omega)
  obtain ⟨K5, u5, r5, x5⟩ := readS r4 2 (by omega)
  have y5 := x3.trans (x4.trans x5)
  have g5 := y5.1
  have q5 : K5.obj K1.next = some (.cells [.int .i64 k, .int .u64 0, .int .u64 0, .int .i64 0, .int .i64 0, .str []] true) := by rw [y5.2 _ (by omega) (by omega)]; exact q2
  obtain ⟨a, ea⟩ : ∃ x, wi (va (f2 b) 2) = x := ⟨_, rfl⟩
  obtain ⟨m, em⟩ : ∃ x, wi (va (f3 b) 2) = x := ⟨_, rfl⟩
  obtain ⟨K6, eK6⟩ : ∃ K, K5.set K1.next (.cells [.int .i64 k, .int .u64 0, .int .u64 0, .int .i64 a, .int .i64 0, .str []] true) = K := ⟨_, rfl⟩
  have q6 : K6.obj K1.next = some (.cells [.int .i64 k, .int .u64 0, .int .u64 0, .int .i64 a, .int .i64 0, .str []] true) := by rw [← eK6]; simp [AHeap.set]
  obtain ⟨K7, eK7⟩ : ∃ K, K6.set K1.next (.cells [.int .i64 k, .int .u64 0, .int .u64 0, .int .i64 a, .int .i64 m, .str []] true) = K := ⟨_, rfl⟩
  have q7 : K7.obj K1.next = some (.cells [.int .i64 k, .int .u64 0, .int .u64 0, .int .i64 a, .int .i64 m, .str []] true) := by rw [← eK7]; simp [AHeap.set]
  have k7 : ∀ i, i ≠ K1.next → K7.obj i = K5.obj i := fun i hi => by rw [← eK7, ← eK6]; simp only [set_obj]; rw [if_neg hi, if_neg hi]
  have n7 : K7.next = K5.next := by rw [← eK7, ← eK6]; rfl
  have r7 : Rs K7 1 (f4 b) := ⟨by unfold Rd; rw [k7 1 (by omega)]; exact r5.1, by omega⟩
  obtain ⟨K8, u8, r8, x8⟩ := readS r7 2 (by omega)
  obtain ⟨K9, u9, r9, x9⟩ := readS r8 8 (by omega)
  obtain ⟨K10, u10, r10, x10⟩ := readS r9 8 (by omega)
  have y10 := x8.trans (x9.trans x10)
  have g10 := y10.1
  have q10 : K10.obj K1.next = some (.cells [.int .i64 k, .int .u64 0, .int .u64 0, .int .i64 a, .int .i64 m, .str []] true) := by rw [y10.2 _ (by omega) (by omega)]; exact q7
  obtain ⟨e, ee⟩ : ∃ x, va (f5 b) 8 = x := ⟨_, rfl⟩
  obtain ⟨n, en⟩ : ∃ x, va (f6 b) 8 = x := ⟨_, rfl⟩
  obtain ⟨K11, eK11⟩ : ∃ K, K10.set K1.next (.cells [.int .i64 k, .int .u64 (e : Int), .int .u64 0, .int .i64 a, .int .i64 m, .str []] true) = K := ⟨_, rfl⟩
  have q11 : K11.obj K1.next = some (.cells [.int .i64 k, .int .u64 (e : Int), .int .u64 0, .int .i64 a, .int .i64 m, .str []] true) := by rw [← eK11]; simp [AHeap.set]
  obtain ⟨K12, eK12⟩ : ∃ K, K11.set K1.next (.cells [.int .i64 k, .int .u64 (e : Int), .int .u64 (n : Int), .int .i64 a, .int .i64 m, .str []] true) = K := ⟨_, rfl⟩
  have q12 : K12.obj K1.next = some (.cells [.int .i64 k, .int .u64 (e : Int), .int .u64 (n : Int), .int .i64 a, .int .i64 m, .str []] true) := by rw [← eK12]; simp [AHeap.set]
  have k12 : ∀ i, i ≠ K1.next → K12.obj i = K10.obj i := fun i hi => by rw [← eK12, ← eK11]; simp only [set_obj]; rw [if_neg hi, if_neg hi]
  have n12 : K12.next = K10.next := by rw [← eK12, ← eK11]; rfl
  have r12 : Rs K12 1 (f7 b) := ⟨by unfold Rd; rw [k12 1 (by omega)]; exact r10.1, by omega⟩
  obtain ⟨K13, u13, r13, x13⟩ := readS r12 8 (by omega)
  have g13 := x13.1
  have u14 := U80 r13.1 480
  obtain ⟨K14, eK14⟩ : ∃ K, K13.set 1 (rd (raw (f8 b).1 (f8 b).2 480).1 (raw (f8 b).1 (f8 b).2 480).2.1) = K := ⟨_, rfl⟩
  have q14 : K14.obj K1.next = some (.cells [.int .i64 k, .int .u64 (e : Int), .int .u64 (n : Int), .int .i64 a, .int .i64 m, .str []] true) := by
    rw [← eK14]; simp only [set_obj]; rw [if_neg (by omega), x13.2 _ (by omega) (by omega)]; exact q12
  obtain ⟨p, ep⟩ : ∃ x, (raw (f8 b).1 (f8 b).2 480).2.2 = x := ⟨_, rfl⟩
  have hS : st (f7 b) 8 = f8 b := rfl
  rw [hS, eK14, ep] at u14
  obtain ⟨K15, eK15⟩ : ∃ K, K14.set K1.next (.cells [.int .i64 k, .int .u64 (e : Int), .int .u64 (n : Int), .int .i64 a, .int .i64 m, .str p] true) = K := ⟨_, rfl⟩
  have q15 : K15.obj K1.next = some (.cells [.int .i64 k, .int .u64 (e : Int), .int .u64 (n : Int), .int .i64 a, .int .i64 m, .str p] true) := by rw [← eK15]; simp [AHeap.set]
  have o15 : K15.obj 0 = some (.cells [.int .i64 0, .int .u64 0, .int .u64 0, .int .i64 0, .int .i64 0, .str []] true) := by
    rw [← eK15, ← eK14]; simp only [set_obj]; rw [if_neg (by omega), if_neg (by omega), x13.2 0 (by omega) (by omega), k12 0 (by omega), y10.2 0 (by omega) (by omega), k7 0 (by omega), y5.2 0 (by omega) (by omega), k2 0 (by omega), x1.2 0 (by omega) (by omega)]; exact o0
  have w1 : ((1 : Nat) : Int) = 1 := rfl
  have w2 : ((2 : Nat) : Int) = 2 := rfl
  have w8 : ((8 : Nat) : Int) = 8 := rfl
  have fk : IntKind.i64.wrap (va (b, 0) 1 : Int) = k := ek
  have fa : IntKind.i64.wrap (va (f2 b) 2 : Int) = a := ea
  have fm : IntKind.i64.wrap (va (f3 b) 2 : Int) = m := em
  have s2 : st (f1 b) 1 = f2 b := rfl
  have s3 : st (f2 b) 2 = f3 b := rfl
  have s5 : st (f4 b) 2 = f5 b := rfl
  have s6 : st (f5 b) 8 = f6 b := rfl
  rw [w1] at u1 u3
  rw [w2] at u4 u5 u8
  rw [w8] at u9 u10 u13
  rw [s2] at u4 u5
  rw [s3] at u5
  rw [s5, ee] at u9
  rw [s5, s6, en] at u10
  have hfr : fr b = ⟨k, e, n, a, m, p⟩ := by unfold fr; rw [ek, ea, em, ee, en, ep]
  have hd := fr_seal b
  have hf := fr_fits b
  have u11 := U56 k e n a m p
  rw [← hfr] at u11
  rcases hf with ⟨hf, h⟩ | ⟨hf, h1, h2, h3⟩
  · have z1 : unfit b = 19 := by unfold unfit; rw [hf]; rfl
    have z2 : (opened b).cells = [.int .i64 0, .int .u64 0, .int .u64 0, .int .i64 0, .int .i64 0, .str []] := by unfold opened; rw [hf]; rfl
    rw [z1, z2]
    rcases hd with ⟨d1, d2, d3⟩ | ⟨d1, d2, d3⟩
    · rw [d2, d3] at u11
      simp only [c60, U78, eH0, u1, fk, eK2, u3, u4, fa, u5, fm, q5, eK6, q6, eK7, u8, u9, u10, q10, eK11, q11, eK12, u13, u14, q14, eK15, q15, u11, o15, rwA, rwB, Nat.reduceAdd, Nat.reduceMul, Nat.reduceLeDiff, Int.reduceEq, Int.reduceLT, Int.reduceLE, Int.reduceAdd, Int.reduceSub, Int.reduceMul, ↓reduceIte, Nat.reduceEqDiff, reduceCtorEq, ↓cnd_true, ↓cnd_false]
    · rcases h with h | h
      · rw [h] at d1; cases d1
      · rw [d2, d3] at u11
        generalize (fr b).bytes = B at u11 h
        simp only [c60, U78, eH0, u1, fk, eK2, u3, u4, fa, u5, fm, q5, eK6, q6, eK7, u8, u9, u10, q10, eK11, q11, eK12, u13, u14, q14, eK15, q15, u11, h, o15, rwA, rwB, Nat.reduceAdd, Nat.reduceMul, Nat.reduceLeDiff, Int.reduceEq, Int.reduceLT, Int.reduceLE, Int.reduceAdd, Int.reduceSub, Int.reduceMul, ↓reduceIte, Nat.reduceEqDiff, reduceCtorEq, ↓cnd_true, ↓cnd_false]
  · have z1 : unfit b = 0 := by unfold unfit; rw [hf]; rfl
    have z2 : (opened b).cells = [.int .i64 k, .int .u64 (e : Int), .int .u64 (n : Int), .int .i64 a, .int .i64 m, .str p] := by unfold opened; rw [hf, ← h1, hfr]; rfl
    rw [z1, z2]
    rcases hd with ⟨d1, d2, d3⟩ | ⟨d1, d2, d3⟩
    · rw [h2] at d1; cases d1
    · rw [d2, d3, h3] at u11
      have db : decide (b = b) = true := by simp
      simp only [c60, U78, eH0, u1, fk, eK2, u3, u4, fa, u5, fm, q5, eK6, q6, eK7, u8, u9, u10, q10, eK11, q11, eK12, u13, u14, q14, eK15, q15, u11, db, o15, rwA, rwB, Nat.reduceAdd, Nat.reduceMul, Nat.reduceLeDiff, Int.reduceEq, Int.reduceLT, Int.reduceLE, Int.reduceAdd, Int.reduceSub, Int.reduceMul, ↓reduceIte, Nat.reduceEqDiff, reduceCtorEq, ↓cnd_true, ↓cnd_false]

end Go.Proofs.YtilhjcnkaelheaaGreat.Sd
end

section
/- The sectors: the reference's opening; homes; what lives() asks. -/
set_option maxRecDepth 100000
set_option linter.unusedSimpArgs false
set_option linter.unusedVariables false
set_option maxHeartbeats 4000000
namespace Go.Proofs.YtilhjcnkaelheaaGreat.Sd
open Go Go.Proofs.YtilhjcnkaelheaaGreat.Am DnFns Go.RowKit

theorem wid2 : wid 2 = 2 := rfl
theorem wid8 : wid 8 = 8 := rfl
theorem be_at {b : List UInt8} {k w : Nat} (h : k + w ≤ b.length) : be (raw (b.drop k) 0 (w : Int)).2.2 = wd b k w := va_at h
theorem wd1 {b : List UInt8} (h : 1 ≤ b.length) : wd b 0 1 = (b[0]).toNat := by
  unfold wd
  rw [if_neg (by omega)]
  match b, h with
  | c :: l, _ => simp [be]

theorem U76 (b : List UInt8) (H : AHeap) : AC A 76 [.str b] H = some (.tuple [.agg (opened b).cells, .int .i64 (unfit b)], H) := by
  refine one_val (x := DnFns.c76) rfl rfl rfl rfl rfl ?_ H
  by_cases hl : b.length = 512
  · have c1 : decide ((b.length : Int) = 512) = true := by simp; omega
    have s2 := slc_lo b 2 (by omega) (by omega)
    have s4 := slc_lo b 4 (by omega) (by omega)
    have s8 := slc_lo b 8 (by omega) (by omega)
    have s16 := slc_lo b 16 (by omega) (by omega)
    have s32 := slc_lo b 32 (by omega) (by omega)
    have t2 : (2 : Int).toNat = 2 := rfl
    have t4 : (4 : Int).toNat = 4 := rfl
    have t8 : (8 : Int).toNat = 8 := rfl
    have t16 : (16 : Int).toNat = 16 := rfl
    have t32 : (32 : Int).toNat = 32 := rfl
    have v2 := U89 (b.drop 2) 0 2
    have v4 := U89 (b.drop 4) 0 2
    have v8 := U89 (b.drop 8) 0 8
    have v16 := U89 (b.drop 16) 0 8
    have b2 : be (raw (b.drop 2) 0 2).2.2 = wd b 2 2 := be_at (w := 2) (by omega)
    have b4 : be (raw (b.drop 4) 0 2).2.2 = wd b 4 2 := be_at (w := 2) (by omega)
    have b8 : be (raw (b.drop 8) 0 8).2.2 = wd b 8 8 := be_at (w := 8) (by omega)
    have b67 : be (raw (b.drop 16) 0 8).2.2 = wd b 16 8 := be_at (w := 8) (by omega)
    rw [wid2, b2] at v2
    rw [wid2, b4] at v4
    rw [wid8, b8] at v8
    rw [wid8, b67] at v16
    have ha : aidx b.length (.int .i64 0) = some 0 := by simp only [aidx]; rw [if_pos ⟨by omega, by omega⟩]; rfl
    have hg : b[0]? = some (b[0]'(by omega)) := List.getElem?_eq_getElem (by omega)
    have hk : IntKind.i64.wrap ((b[0]'(by omega)).toNat : Int) = wi (wd b 0 1) := by rw [wd1 (by omega)]; rfl
    have fa : IntKind.i64.wrap (wd b 2 2 : Int) = wi (wd b 2 2) := rfl
    have fm : IntKind.i64.wrap (wd b 4 2 : Int) = wi (wd b 4 2) := rfl
    obtain ⟨c, ec⟩ : ∃ c, b[0]'(by omega) = c := ⟨_, rfl⟩
    rw [ec] at hg hk
    have hd : had b = ⟨wi (wd b 0 1), wd b 8 8, wd b 16 8, wi (wd b 2 2), wi (wd b 4 2), b.drop 32⟩ := rfl
    have u13 := U55 (wi (wd b 0 1)) (wd b 8 8) (wd b 16 8) (wi (wd b 2 2)) (wi (wd b 4 2)) (b.drop 32) (wd_lt b 8 8 (by omega)) (wd_lt b 16 8 (by omega))
    rw [← hd] at u13
    have hz : ((had b).ok = false ∧ (had b).sealb = [] ∧ (had b).no = 18) ∨ ((had b).ok = true ∧ (had b).sealb = (had b).bytes ∧ (had b).no = 0) := by
      cases h : (had b).ok
      · exact .inl ⟨rfl, by unfold Sec.sealb; rw [h]; rfl, by unfold Sec.no; rw [h]; rfl⟩
      · exact .inr ⟨rfl, by unfold Sec.sealb; rw [h]; rfl, by unfold Sec.no; rw [h]; rfl⟩
    have no : fits b = false → unfit b = 19 ∧ (opened b).cells = [.int .i64 0, .int .u64 0, .int .u64 0, .int .i64 0, .int .i64 0, .str []] := fun h => ⟨by unfold unfit; rw [h]; rfl, by unfold opened; rw [h]; rfl⟩
    have yes : fits b = true → unfit b = 0 ∧ (opened b).cells = (had b).cells := fun h => ⟨by unfold unfit; rw [h]; rfl, by unfold opened; rw [h]; rfl⟩
    have hc : (had b).cells = [.int .i64 (wi (wd b 0 1)), .int .u64 (wd b 8 8 : Int), .int .u64 (wd b 16 8 : Int), .int .i64 (wi (wd b 2 2)), .int .i64 (wi (wd b 4 2)), .str (b.drop 32)] := rfl
    have hfit : fits b = ((had b).ok && decide ((had b).bytes = b)) := by unfold fits; rw [hl]; rfl
    rw [hc] at yes
    rw [hfit] at no yes
    generalize (had b).ok = O at *
    generalize (had b).bytes = B at *
    generalize (had b).sealb = S at *
    generalize (had b).no = N at *
    generalize wi (wd b 0 1) = k at *
    generalize (wd b 8 8 : Int) = e at *
    generalize (wd b 16 8 : Int) = n at *
    generalize wi (wd b 2 2) = a at *
    generalize wi (wd b 4 2) = m at *
    rcases hz with ⟨rfl, rfl, rfl⟩ | ⟨rfl, rfl, rfl⟩
    · obtain ⟨z1, z2⟩ := no rfl
      rw [z1, z2]
      simp only [c76, c1, s2, s4, s8, s16, s32, t2, t4, t8, t16, t32, List.take_length, v2, v4, v8, v16, ha, hg, hk, fa, fm, u13, rwA, rwB, Nat.reduceAdd, Nat.reduceMul, Nat.reduceLeDiff, Int.reduceEq, Int.reduceLT, Int.reduceLE, Int.reduceAdd, Int.reduceSub, Int.reduceMul, ↓reduceIte, Nat.reduceEqDiff, reduceCtorEq, ↓cnd_true, ↓cnd_false]
    · cases hB : decide (S = b)
      · obtain ⟨z1, z2⟩ := no (by rw [hB]; rfl)
        rw [z1, z2]
        simp only [c76, c1, s2, s4, s8, s16, s32, t2, t4, t8, t16, t32, List.take_length, v2, v4, v8, v16, ha, hg, hk, fa, fm, u13, hB, rwA, rwB, Nat.reduceAdd, Nat.reduceMul, Nat.reduceLeDiff, Int.reduceEq, Int.reduceLT, Int.reduceLE, Int.reduceAdd, Int.reduceSub, Int.reduceMul, ↓reduceIte, Nat.reduceEqDiff, reduceCtorEq, ↓cnd_true, ↓cnd_false]
      · obtain ⟨z1, z2⟩ := yes (by rw [hB]; rfl)
        rw [z1, z2]
        simp only [c76, c1, s2, s4, s8, s16, s32, t2, t4, t8, t16, t32, List.take_length, v2, v4, v8, v16, ha, hg, hk, fa, fm, u13, hB, rwA, rwB, Nat.reduceAdd, Nat.reduceMul, Nat.reduceLeDiff, Int.reduceEq, Int.reduceLT, Int.reduceLE, Int.reduceAdd, Int.reduceSub, Int.reduceMul, ↓reduceIte, Nat.reduceEqDiff, reduceCtorEq, ↓cnd_true, ↓cnd_false]
  · have c1 : decide ((b.length : Int) = 512) = false := by simp; omega
    have hf : fits b = false := by unfold fits; rw [decide_eq_false hl]; rfl
    have z1 : unfit b = 19 := by unfold unfit; rw [hf]; rfl
    have z2 : (opened b).cells = [.int .i64 0, .int .u64 0, .int .u64 0, .int .i64 0, .int .i64 0, .str []] := by unfold opened; rw [hf]; rfl
    rw [z1, z2]
    simp only [c76, c1, rwA, rwB, Nat.reduceAdd, Nat.reduceMul, Nat.reduceLeDiff, Int.reduceEq, Int.reduceLT, Int.reduceLE, Int.reduceAdd, Int.reduceSub, Int.reduceMul, ↓reduceIte, Nat.reduceEqDiff, reduceCtorEq, ↓cnd_true, ↓cnd_false]

/-! ### Where a page belongs -/
def noughts (n : Nat) : List UInt8 := List.replicate n 0
theorem pad512 : pad [] 512 = noughts 512 := by unfold pad; rw [if_neg (by simp)]; rfl
theorem pad480 : pad [] 480 = noughts 480 := by unfold pad; rw [if_neg (by simp)]; rfl
theorem U32 (H : AHeap) : AC A 32 [] H = some (.str (noughts 512), H) := by
  refine one_val (x := DnFns.c32) rfl rfl rfl rfl rfl ?_ H
  simp only [c32, U38, pad512, rwA, rwB, Nat.reduceAdd, Nat.reduceMul, Nat.reduceLeDiff, Int.reduceEq, Int.reduceLT, Int.reduceLE, Int.reduceAdd, Int.reduceSub, Int.reduceMul, ↓reduceIte, Nat.reduceEqDiff, reduceCtorEq, ↓cnd_true, ↓cnd_false]
theorem U33a (H : AHeap) : AC A 33 [.int .i64 512] H = some (.str (noughts 512), H) := by
  refine one_val (x := DnFns.c33) rfl rfl rfl rfl rfl ?_ H
  simp only [c33, U54, pad512, rwA, rwB, Nat.reduceAdd, Nat.reduceMul, Nat.reduceLeDiff, Int.reduceEq, Int.reduceLT, Int.reduceLE, Int.reduceAdd, Int.reduceSub, Int.reduceMul, ↓reduceIte, Nat.reduceEqDiff, reduceCtorEq, ↓cnd_true, ↓cnd_false]
theorem U33b (H : AHeap) : AC A 33 [.int .i64 480] H = some (.str (noughts 480), H) := by
  refine one_val (x := DnFns.c33) rfl rfl rfl rfl rfl ?_ H
  simp only [c33, U54, pad480, rwA, rwB, Nat.reduceAdd, Nat.reduceMul, Nat.reduceLeDiff, Int.reduceEq, Int.reduceLT, Int.reduceLE, Int.reduceAdd, Int.reduceSub, Int.reduceMul, ↓reduceIte, Nat.reduceEqDiff, reduceCtorEq, ↓cnd_true, ↓cnd_false]
def homes (a : Int) (t : List UInt8) : Bool := short a && decide (t = noughts 480)
def home (a : Int) (t : List UInt8) : List UInt8 := if homes a t then noughts 512 else Sec.sealb ⟨4, 0, 0, a, 0, t⟩
def homeno (a : Int) (t : List UInt8) : Int := if homes a t then 0 else Sec.no ⟨4, 0, 0, a, 0, t⟩
def isHome (s : Sec) (g : Int) : Bool := (((decide (s.kind = 4) && decide ((s.epoch : Int) = 0)) && decide ((s.number : Int) = 0)) && decide (s.at' = g)) && decide (s.many = 0)
def ofHome (b : List UInt8) (g : Int) : List UInt8 := if decide (b = noughts 512) then noughts 480 else if (decide (unfit b = 0) && isHome (opened b) g) then (opened b).page else []
def ofNo (b : List UInt8) (g : Int) : Int := if decide (b = noughts 512) then 0 else if (decide (unfit b = 0) && isHome (opened b) g) then 0 else 19

/-! ### A page of one byte -/
end Go.Proofs.YtilhjcnkaelheaaGreat.Sd
end

section
/- The laws' texts and pages of one byte. -/
set_option maxRecDepth 100000
set_option linter.unusedSimpArgs false
set_option linter.unusedVariables false
set_option maxHeartbeats 2000000
namespace Go.Proofs.YtilhjcnkaelheaaGreat.Sd
open Go Go.Proofs.YtilhjcnkaelheaaGreat.Am DnFns Go.RowKit

def b28 : ACode := (.seq (.region [⟨(some 9), (.bin .lss (.tmp 8) (.tmp 7)), none, none⟩]) (.seq (.cond (.tmp 9) .skip (.exit 0)) (.seq (.block 1 (.seq (.region [⟨(some 10), (.mv (.tmp 8)), none, none⟩, ⟨(some 4), (.mv (.tmp 10)), none, none⟩]) (.region [⟨(some 11), (.mv (.tmp 3)), none, none⟩, ⟨(some 12), (.mv (.tmp 4)), none, none⟩, ⟨(some 13), (.mv (.tmp 0)), none, none⟩, ⟨(some 14), (.idxASl 1 (.tmp 11) (.tmp 12)), none, none⟩, ⟨none, (.store 1 (.tmp 14) (.tmp 13)), none, none⟩]))) (.region [⟨(some 15), (.bin .add (.tmp 8) (.con (.int .i64 1))), none, none⟩, ⟨(some 8), (.mv (.tmp 15)), none, none⟩]))))
def halfT (n : Nat) (b : UInt8) (j : Nat) : List AVal := List.replicate j (by8 b) ++ List.replicate (n - j) (by8 0)
theorem halfT_len {n : Nat} (b : UInt8) {j : Nat} (h : j ≤ n) : (halfT n b j).length = n := by simp [halfT]; omega
theorem halfT_set {n : Nat} (b : UInt8) {j : Nat} (h : j < n) : (halfT n b j).set j (by8 b) = halfT n b (j + 1) := by
  unfold halfT
  rw [List.set_append_right _ _ (by simp), show n - j = (n - (j + 1)) + 1 by omega]
  simp only [List.length_replicate, Nat.sub_self, List.replicate_succ (n := n - (j + 1)), List.set_cons_zero]
  rw [List.replicate_succ']
  simp
theorem loop28 {K : AHeap} {N n : Nat} {b : UInt8} {env : Env} (hn : n ≤ 1000) (h0 : env 0 = by8 b) (h3 : env 3 = .slice N 0 n n none) (h7 : env 7 = .int .i64 (n : Int)) (h8 : env 8 = .int .i64 0) (hN : K.obj N = some (.cells (halfT n b 0) true)) :
    Outs (AX A (.loop b28) env K) fun e env' K' => e = .exit 0 ∧ env' 3 = .slice N 0 n n none ∧ K'.obj N = some (.cells (halfT n b n) true) := by
  refine loop_ends (I := fun (j : Nat) env' K' => j ≤ n ∧ env' 0 = by8 b ∧ env' 3 = .slice N 0 n n none ∧ env' 7 = .int .i64 (n : Int) ∧ env' 8 = .int .i64 (j : Int) ∧ K'.obj N = some (.cells (halfT n b j) true)) (fun j => n - j) ?_ 0 env K ⟨by omega, h0, h3, h7, h8, hN⟩
  rintro j env' K' ⟨hj, h0, h3, h7, h8, hN⟩
  by_cases hlt : j < n
  · have e1 : decide ((j : Int) < (n : Int)) = true := by simp; omega
    have w1 : IntKind.i64.wrap ((j : Int) + 1) = ((j + 1 : Nat) : Int) := by rw [wrap_i64]; omega
    have ha : aidx n (.int .i64 (j : Int)) = some j := by simp [aidx]; omega
    have hl := halfT_len (n := n) b hj
    have hs := halfT_set (n := n) b hlt
    unfold by8 at h0 hs
    have hlt' : j < (halfT n b j).length := by omega
    have st := store_one K' N j (.int .u8 (b.toNat : Int)) (halfT n b j) hlt'
    rw [hs] at st
    simp only [b28, h0, h3, h7, h8, e1, w1, ha, hN, st, rwA, rwB, Nat.reduceAdd, Nat.reduceMul, Nat.reduceLeDiff, Int.reduceEq, Int.reduceLT, Int.reduceLE, Int.reduceAdd, Int.reduceSub, Int.reduceMul, ↓reduceIte, Nat.reduceEqDiff, reduceCtorEq, ↓cnd_true, ↓cnd_false]
    rw [outs_some]
    exact .inl ⟨rfl, j + 1, by omega, by omega, by simp [Env.set, h0, by8], by simp [Env.set, h3], by simp [Env.set, h7], by simp [Env.set], by simp [AHeap.set]⟩
  · have : j = n := by omega
    subst this
    have e1 : decide ((j : Int) < (j : Int)) = false := by simp
    simp only [b28, h7, h8, e1, rwA, rwB, Nat.reduceAdd, Nat.reduceMul, Nat.reduceLeDiff, Int.reduceEq, Int.reduceLT, Int.reduceLE, Int.reduceAdd, Int.reduceSub, Int.reduceMul, ↓reduceIte, Nat.reduceEqDiff, reduceCtorEq, ↓cnd_true, ↓cnd_false]
    rw [outs_some]
    exact .inr ⟨by simp, rfl, by simp [Env.set, h3], hN⟩

theorem U28 (b : UInt8) (H : AHeap) : AC A 28 [by8 b] H = some (.str (List.replicate 480 b), H) := by
  refine one_val (x := DnFns.c28) rfl rfl rfl rfl rfl ?_ H
  have mk := mk8 480 (by decide) noH
  have hb : noH.next = 0 := rfl
  have e512 : ((480 : Nat) : Int) = 480 := rfl
  rw [e512] at mk
  have hf : halfT 480 b 0 = List.replicate 480 (by8 0) := by simp [halfT]
  rw [← hf] at mk
  have key : ∀ K : AHeap, K.obj 0 = some (.cells (halfT 480 b 480) true) → bToSX K (.slice 0 0 480 480 none) = some (.str (List.replicate 480 b), K) := by
    intro K hK
    refine bToS_sl (.inr ⟨_, _, _, _, _, rfl, by simp, .inr ⟨_, true, hK, by rw [halfT_len _ (Nat.le_refl _)]; decide, ?_⟩⟩)
    simp [halfT]
  simp only [c28, mk, hb, rwA, rwB, Nat.reduceAdd, Nat.reduceMul, Nat.reduceLeDiff, Int.reduceEq, Int.reduceLT, Int.reduceLE, Int.reduceAdd, Int.reduceSub, Int.reduceMul, ↓reduceIte, Nat.reduceEqDiff, reduceCtorEq, ↓cnd_true, ↓cnd_false]
  repeat (first | refine outs_seq ?_ | refine outs_block ?_ | refine outs_step ?_ | refine outs_stepD ?_ | refine rets_end ?_ | refine ans_end ?_)
  refine (loop28 (N := 0) (n := 480) (b := b) (by decide) ?_ ?_ ?_ ?_ ?_).mono ?_
  · simp [Env.set, ainit]
  · simp [Env.set]
  · simp [Env.set]
  · simp [Env.set]
  · simp [AHeap.new, noH]
  · rintro e env K ⟨rfl, h3, hK⟩
    simp only [outs_some, h3, key K hK, rwA, rwB, Nat.reduceAdd, Nat.reduceMul, Nat.reduceLeDiff, Int.reduceEq, Int.reduceLT, Int.reduceLE, Int.reduceAdd, Int.reduceSub, Int.reduceMul, ↓reduceIte, Nat.reduceEqDiff, reduceCtorEq, ↓cnd_true, ↓cnd_false]

end Go.Proofs.YtilhjcnkaelheaaGreat.Sd
end

section
/- Disks: the plain functions taken apart; the disks' beginning. -/
set_option maxRecDepth 100000
set_option linter.unusedSimpArgs false
set_option linter.unusedVariables false
set_option maxHeartbeats 2000000
namespace Go.Proofs.YtilhjcnkaelheaaGreat.Dk
open Go Go.Proofs.YtilhjcnkaelheaaGreat.Am DnFns Go.RowKit
open Sd (Sec noughts home homeno ofHome ofNo opened unfit pad)

theorem by8_of {n : Int} (h : 0 ≤ n ∧ n < 256) : AVal.int .u8 n = by8 (UInt8.ofNat n.toNat) := by
  unfold by8
  congr 1
  have : n.toNat < 256 := by omega
  rw [UInt8.toNat_ofNat', Nat.mod_eq_of_lt (by simpa using this)]
  omega
def gText (k : Nat) : List AVal → Option AVal
  | [.int .u8 n] => if 0 ≤ n ∧ n < 256 then some (.str (List.replicate k (UInt8.ofNat n.toNat))) else none
  | _ => none
theorem ok28 : ∀ args v, gText 480 args = some v → plains args = true ∧ plain v = true ∧ ∃ H', AC Sd.A 28 args noH = some (v, H') := by
  intro args v h
  unfold gText at h
  split at h
  · split at h
    · rename_i hn
      injection h with h; subst h
      exact ⟨rfl, rfl, noH, by rw [by8_of hn]; exact Sd.U28 _ _⟩
    · cases h
  · cases h
def gBlank : List AVal → Option AVal
  | [] => some (.str (noughts 512))
  | _ => none
theorem ok32 : ∀ args v, gBlank args = some v → plains args = true ∧ plain v = true ∧ ∃ H', AC Sd.A 32 args noH = some (v, H') := by
  intro args v h
  unfold gBlank at h
  split at h
  · injection h with h; subst h; exact ⟨rfl, rfl, noH, Sd.U32 _⟩
  · cases h
def gNoughts : List AVal → Option AVal
  | [.int .i64 n] => if n = 512 then some (.str (noughts 512)) else if n = 480 then some (.str (noughts 480)) else none
  | _ => none
theorem ok33 : ∀ args v, gNoughts args = some v → plains args = true ∧ plain v = true ∧ ∃ H', AC Sd.A 33 args noH = some (v, H') := by
  intro args v h
  unfold gNoughts at h
  split at h
  · split at h
    · rename_i hn; subst hn; injection h with h; subst h; exact ⟨rfl, rfl, noH, Sd.U33a _⟩
    · split at h
      · rename_i hn; subst hn; injection h with h; subst h; exact ⟨rfl, rfl, noH, Sd.U33b _⟩
      · cases h
  · cases h
def gPad : List AVal → Option AVal
  | [.str s, .int .i64 n] => some (.str (pad s n))
  | _ => none
theorem ok38 : ∀ args v, gPad args = some v → plains args = true ∧ plain v = true ∧ ∃ H', AC Sd.A 38 args noH = some (v, H') := by
  intro args v h
  unfold gPad at h
  split at h
  · injection h with h; subst h; exact ⟨rfl, rfl, noH, Sd.U38 _ _ _⟩
  · cases h
def gZero : List AVal → Option AVal
  | [.str s] => some (.bool (s.all (· == 0)))
  | _ => none
theorem ok61 : ∀ args v, gZero args = some v → plains args = true ∧ plain v = true ∧ ∃ H', AC Sd.A 61 args noH = some (v, H') := by
  intro args v h
  unfold gZero at h
  split at h
  · injection h with h; subst h; exact ⟨rfl, rfl, noH, Sd.U61 _ _⟩
  · cases h
def gSeal : List AVal → Option AVal
  | [.agg [.int .i64 k, .int .u64 e, .int .u64 n, .int .i64 a, .int .i64 m, .str p]] => if 0 ≤ e ∧ 0 ≤ n then some (.tuple [.str (Sec.sealb ⟨k, e.toNat, n.toNat, a, m, p⟩), .int .i64 (Sec.no ⟨k, e.toNat, n.toNat, a, m, p⟩)]) else none
  | _ => none
theorem ok56 : ∀ args v, gSeal args = some v → plains args = true ∧ plain v = true ∧ ∃ H', AC Sd.A 56 args noH = some (v, H') := by
  intro args v h
  unfold gSeal at h
  split at h
  · rename_i k e n a m p
    split at h
    · rename_i hc
      injection h with h; subst h
      refine ⟨rfl, rfl, noH, ?_⟩
      have := Sd.U56 k e.toNat n.toNat a m p noH
      rw [Int.toNat_of_nonneg hc.1, Int.toNat_of_nonneg hc.2] at this
      exact this
    · cases h
  · cases h
def gOpen : List AVal → Option AVal
  | [.str b] => some (.tuple [.agg (opened b).cells, .int .i64 (unfit b)])
  | _ => none
theorem ok60 : ∀ args v, gOpen args = some v → plains args = true ∧ plain v = true ∧ ∃ H', AC Sd.A 60 args noH = some (v, H') := by
  intro args v h
  unfold gOpen at h
  split at h
  · injection h with h; subst h; exact ⟨rfl, rfl, noH, Sd.U60 _ _⟩
  · cases h
def gSealR : List AVal → Option AVal
  | [.agg [.int .i64 k, .int .u64 e, .int .u64 n, .int .i64 a, .int .i64 m, .str p]] => if (0 ≤ e ∧ 0 ≤ n) ∧ (e < 18446744073709551616 ∧ n < 18446744073709551616) then some (.tuple [.str (Sec.sealb ⟨k, e.toNat, n.toNat, a, m, p⟩), .int .i64 (Sec.no ⟨k, e.toNat, n.toNat, a, m, p⟩)]) else none
  | _ => none
theorem ok55 : ∀ args v, gSealR args = some v → plains args = true ∧ plain v = true ∧ ∃ H', AC Sd.A 55 args noH = some (v, H') := by
  intro args v h
  unfold gSealR at h
  split at h
  · rename_i k e n a m p
    split at h
    · rename_i hc
      injection h with h; subst h
      refine ⟨rfl, rfl, noH, ?_⟩
      have := Sd.U55 k e.toNat n.toNat a m p (by omega) (by omega) noH
      rw [Int.toNat_of_nonneg hc.1.1, Int.toNat_of_nonneg hc.1.2] at this
      exact this
    · cases h
  · cases h
theorem ok76 : ∀ args v, gOpen args = some v → plains args = true ∧ plain v = true ∧ ∃ H', AC Sd.A 76 args noH = some (v, H') := by
  intro args v h
  unfold gOpen at h
  split at h
  · injection h with h; subst h; exact ⟨rfl, rfl, noH, Sd.U76 _ _⟩
  · cases h

def mode : FuncId → Nat
  | 4 => 1
  | 8 => 2
  | 10 => 2
  | 12 => 2
  | 19 => 1
  | 21 => 2
  | 22 => 2
  | 23 => 2
  | 24 => 2
  | 25 => 2
  | 26 => 2
  | 30 => 2
  | 31 => 2
  | 34 => 2
  | 35 => 2
  | 36 => 2
  | 39 => 2
  | 40 => 2
  | 43 => 1
  | 44 => 2
  | 45 => 2
  | 46 => 2
  | 47 => 2
  | 48 => 2
  | 52 => 1
  | 53 => 1
  | 58 => 2
  | 59 => 2
  | 63 => 1
  | _ => 0
def lib (f : FuncId) : Option (List AVal → AHeap → Option (AVal × AHeap)) :=
  if f = 28 then some (extOf (gText 480)) else if f = 32 then some (extOf (gBlank)) else if f = 33 then some (extOf (gNoughts)) else if f = 38 then some (extOf (gPad)) else if f = 61 then some (extOf (gZero)) else if f = 56 then some (extOf (gSeal)) else if f = 60 then some (extOf (gOpen)) else if f = 55 then some (extOf (gSealR)) else if f = 76 then some (extOf (gOpen)) else Sd.A.ext f
def A : AProg := ⟨DnFns.fn, lib, mode⟩
theorem A_sound (w0 : World) (B : Nat → Bool) : Sound Tryz.prog w0 B A := by
  refine ⟨Tryz.checked.mixed, DnFns.fn_is, fun f g h => ?_⟩
  change lib f = some g at h
  unfold lib at h
  split at h
  · rename_i hf; subst hf; injection h with h; subst h; exact ext_sound Sd.A_sound ok28 w0 B
  split at h
  · rename_i hf; subst hf; injection h with h; subst h; exact ext_sound Sd.A_sound ok32 w0 B
  split at h
  · rename_i hf; subst hf; injection h with h; subst h; exact ext_sound Sd.A_sound ok33 w0 B
  split at h
  · rename_i hf; subst hf; injection h with h; subst h; exact ext_sound Sd.A_sound ok38 w0 B
  split at h
  · rename_i hf; subst hf; injection h with h; subst h; exact ext_sound Sd.A_sound ok61 w0 B
  split at h
  · rename_i hf; subst hf; injection h with h; subst h; exact ext_sound Sd.A_sound ok56 w0 B
  split at h
  · rename_i hf; subst hf; injection h with h; subst h; exact ext_sound Sd.A_sound ok60 w0 B
  split at h
  · rename_i hf; subst hf; injection h with h; subst h; exact ext_sound Sd.A_sound ok55 w0 B
  split at h
  · rename_i hf; subst hf; injection h with h; subst h; exact ext_sound Sd.A_sound ok76 w0 B
  exact (Sd.A_sound w0 B).ext f g h
theorem U55 (k : Int) (e n : Nat) (a m : Int) (p : List UInt8) (he : e < 18446744073709551616) (hn : n < 18446744073709551616) (H : AHeap) : AC A 55 [.agg [.int .i64 k, .int .u64 (e : Int), .int .u64 (n : Int), .int .i64 a, .int .i64 m, .str p]] H = some (.tuple [.str (Sec.sealb ⟨k, e, n, a, m, p⟩), .int .i64 (Sec.no ⟨k, e, n, a, m, p⟩)], H) := AC_ext_of rfl (by
  simp only [gSealR]; rw [if_pos ⟨⟨by omega, by omega⟩, by omega, by omega⟩]; simp) H
theorem U76 (b : List UInt8) (H : AHeap) : AC A 76 [.str b] H = some (.tuple [.agg (opened b).cells, .int .i64 (unfit b)], H) := AC_ext_of rfl rfl H
theorem U28 (b : UInt8) (H : AHeap) : AC A 28 [by8 b] H = some (.str (List.replicate 480 b), H) := AC_ext_of rfl (by
  have h : (0 : Int) ≤ (b.toNat : Int) ∧ (b.toNat : Int) < 256 := by have := b.toNat_lt; omega
  simp only [gText, by8]; rw [if_pos h]; simp) H
theorem U32 (H : AHeap) : AC A 32 [] H = some (.str (noughts 512), H) := AC_ext_of rfl rfl H
theorem U33a (H : AHeap) : AC A 33 [.int .i64 512] H = some (.str (noughts 512), H) := AC_ext_of rfl rfl H
theorem U33b (H : AHeap) : AC A 33 [.int .i64 480] H = some (.str (noughts 480), H) := AC_ext_of rfl rfl H
theorem U38 (s : List UInt8) (n : Int) (H : AHeap) : AC A 38 [.str s, .int .i64 n] H = some (.str (pad s n), H) := AC_ext_of rfl rfl H
theorem U61 (s : List UInt8) (H : AHeap) : AC A 61 [.str s] H = some (.bool (s.all (· == 0)), H) := AC_ext_of rfl rfl H
theorem U56 (k : Int) (e n : Nat) (a m : Int) (p : List UInt8) (H : AHeap) : AC A 56 [.agg [.int .i64 k, .int .u64 (e : Int), .int .u64 (n : Int), .int .i64 a, .int .i64 m, .str p]] H = some (.tuple [.str (Sec.sealb ⟨k, e, n, a, m, p⟩), .int .i64 (Sec.no ⟨k, e, n, a, m, p⟩)], H) := AC_ext_of rfl (by
  simp only [gSeal]; rw [if_pos ⟨by omega, by omega⟩]; simp) H
theorem U60 (b : List UInt8) (H : AHeap) : AC A 60 [.str b] H = some (.tuple [.agg (opened b).cells, .int .i64 (unfit b)], H) := AC_ext_of rfl rfl H

theorem U4_is : (arun (acall A 4000) A.fn 4000 (some DnFns.c4) [] noH).map (·.1) = some (.bool true) := by kernel_rfl
theorem U4 (H : AHeap) : AC A 4 [] H = some (.bool true, H) := one_closed (x := DnFns.c4) rfl rfl rfl rfl rfl U4_is H

end Go.Proofs.YtilhjcnkaelheaaGreat.Dk
end

section
/- DiskNil: a disk that is nil. -/
set_option maxRecDepth 100000
set_option linter.unusedSimpArgs false
set_option linter.unusedVariables false
set_option maxHeartbeats 2000000
namespace Go.Proofs.YtilhjcnkaelheaaGreat.Dk
open Go Go.Proofs.YtilhjcnkaelheaaGreat.Am DnFns Go.RowKit

end Go.Proofs.YtilhjcnkaelheaaGreat.Dk
end

section
/- Disks: what each function does. -/
set_option maxRecDepth 100000
set_option linter.unusedSimpArgs false
set_option linter.unusedVariables false
set_option maxHeartbeats 2000000
namespace Go.Proofs.YtilhjcnkaelheaaGreat.Dk
open Go Go.Proofs.YtilhjcnkaelheaaGreat.Am DnFns Go.RowKit
open Sd (Sec noughts home homeno ofHome ofNo opened unfit pad)

structure DS where
  s : List (List UInt8)
  w : List (Nat × List UInt8)
  arm : Int
  dead : Bool
  ops : Int

def wc (x : Nat × List UInt8) : List AVal := [.int .i64 (x.1 : Int), .str x.2]
theorem wc_len (x : Nat × List UInt8) : (wc x).length = 2 := rfl
def DS.goes (d : DS) : Bool := !(d.dead || decide (d.arm = 1))
def low (x : Int) : Int := if 0 > x then 0 else x
def DS.step (d : DS) : DS := if d.goes then { d with arm := low (d.arm - 1), ops := IntKind.i64.wrap (d.ops + 1) } else { d with dead := true, arm := 0 }
def DS.write (d : DS) (i : Int) (s : List UInt8) : DS × Int := if (0 ≤ i ∧ i < d.s.length) ∧ s.length = 512 then (if d.goes then ({ d.step with w := d.w ++ [(i.toNat, s)] }, 0) else (d.step, 17)) else (d, 18)
def puts (s : List (List UInt8)) (l : List (Nat × List UInt8)) : List (List UInt8) := l.foldl (fun s x => s.set x.1 x.2) s
def pk (w : List (Nat × List UInt8)) (P : Nat → Bool) : Nat → List (Nat × List UInt8)
  | 0 => []
  | j + 1 => pk w P j ++ (match w[j]? with | some x => if P j then [x] else [] | none => [])
def DS.settle (d : DS) (P : Nat → Bool) : DS := { d with s := puts d.s (pk d.w P d.w.length), w := [] }
def DS.count (d : DS) (P : Nat → Bool) : Nat := (pk d.w P d.w.length).length
def DS.flush (d : DS) : DS × Int := if d.goes then (d.step.settle (fun _ => true), 0) else (d.step, 17)
def DS.up (d : DS) (keep : List Bool) : DS × Nat := ({ d.settle (fun i => keep.getD i false) with dead := false, arm := 0 }, d.count fun i => keep.getD i false)
def lw (w : List (Nat × List UInt8)) (i : Int) : Nat → Option (List UInt8)
  | 0 => none
  | k + 1 => if ((w.getD k (0, [])).1 : Int) = i then some (w.getD k (0, [])).2 else lw w i k
def DS.read (d : DS) (i : Int) : List UInt8 × Int := if d.dead then ([], 17) else if 0 ≤ i ∧ i < d.s.length then ((lw d.w i d.w.length).getD (d.s.getD i.toNat []), 0) else ([], 18)

theorem puts_len (l : List (Nat × List UInt8)) : ∀ s, (puts s l).length = s.length := by
  induction l with
  | nil => intro s; rfl
  | cons x l ih => intro s; show (puts (s.set x.1 x.2) l).length = _; rw [ih]; simp
theorem puts_app (s : List (List UInt8)) (l k : List (Nat × List UInt8)) : puts s (l ++ k) = puts (puts s l) k := by simp [puts]

structure D (H : AHeap) (p a : Nat) (g : Option Nat) (vw : AVal) (d : DS) : Prop where
  op : H.obj p = some (.cells [.slice a 0 d.s.length d.s.length g, vw, .int .i64 d.arm, .bool d.dead, .int .i64 d.ops] true)
  oa : H.obj a = some (.cells (d.s.map .str) true)
  ow : Ow H 2 vw (d.w.flatMap wc)
  pa : p ≠ a
  pw : p ∉ vw.ids
  aw : a ∉ vw.ids
  pn : p < H.next
  an : a < H.next
  gs : g = none ∨ g = some 1
  n1 : 1 ≤ d.s.length
  n2 : d.s.length ≤ 4865
  hat : ∀ x, x ∈ d.w → x.1 < d.s.length
  a0 : 0 ≤ d.arm
  a1 : d.arm ≤ 9223372036854775807

theorem D.fr {L : List Nat} {H H' : AHeap} {p a : Nat} {g : Option Nat} {vw : AVal} {d : DS} (h : D H p a g vw d) (f : Fr L H H') (hp : p ∉ L) (ha : a ∉ L) (hw : ∀ i, i ∈ vw.ids → i ∉ L) : D H' p a g vw d :=
  { h with op := by rw [f.2 p h.pn hp]; exact h.op, oa := by rw [f.2 a h.an ha]; exact h.oa, ow := h.ow.fr f hw, pn := Nat.lt_of_lt_of_le h.pn f.1, an := Nat.lt_of_lt_of_le h.an f.1 }
theorem D.keeps {H H' : AHeap} {p a : Nat} {g : Option Nat} {vw : AVal} {d : DS} (h : D H p a g vw d) (f : Keeps H H') : D H' p a g vw d := h.fr (L := []) (Fr.of f) (by simp) (by simp) (by simp)

structure DL (H : AHeap) (p a : Nat) (g : Option Nat) (vw : AVal) (d : DS) : Prop where
  op : ∃ o, H.obj p = some (.cells [.slice a 0 d.s.length d.s.length g, vw, .int .i64 d.arm, .bool d.dead, .int .i64 d.ops] o)
  oa : ∃ o, H.obj a = some (.cells (d.s.map .str) o)
  sw : Sl H 2 vw (d.w.flatMap wc)
  pn : p < H.next
  an : a < H.next
  wn : ∀ i, i ∈ vw.ids → i < H.next
theorem D.look {H : AHeap} {p a : Nat} {g : Option Nat} {vw : AVal} {d : DS} (h : D H p a g vw d) : DL H p a g vw d := ⟨⟨_, h.op⟩, ⟨_, h.oa⟩, h.ow.sl, h.pn, h.an, h.ow.lt⟩
theorem DL.frz {H : AHeap} {p a : Nat} {g : Option Nat} {vw : AVal} {d : DS} (h : DL H p a g vw d) : DL (frz H) p a g vw d :=
  ⟨by obtain ⟨o, ho⟩ := h.op; exact ⟨_, frz_obj ho⟩, by obtain ⟨o, ho⟩ := h.oa; exact ⟨_, frz_obj ho⟩, h.sw.frz, h.pn, h.an, h.wn⟩
theorem DL.keeps {H H' : AHeap} {p a : Nat} {g : Option Nat} {vw : AVal} {d : DS} (h : DL H p a g vw d) (k : Keeps H H') : DL H' p a g vw d :=
  ⟨by obtain ⟨o, ho⟩ := h.op; exact ⟨o, by rw [k.2 _ h.pn]; exact ho⟩, by obtain ⟨o, ho⟩ := h.oa; exact ⟨o, by rw [k.2 _ h.an]; exact ho⟩, h.sw.keep h.wn k, Nat.lt_of_lt_of_le h.pn k.1, Nat.lt_of_lt_of_le h.an k.1, fun i hi => Nat.lt_of_lt_of_le (h.wn i hi) k.1⟩
theorem DL.wlen {H : AHeap} {p a : Nat} {g : Option Nat} {vw : AVal} {d : DS} (h : DL H p a g vw d) : alenT false vw = some d.w.length := by
  rw [h.sw.alen, slen_fm wc_len (by decide) h.sw]

theorem U34 {H : AHeap} {p a : Nat} {g : Option Nat} {vw : AVal} {d : DS} (h : DL H p a g vw d) : AC A 34 [.ptr p 0] H = some (.int .i64 (d.s.length : Int), H) := by
  refine look_val (x := DnFns.c34) rfl rfl rfl rfl ?_
  obtain ⟨o, ho⟩ := h.frz.op
  simp only [c34, ho, e_nilp0, rwA, rwB, Nat.reduceAdd, Nat.reduceMul, Nat.reduceLeDiff, Int.reduceEq, Int.reduceLT, Int.reduceLE, Int.reduceAdd, Int.reduceSub, Int.reduceMul, ↓reduceIte, Nat.reduceEqDiff, reduceCtorEq, ↓cnd_true, ↓cnd_false]

theorem U45 {H : AHeap} {p a : Nat} {g : Option Nat} {vw : AVal} {d : DS} (h : DL H p a g vw d) (i : Int) : AC A 45 [.ptr p 0, .int .i64 i] H = some (.bool (decide (0 ≤ i) && decide (i < (d.s.length : Int))), H) := by
  refine look_val (x := DnFns.c45) rfl rfl rfl rfl ?_
  have u := U34 h.frz
  cases e : decide (0 ≤ i) <;> simp only [c45, e, u, Bool.true_and, Bool.false_and, rwA, rwB, Nat.reduceAdd, Nat.reduceMul, Nat.reduceLeDiff, Int.reduceEq, Int.reduceLT, Int.reduceLE, Int.reduceAdd, Int.reduceSub, Int.reduceMul, ↓reduceIte, Nat.reduceEqDiff, reduceCtorEq, ↓cnd_true, ↓cnd_false]

theorem U26 {H : AHeap} {p a : Nat} {g : Option Nat} {vw : AVal} {d : DS} (h : DL H p a g vw d) : AC A 26 [.ptr p 0] H = some (.int .i64 d.ops, H) := by
  refine look_val (x := DnFns.c26) rfl rfl rfl rfl ?_
  obtain ⟨o, ho⟩ := h.frz.op
  simp only [c26, ho, e_nilp0, rwA, rwB, Nat.reduceAdd, Nat.reduceMul, Nat.reduceLeDiff, Int.reduceEq, Int.reduceLT, Int.reduceLE, Int.reduceAdd, Int.reduceSub, Int.reduceMul, ↓reduceIte, Nat.reduceEqDiff, reduceCtorEq, ↓cnd_true, ↓cnd_false]

theorem step_t {d : DS} (h : d.goes = true) : d.step = { d with arm := low (d.arm - 1), ops := IntKind.i64.wrap (d.ops + 1) } := by simp [DS.step, h]
theorem step_f {d : DS} (h : d.goes = false) : d.step = { d with dead := true, arm := 0 } := by simp [DS.step, h]
theorem goes_t {d : DS} (h : d.goes = true) : d.dead = false ∧ decide (d.arm = 1) = false := by simpa [DS.goes] using h
theorem goes_f {d : DS} (h : d.goes = false) : d.dead = true ∨ (d.dead = false ∧ decide (d.arm = 1) = true) := by
  simp [DS.goes] at h
  cases hd : d.dead
  · exact .inr ⟨rfl, by simpa using h hd⟩
  · exact .inl rfl
theorem mm_low (x : Int) : aminmax true (.int .i64 x) (.int .i64 0) = some (.int .i64 (low x)) := rfl

def dcells (a : Nat) (g : Option Nat) (vw : AVal) (d : DS) : List AVal := [.slice a 0 d.s.length d.s.length g, vw, .int .i64 d.arm, .bool d.dead, .int .i64 d.ops]
theorem D.own {H : AHeap} {p a : Nat} {g : Option Nat} {vw : AVal} {d e : DS} (h : D H p a g vw d) (hs : e.s = d.s) (hw : e.w = d.w) (a0 : 0 ≤ e.arm) (a1 : e.arm ≤ 9223372036854775807) : D (H.set p (.cells (dcells a g vw e) true)) p a g vw e := by
  have k : Fr [p] H (H.set p (.cells (dcells a g vw e) true)) := Fr.set (.inl (by simp)) (Fr.refl _ _)
  exact { op := by rw [set_obj, if_pos rfl]; rfl, oa := by rw [hs, k.2 a h.an (by simp [Ne.symm h.pa])]; exact h.oa, ow := by rw [hw]; exact h.ow.fr k (fun i hi => by simp; rintro rfl; exact h.pw hi), pa := h.pa, pw := h.pw, aw := h.aw, pn := h.pn, an := h.an, gs := h.gs, n1 := by rw [hs]; exact h.n1, n2 := by rw [hs]; exact h.n2, hat := by rw [hs, hw]; exact h.hat, a0 := a0, a1 := a1 }

theorem step_s (d : DS) : d.step.s = d.s := by unfold DS.step; split <;> rfl
theorem step_w (d : DS) : d.step.w = d.w := by unfold DS.step; split <;> rfl
theorem step_arm {d : DS} (h0 : 0 ≤ d.arm) (h1 : d.arm ≤ 9223372036854775807) : 0 ≤ d.step.arm ∧ d.step.arm ≤ 9223372036854775807 := by
  unfold DS.step low; split
  · dsimp only; split <;> omega
  · exact ⟨Int.le_refl _, by show (0 : Int) ≤ _; decide⟩

theorem U41 {H : AHeap} {p a : Nat} {g : Option Nat} {vw : AVal} {d : DS} (h : D H p a g vw d) :
    AC A 41 [.ptr p 0] H = some (.int .i64 (if d.goes then 0 else 17), H.set p (.cells (dcells a g vw d.step) true)) := by
  have ho := h.op
  have h0 := h.a0
  have h1 := h.a1
  rw [s_fn (A := A) (f := 41) (x := DnFns.c41) rfl rfl rfl]
  have w1 : IntKind.i64.wrap (d.arm - 1) = d.arm - 1 := by rw [wrap_i64]; omega
  rcases sl_shape' h.ow.sl with hv | ⟨_, _, _, _, _, hv⟩ <;> rw [hv] at ho ⊢
  all_goals
    cases hg : d.goes
    · rw [step_f hg]
      rcases goes_f hg with e | ⟨e, e'⟩
      · rw [e] at ho
        simp only [c41, dcells, ho, AHeap.set_set, Bool.false_eq_true, rwA, rwB, Nat.reduceAdd, Nat.reduceMul, Nat.reduceLeDiff, Int.reduceEq, Int.reduceLT, Int.reduceLE, Int.reduceAdd, Int.reduceSub, Int.reduceMul, ↓reduceIte, Nat.reduceEqDiff, reduceCtorEq, ↓cnd_true, ↓cnd_false]
      · rw [e] at ho
        simp only [c41, dcells, ho, e', AHeap.set_set, Bool.false_eq_true, rwA, rwB, Nat.reduceAdd, Nat.reduceMul, Nat.reduceLeDiff, Int.reduceEq, Int.reduceLT, Int.reduceLE, Int.reduceAdd, Int.reduceSub, Int.reduceMul, ↓reduceIte, Nat.reduceEqDiff, reduceCtorEq, ↓cnd_true, ↓cnd_false]
    · rw [step_t hg]
      obtain ⟨e, e'⟩ := goes_t hg
      rw [e] at ho
      simp only [c41, dcells, low, ho, e', e, w1, AHeap.set_set, rwA, rwB, Nat.reduceAdd, Nat.reduceMul, Nat.reduceLeDiff, Int.reduceEq, Int.reduceLT, Int.reduceLE, Int.reduceAdd, Int.reduceSub, Int.reduceMul, ↓reduceIte, Nat.reduceEqDiff, reduceCtorEq, ↓cnd_true, ↓cnd_false]

theorem ids_push (N n : Nat) (c : Nat) (g : Option Nat) : (AVal.slice N 0 n c g).ids = [N] := rfl

theorem U20 {H : AHeap} {p a : Nat} {g : Option Nat} {vw : AVal} {d : DS} (h : D H p a g vw d) (hw : d.w.length < 1000000) (i : Int) (s : List UInt8) :
    ∃ H' vw', AC A 20 [.ptr p 0, .int .i64 i, .str s] H = some (.int .i64 (d.write i s).2, H') ∧ D H' p a g vw' (d.write i s).1 ∧ Fr (p :: vw.ids) H H' ∧ (∀ j, j ∈ vw'.ids → j ∈ vw.ids ∨ H.next ≤ j) := by
  have u := U45 h.look i
  by_cases c : (0 ≤ i ∧ i < d.s.length) ∧ s.length = 512
  · have c1 : decide (0 ≤ i) = true := by simp; omega
    have c2 : decide (i < (d.s.length : Int)) = true := by simp; omega
    have c3 : ((s.length : Int) == 512) = true := by simp; omega
    have c4 : decide ((s.length : Int) = 512) = true := by simp; omega
    simp only [DS.write, if_pos c]
    have u46 := U41 h
    obtain ⟨b0, b1⟩ := step_arm h.a0 h.a1
    have hD := h.own (e := d.step) (step_s d) (step_w d) b0 b1
    have k1 : Fr (p :: vw.ids) H (H.set p (.cells (dcells a g vw d.step) true)) := Fr.set (.inl (by simp)) (Fr.refl _ _)
    cases hg : d.goes
    · rw [hg] at u46
      refine ⟨H.set p (.cells (dcells a g vw d.step) true), vw, ?_, ?_, k1, fun j hj => .inl hj⟩
      · rw [s_fn (A := A) (f := 20) (x := DnFns.c20) rfl rfl rfl]
        simp only [c20, u, u46, c1, c2, c3, c4, Bool.true_and, Bool.false_eq_true, rwA, rwB, Nat.reduceAdd, Nat.reduceMul, Nat.reduceLeDiff, Int.reduceEq, Int.reduceLT, Int.reduceLE, Int.reduceAdd, Int.reduceSub, Int.reduceMul, ↓reduceIte, Nat.reduceEqDiff, reduceCtorEq, ↓cnd_true, ↓cnd_false]
      · exact hD
    · rw [hg] at u46
      simp only [if_true] at u46
      obtain ⟨K, eK⟩ : ∃ K, H.set p (.cells (dcells a g vw d.step) true) = K := ⟨_, rfl⟩
      rw [eK] at u46 hD k1
      have ho := hD.op
      have hn := slen_fm wc_len (by decide) hD.ow.sl
      rw [step_w] at hn
      have pu := hD.ow.pushE (by' := 24) (v := [.int .i64 i, .str s]) (by decide) rfl (by rw [hn]; omega)
      have ow := Ow_pushedE K vw (es := 2) (v := [.int .i64 i, .str s]) (by decide) rfl hD.ow.sl.length
      have po := pushE_obj (v := [.int .i64 i, .str s]) (c := (d.step.w.flatMap wc) ++ [.int .i64 i, .str s]) hD.pn hD.pw
      have pa := pushE_obj (v := [.int .i64 i, .str s]) (c := (d.step.w.flatMap wc) ++ [.int .i64 i, .str s]) hD.an hD.aw
      have pnx := pushE_next K vw [.int .i64 i, .str s] ((d.step.w.flatMap wc) ++ [.int .i64 i, .str s])
      have kp : Fr (p :: vw.ids) H (pushE K vw [.int .i64 i, .str s] ((d.step.w.flatMap wc) ++ [.int .i64 i, .str s])) := Fr.pushE (fun i hi => .inl (by simp [hi])) k1
      rw [hn] at pu ow
      obtain ⟨M, eM⟩ : ∃ M, pushE K vw [.int .i64 i, .str s] ((d.step.w.flatMap wc) ++ [.int .i64 i, .str s]) = M := ⟨_, rfl⟩
      rw [eM] at pu ow po pa pnx kp
      rw [ho] at po
      rw [hD.oa] at pa
      have hpn := hD.pn
      have han := hD.an
      have hKn : H.next = K.next := by rw [← eK, set_next]
      have kf : Fr (p :: vw.ids) H (M.set p (.cells (dcells a g (.slice (K.next + 1) 0 (d.w.length + 1) (d.w.length + 1) (some 2)) d.step) true)) := Fr.set (.inl (by simp)) kp
      refine ⟨M.set p (.cells (dcells a g (.slice (K.next + 1) 0 (d.w.length + 1) (d.w.length + 1) (some 2)) d.step) true), .slice (K.next + 1) 0 (d.w.length + 1) (d.w.length + 1) (some 2), ?_, ?_, kf, fun j hj => .inr (by simp [ids_push] at hj; omega)⟩
      · rw [s_fn (A := A) (f := 20) (x := DnFns.c20) rfl rfl rfl]
        rcases sl_shape' h.ow.sl with hv | ⟨_, _, _, _, _, hv⟩ <;> rw [hv] at ho pu po
        all_goals
          simp only [c20, u, u46, c1, c2, c3, c4, ho, pu, po, oldne hD.pn, dcells, Bool.true_and, Bool.false_eq_true, rwA, rwB, Nat.reduceAdd, Nat.reduceMul, Nat.reduceLeDiff, Int.reduceEq, Int.reduceLT, Int.reduceLE, Int.reduceAdd, Int.reduceSub, Int.reduceMul, ↓reduceIte, Nat.reduceEqDiff, reduceCtorEq, ↓cnd_true, ↓cnd_false]
      · refine { op := by rw [set_obj, if_pos rfl]; rfl, oa := ?_, ow := ?_, pa := h.pa, pw := by simp [ids_push]; omega, aw := by simp [ids_push]; omega, pn := by rw [set_next]; omega, an := by rw [set_next]; omega, gs := h.gs, n1 := hD.n1, n2 := hD.n2, hat := ?_, a0 := b0, a1 := b1 }
        · rw [set_obj, if_neg (Ne.symm h.pa), pa]; rfl
        · rw [Ow_set (by simp [ids_push]; omega)]
          have e : (d.w ++ [(i.toNat, s)]).flatMap wc = d.step.w.flatMap wc ++ [.int .i64 i, .str s] := by
            rw [step_w, List.flatMap_append]
            simp [wc, Int.toNat_of_nonneg c.1.1]
          show Ow M 2 _ ((d.w ++ [(i.toNat, s)]).flatMap wc)
          rw [e]; exact ow
        · intro x hx
          show x.1 < d.step.s.length
          rw [step_s]
          have hx : x ∈ d.w ++ [(i.toNat, s)] := hx
          rcases List.mem_append.1 hx with hx | hx
          · exact h.hat x hx
          · simp at hx; subst hx; show i.toNat < _; omega
  · simp only [DS.write, if_neg c]
    refine ⟨H, vw, ?_, h, Fr.refl _ _, fun j hj => .inl hj⟩
    rw [s_fn (A := A) (f := 20) (x := DnFns.c20) rfl rfl rfl]
    cases c1 : (decide (0 ≤ i) && decide (i < (d.s.length : Int)))
    · rw [c1] at u
      simp only [c20, u, rwA, rwB, Nat.reduceAdd, Nat.reduceMul, Nat.reduceLeDiff, Int.reduceEq, Int.reduceLT, Int.reduceLE, Int.reduceAdd, Int.reduceSub, Int.reduceMul, ↓reduceIte, Nat.reduceEqDiff, reduceCtorEq, ↓cnd_true, ↓cnd_false]
    · rw [c1] at u
      simp only [Bool.and_eq_true, decide_eq_true_eq] at c1
      have c4 : decide ((s.length : Int) = 512) = false := by simp; omega
      simp only [c20, u, c4, rwA, rwB, Nat.reduceAdd, Nat.reduceMul, Nat.reduceLeDiff, Int.reduceEq, Int.reduceLT, Int.reduceLE, Int.reduceAdd, Int.reduceSub, Int.reduceMul, ↓reduceIte, Nat.reduceEqDiff, reduceCtorEq, ↓cnd_true, ↓cnd_false]

end Go.Proofs.YtilhjcnkaelheaaGreat.Dk
end

section
/- Disks: flushed, armed, brought up again, read. -/
set_option maxRecDepth 100000
set_option linter.unusedSimpArgs false
set_option linter.unusedVariables false
set_option maxHeartbeats 2000000
namespace Go.Proofs.YtilhjcnkaelheaaGreat.Dk
open Go Go.Proofs.YtilhjcnkaelheaaGreat.Am DnFns Go.RowKit
open Sd (Sec noughts home homeno ofHome ofNo opened unfit pad)

theorem U43 (j : Int) (H : AHeap) : AC A 43 [.int .i64 j] H = some (.bool true, H) := by
  refine one_val (x := DnFns.c43) rfl rfl rfl rfl rfl ?_ H
  simp only [c43, rwA, rwB, Nat.reduceAdd, Nat.reduceMul, Nat.reduceLeDiff, Int.reduceEq, Int.reduceLT, Int.reduceLE, Int.reduceAdd, Int.reduceSub, Int.reduceMul, ↓reduceIte, Nat.reduceEqDiff, reduceCtorEq, ↓cnd_true, ↓cnd_false]

theorem U44 {H : AHeap} {b : Nat} {o : Bool} {kv : AVal} {keep : List Bool} (ob : H.obj b = some (.cells [kv] o)) (hk : Sl H 1 kv (keep.map .bool)) (j : Nat) :
    AC A 44 [.int .i64 (j : Int), .ptr b 0] H = some (.bool (keep.getD j false), H) := by
  refine look_val (x := DnFns.c44) rfl rfl rfl rfl ?_
  have ho := frz_obj ob
  have hl := hk.frz.alen
  rw [slen1 hk.frz] at hl
  by_cases c : j < keep.length
  · obtain ⟨id, off, cap, g, k, own, rfl, hi, _, hc⟩ := hk.frz.elem1 c
    have c1 : decide ((j : Int) < (keep.length : Int)) = true := by simp; omega
    have ha : aidx keep.length (.int .i64 (j : Int)) = some j := by simp [aidx]; omega
    have e : keep.getD j false = keep[j] := by simp [c]
    rw [e]
    simp only [c44, ho, hl, c1, ha, hi, hc, rwA, rwB, Nat.reduceAdd, Nat.reduceMul, Nat.reduceLeDiff, Int.reduceEq, Int.reduceLT, Int.reduceLE, Int.reduceAdd, Int.reduceSub, Int.reduceMul, ↓reduceIte, Nat.reduceEqDiff, reduceCtorEq, ↓cnd_true, ↓cnd_false]
  · have c1 : decide ((j : Int) < (keep.length : Int)) = false := by simp; omega
    have e : keep.getD j false = false := by simp [List.getElem?_eq_none (show keep.length ≤ j by omega)]
    rw [e]
    simp only [c44, ho, hl, c1, rwA, rwB, Nat.reduceAdd, Nat.reduceMul, Nat.reduceLeDiff, Int.reduceEq, Int.reduceLT, Int.reduceLE, Int.reduceAdd, Int.reduceSub, Int.reduceMul, ↓reduceIte, Nat.reduceEqDiff, reduceCtorEq, ↓cnd_true, ↓cnd_false]

def b42 : ACode := (.seq (.region [⟨(some 14), (.bin .lss (.tmp 13) (.tmp 12)), none, none⟩]) (.seq (.cond (.tmp 14) .skip (.exit 0)) (.seq (.block 1 (.seq (.region [⟨(some 15), (.mv (.tmp 13)), none, none⟩, ⟨(some 16), (.idxASl 2 (.tmp 11) (.tmp 13)), none, none⟩, ⟨(some 17), (.load true 2 (.tmp 16)), none, none⟩, ⟨(some 7), (.new [(.int .i64 0), (.str [])]), none, none⟩, ⟨(some 6), (.mv (.tmp 15)), none, none⟩, ⟨none, (.store 2 (.tmp 7) (.tmp 17)), none, none⟩]) (.seq (.region [⟨(some 18), (.mv (.tmp 1)), none, none⟩, ⟨(some 19), (.mv (.tmp 6)), none, none⟩, ⟨(some 20), (.call (.tmp 18) [(.tmp 19)]), none, none⟩]) (.cond (.tmp 20) (.seq (.draw [⟨(some 21), (.mv (.tmp 0)), none, none⟩, ⟨(some 22), (.nilck (.tmp 21)), none, none⟩, ⟨(some 23), (.fieldA 0 (.tmp 22)), none, none⟩, ⟨(some 24), (.load false 1 (.tmp 23)), none, none⟩, ⟨(some 25), (.fieldA 0 (.tmp 7)), none, none⟩, ⟨(some 26), (.load false 1 (.tmp 25)), none, none⟩, ⟨(some 27), (.fieldA 1 (.tmp 7)), none, none⟩, ⟨(some 28), (.load false 1 (.tmp 27)), none, none⟩, ⟨(some 29), (.idxASl 1 (.tmp 24) (.tmp 26)), none, none⟩, ⟨none, (.store 1 (.tmp 29) (.tmp 28)), none, none⟩]) (.region [⟨(some 30), (.mv (.tmp 5)), none, none⟩, ⟨(some 31), (.bin .add (.tmp 30) (.con (.int .i64 1))), none, none⟩, ⟨(some 5), (.mv (.tmp 31)), none, none⟩])) .skip)))) (.region [⟨(some 32), (.bin .add (.tmp 13) (.con (.int .i64 1))), none, none⟩, ⟨(some 13), (.mv (.tmp 32)), none, none⟩]))))
theorem loop42 {H : AHeap} {p a : Nat} {g : Option Nat} {vw : AVal} {d : DS} (h : D H p a g vw d) (hw : d.w.length < 1000000) {P : Nat → Bool} {f : FuncId} {cap : List AVal}
    (hf : ∀ K j, Fr [a] H K → j < d.w.length → AC A f (.int .i64 (j : Int) :: cap) K = some (.bool (P j), K)) {env : Env}
    (h0 : env 0 = .ptr p 0) (h1 : env 1 = .func f [] cap) (h5 : env 5 = .int .i64 0) (h11 : env 11 = vw) (h12 : env 12 = .int .i64 (d.w.length : Int)) (h13 : env 13 = .int .i64 0) :
    Outs (AX A (.loop b42) env H) fun e env' K => e = .exit 0 ∧ env' 0 = .ptr p 0 ∧ env' 5 = .int .i64 (d.count P : Int) ∧ Fr [a] H K ∧ K.obj a = some (.cells ((puts d.s (pk d.w P d.w.length)).map .str) true) := by
  refine loop_ends (I := fun (j : Nat) env' K => j ≤ d.w.length ∧ env' 0 = .ptr p 0 ∧ env' 1 = .func f [] cap ∧ env' 5 = .int .i64 ((pk d.w P j).length : Int) ∧ env' 11 = vw ∧ env' 12 = .int .i64 (d.w.length : Int) ∧ env' 13 = .int .i64 (j : Int) ∧ Fr [a] H K ∧ K.obj a = some (.cells ((puts d.s (pk d.w P j)).map .str) true) ∧ (pk d.w P j).length ≤ j) (fun j => d.w.length - j) ?_ 0 env H
    ⟨Nat.zero_le _, h0, h1, h5, h11, h12, h13, Fr.refl _ _, h.oa, Nat.le_refl _⟩
  rintro j env K ⟨hj, h0, h1, h5, h11, h12, h13, k, oa, hle⟩
  by_cases c : j < d.w.length
  · have c1 : decide ((j : Int) < (d.w.length : Int)) = true := by simp; omega
    have ha : aidx d.w.length (.int .i64 (j : Int)) = some j := by simp [aidx]; omega
    have w1 : IntKind.i64.wrap ((j : Int) + 1) = ((j + 1 : Nat) : Int) := by rw [wrap_i64]; omega
    have hsl := h.ow.fr k (fun i hi => by simp; rintro rfl; exact h.aw hi)
    obtain ⟨id, off, cp, g', l, own, rfl, ho, hk, hall, _⟩ := hsl.sl.elem wc_len (by decide) c
    have hr := elem_room (es := 2) c hk
    have ld : apart true (off + j * 2) 2 l = some (.agg [.int .i64 ((d.w[j].1 : Nat) : Int), .str d.w[j].2]) := by rw [apart_agg _ _ _ hr, hall]; rfl
    obtain ⟨x, ex⟩ : ∃ x, d.w[j] = x := ⟨_, rfl⟩
    have hx : x.1 < d.s.length := by rw [← ex]; exact h.hat _ (List.getElem_mem c)
    rw [ex] at ld
    have hpk : pk d.w P (j + 1) = pk d.w P j ++ (if P j then [x] else []) := by
      simp only [pk]; rw [List.getElem?_eq_getElem c, ex]
    obtain ⟨K1, eK1⟩ : ∃ K1, (K.new (.cells [.int .i64 0, .str []] true)).set K.next (.cells [.int .i64 (x.1 : Int), .str x.2] true) = K1 := ⟨_, rfl⟩
    have k1 : Fr [a] H K1 := by rw [← eK1]; exact Fr.set (.inr k.1) (Fr.new k)
    have oN : K1.obj K.next = some (.cells [.int .i64 (x.1 : Int), .str x.2] true) := by rw [← eK1, set_obj, if_pos rfl]
    have hpn : p < K.next := Nat.lt_of_lt_of_le h.pn k.1
    have han : a < K.next := Nat.lt_of_lt_of_le h.an k.1
    have op : K1.obj p = some (.cells (dcells a g (.slice id off d.w.length cp g') d) true) := by rw [k1.2 p h.pn (by simp [h.pa])]; exact h.op
    have oa1 : K1.obj a = some (.cells ((puts d.s (pk d.w P j)).map .str) true) := by rw [← eK1, set_obj, if_neg (by omega), new_obj, if_neg (by omega)]; exact oa
    have ha2 : aidx d.s.length (.int .i64 (x.1 : Int)) = some x.1 := by simp [aidx]; omega
    have st : storeX K1 1 a x.1 [.str x.2] false (some (.cells ((puts d.s (pk d.w P j)).map .str) true)) = some (K1.set a (.cells (((puts d.s (pk d.w P j)).set x.1 x.2).map .str) true)) := by
      rw [store_one _ _ _ _ _ (by rw [List.length_map, puts_len]; exact hx), List.map_set]
    have hF := hf K1 j k1 c
    have w2 : IntKind.i64.wrap (((pk d.w P j).length : Int) + 1) = (((pk d.w P j).length + 1 : Nat) : Int) := by rw [wrap_i64]; omega
    cases hP : P j <;> rw [hP] at hF hpk
    · simp only [b42, h0, h1, h5, h11, h12, h13, c1, ha, ho, ld, eK1, hF, w1, rwA, rwB, Nat.reduceAdd, Nat.reduceMul, Nat.reduceLeDiff, Int.reduceEq, Int.reduceLT, Int.reduceLE, Int.reduceAdd, Int.reduceSub, Int.reduceMul, ↓reduceIte, Nat.reduceEqDiff, reduceCtorEq, ↓cnd_true, ↓cnd_false]
      rw [outs_some]
      refine .inl ⟨rfl, j + 1, by omega, by omega, by simp [Env.set, h0], by simp [Env.set, h1], ?_, by simp [Env.set, h11], by simp [Env.set, h12], by simp [Env.set], k1, ?_, ?_⟩
      · simp [Env.set, h5, hpk]
      · rw [hpk]; simpa using oa1
      · rw [hpk]; simp; omega
    · unfold dcells at op
      simp only [b42, h0, h1, h5, h11, h12, h13, c1, ha, ho, ld, eK1, hF, w1, oN, op, ha2, oa1, st, w2, oldne hpn, oldne han, rwA, rwB, Nat.reduceAdd, Nat.reduceMul, Nat.reduceLeDiff, Int.reduceEq, Int.reduceLT, Int.reduceLE, Int.reduceAdd, Int.reduceSub, Int.reduceMul, ↓reduceIte, Nat.reduceEqDiff, reduceCtorEq, ↓cnd_true, ↓cnd_false]
      rw [outs_some]
      refine .inl ⟨rfl, j + 1, by omega, by omega, by simp [Env.set, h0], by simp [Env.set, h1], ?_, by simp [Env.set, h11], by simp [Env.set, h12], by simp [Env.set], Fr.set (.inl (by simp)) k1, ?_, ?_⟩
      · simp [Env.set, hpk]
      · rw [hpk, set_obj, if_pos rfl]; simp [puts]
      · rw [hpk]; simp; omega
  · have e : j = d.w.length := by omega
    subst e
    have c1 : decide ((d.w.length : Int) < (d.w.length : Int)) = false := by simp
    simp only [b42, h12, h13, c1, rwA, rwB, Nat.reduceAdd, Nat.reduceMul, Nat.reduceLeDiff, Int.reduceEq, Int.reduceLT, Int.reduceLE, Int.reduceAdd, Int.reduceSub, Int.reduceMul, ↓reduceIte, Nat.reduceEqDiff, reduceCtorEq, ↓cnd_true, ↓cnd_false]
    rw [outs_some]
    exact .inr ⟨by simp, rfl, by simp [Env.set, h0], by simp [Env.set, h5, DS.count], k, oa⟩

theorem pk_mem {w : List (Nat × List UInt8)} {P : Nat → Bool} : ∀ {j : Nat} {x}, x ∈ pk w P j → x ∈ w
  | 0, x, h => by simp [pk] at h
  | j + 1, x, h => by
    simp only [pk, List.mem_append] at h
    rcases h with h | h
    · exact pk_mem h
    · split at h
      · rename_i y hy
        split at h
        · simp at h; subst h; exact List.mem_of_getElem? hy
        · simp at h
      · simp at h

theorem U42 {H : AHeap} {p a : Nat} {g : Option Nat} {vw : AVal} {d : DS} (h : D H p a g vw d) (hw : d.w.length < 1000000) {P : Nat → Bool} {f : FuncId} {cap : List AVal}
    (hf : ∀ K j, Fr [a] H K → j < d.w.length → AC A f (.int .i64 (j : Int) :: cap) K = some (.bool (P j), K)) :
    ∃ H', AC A 42 [.ptr p 0, .func f [] cap] H = some (.int .i64 (d.count P : Int), H') ∧ D H' p a g .nils (d.settle P) ∧ Fr [p, a] H H' := by
  have key : Rets (AC A 42 [.ptr p 0, .func f [] cap] H) fun v H' => v = .int .i64 (d.count P : Int) ∧ D H' p a g .nils (d.settle P) ∧ Fr [p, a] H H' := by
    rw [s_fn (A := A) (f := 42) (x := DnFns.c42) rfl rfl rfl]
    have ho := h.op
    have hl := h.look.wlen
    simp only [c42, ho, hl, rwA, rwB, Nat.reduceAdd, Nat.reduceMul, Nat.reduceLeDiff, Int.reduceEq, Int.reduceLT, Int.reduceLE, Int.reduceAdd, Int.reduceSub, Int.reduceMul, ↓reduceIte, Nat.reduceEqDiff, reduceCtorEq, ↓cnd_true, ↓cnd_false]
    repeat (first | refine outs_seq ?_ | refine outs_block ?_ | refine outs_step ?_ | refine outs_stepD ?_ | refine rets_end ?_ | refine ans_end ?_)
    refine (loop42 (d := d) h hw hf ?_ ?_ ?_ ?_ ?_ ?_).mono ?_
    · simp [Env.set, ainit]
    · simp [Env.set, ainit]
    · simp [Env.set]
    · simp [Env.set]
    · simp [Env.set]
    · simp [Env.set]
    rintro e env K ⟨rfl, h0, h5, k, oa⟩
    have op : K.obj p = some (.cells [.slice a 0 d.s.length d.s.length g, vw, .int .i64 d.arm, .bool d.dead, .int .i64 d.ops] true) := by rw [k.2 p h.pn (by simp [h.pa])]; exact h.op
    simp only [outs_some, h0, h5, op, rwA, rwB, Nat.reduceAdd, Nat.reduceMul, Nat.reduceLeDiff, Int.reduceEq, Int.reduceLT, Int.reduceLE, Int.reduceAdd, Int.reduceSub, Int.reduceMul, ↓reduceIte, Nat.reduceEqDiff, reduceCtorEq, ↓cnd_true, ↓cnd_false]
    rw [rets_some]
    refine ⟨rfl, ?_, Fr.set (.inl (by simp)) (k.mono (by simp))⟩
    have el : (d.settle P).s.length = d.s.length := by simp [DS.settle, puts_len]
    exact { op := by rw [set_obj, if_pos rfl, el]; rfl, oa := by rw [set_obj, if_neg (Ne.symm h.pa)]; exact oa, ow := Ow.nil _ _, pa := h.pa, pw := by simp [AVal.ids], aw := by simp [AVal.ids], pn := Nat.lt_of_lt_of_le h.pn k.1, an := Nat.lt_of_lt_of_le h.an k.1, gs := h.gs, n1 := by rw [el]; exact h.n1, n2 := by rw [el]; exact h.n2, hat := by intro x hx; simp [DS.settle] at hx, a0 := h.a0, a1 := h.a1 }
  obtain ⟨v, H', e, rfl, hD, hk⟩ := key
  exact ⟨H', e, hD, hk⟩

theorem U15 {H : AHeap} {p a : Nat} {g : Option Nat} {vw : AVal} {d : DS} (h : D H p a g vw d) {n : Int} (hn : n ≤ 9223372036854775807) :
    ∃ H', AC A 15 [.ptr p 0, .int .i64 n] H = some (.tuple [], H') ∧ D H' p a g vw { d with arm := low n } ∧ Fr [p] H H' := by
  refine ⟨H.set p (.cells (dcells a g vw { d with arm := low n }) true), ?_, h.own rfl rfl ?_ ?_, Fr.set (.inl (by simp)) (Fr.refl _ _)⟩
  · have ho := h.op
    rw [s_fn (A := A) (f := 15) (x := DnFns.c15) rfl rfl rfl]
    simp only [c15, ho, e_nilp0, dcells, low, Bool.not_false, rwA, rwB, Nat.reduceAdd, Nat.reduceMul, Nat.reduceLeDiff, Int.reduceEq, Int.reduceLT, Int.reduceLE, Int.reduceAdd, Int.reduceSub, Int.reduceMul, ↓reduceIte, Nat.reduceEqDiff, reduceCtorEq, ↓cnd_true, ↓cnd_false]
  · show 0 ≤ low n; unfold low; split <;> omega
  · show low n ≤ _; unfold low; split <;> omega

theorem U14 {H : AHeap} {p a : Nat} {g : Option Nat} {vw : AVal} {d : DS} (h : D H p a g vw d) (hw : d.w.length < 1000000) :
    ∃ H' vw', AC A 14 [.ptr p 0] H = some (.int .i64 d.flush.2, H') ∧ D H' p a g vw' d.flush.1 ∧ Fr [p, a] H H' ∧ (∀ j, j ∈ vw'.ids → j ∈ vw.ids) := by
  have u46 := U41 h
  obtain ⟨b0, b1⟩ := step_arm h.a0 h.a1
  have hD := h.own (e := d.step) (step_s d) (step_w d) b0 b1
  have k1 : Fr [p, a] H (H.set p (.cells (dcells a g vw d.step) true)) := Fr.set (.inl (by simp)) (Fr.refl _ _)
  obtain ⟨K, eK⟩ : ∃ K, H.set p (.cells (dcells a g vw d.step) true) = K := ⟨_, rfl⟩
  rw [eK] at u46 hD k1
  unfold DS.flush
  cases hg : d.goes
  · rw [hg] at u46
    refine ⟨K, vw, ?_, hD, k1, fun j hj => hj⟩
    rw [s_fn (A := A) (f := 14) (x := DnFns.c14) rfl rfl rfl]
    simp only [c14, u46, e_nilp0, Bool.false_eq_true, rwA, rwB, Nat.reduceAdd, Nat.reduceMul, Nat.reduceLeDiff, Int.reduceEq, Int.reduceLT, Int.reduceLE, Int.reduceAdd, Int.reduceSub, Int.reduceMul, ↓reduceIte, Nat.reduceEqDiff, reduceCtorEq, ↓cnd_true, ↓cnd_false]
  · rw [hg] at u46
    obtain ⟨H', e, hD', k2⟩ := U42 hD (by rw [step_w]; exact hw) (P := fun _ => true) (f := 43) (cap := []) (fun M j _ _ => U43 _ M)
    refine ⟨H', .nils, ?_, hD', k1.trans k2 (fun i hi => .inl hi), by simp [AVal.ids]⟩
    rw [s_fn (A := A) (f := 14) (x := DnFns.c14) rfl rfl rfl]
    simp only [c14, u46, e, e_nilp0, rwA, rwB, Nat.reduceAdd, Nat.reduceMul, Nat.reduceLeDiff, Int.reduceEq, Int.reduceLT, Int.reduceLE, Int.reduceAdd, Int.reduceSub, Int.reduceMul, ↓reduceIte, Nat.reduceEqDiff, reduceCtorEq, ↓cnd_true, ↓cnd_false]

theorem U17 {H : AHeap} {p a : Nat} {g : Option Nat} {vw kv : AVal} {d : DS} {keep : List Bool} (h : D H p a g vw d) (hw : d.w.length < 1000000) (hk : Sl H 1 kv (keep.map .bool)) (hid : ∀ i, i ∈ kv.ids → i < H.next ∧ i ≠ p ∧ i ≠ a) :
    ∃ H', AC A 17 [.ptr p 0, kv] H = some (.int .i64 ((d.up keep).2 : Int), H') ∧ D H' p a g .nils (d.up keep).1 ∧ Fr [p, a] H H' := by
  have hpn := h.pn
  have han := h.an
  have hK := h.keeps (Keeps.new H (.cells [kv] true))
  have hD := hK.own (e := { d with dead := false, arm := 0 }) rfl rfl (Int.le_refl _) (by show (0 : Int) ≤ _; decide)
  have k1 : Fr [p, a] H ((H.new (.cells [kv] true)).set p (.cells (dcells a g vw { d with dead := false, arm := 0 }) true)) := Fr.set (.inl (by simp)) (Fr.new (Fr.refl _ _))
  have oN : ((H.new (.cells [kv] true)).set p (.cells (dcells a g vw { d with dead := false, arm := 0 }) true)).obj H.next = some (.cells [kv] true) := by rw [set_obj, if_neg (by omega), new_obj, if_pos rfl]
  have nN : ((H.new (.cells [kv] true)).set p (.cells (dcells a g vw { d with dead := false, arm := 0 }) true)).next = H.next + 1 := by rw [set_next, new_next]
  obtain ⟨K, eK⟩ : ∃ K, (H.new (.cells [kv] true)).set p (.cells (dcells a g vw { d with dead := false, arm := 0 }) true) = K := ⟨_, rfl⟩
  rw [eK] at hD k1 oN nN
  have hkK := hk.fr k1 (fun i hi => ⟨(hid i hi).1, by simp [(hid i hi).2]⟩)
  obtain ⟨H', e, hD', k2⟩ := U42 hD hw (P := fun i => keep.getD i false) (f := 44) (cap := [.ptr H.next 0]) (fun M j kM _ => by
    refine U44 (o := true) ?_ (hkK.fr kM (fun i hi => ⟨by have := (hid i hi).1; omega, by simp [(hid i hi).2.2]⟩)) j
    rw [kM.2 _ (by omega) (by simp; omega)]; exact oN)
  refine ⟨H', ?_, hD', k1.trans k2 (fun i hi => .inl hi)⟩
  have ho := h.op
  have e' : d.count (fun i => keep.getD i false) = ({ d with dead := false, arm := 0 } : DS).count fun i => keep.getD i false := rfl
  unfold dcells at eK
  rw [s_fn (A := A) (f := 17) (x := DnFns.c17) rfl rfl rfl]
  rcases sl_shape' hk with rfl | ⟨_, _, _, _, _, rfl⟩ <;> simp only [c17, ho, e_nilp0, oldne hpn, AHeap.set_set, eK, e, e', DS.up, rwA, rwB, Nat.reduceAdd, Nat.reduceMul, Nat.reduceLeDiff, Int.reduceEq, Int.reduceLT, Int.reduceLE, Int.reduceAdd, Int.reduceSub, Int.reduceMul, ↓reduceIte, Nat.reduceEqDiff, reduceCtorEq, ↓cnd_true, ↓cnd_false]

end Go.Proofs.YtilhjcnkaelheaaGreat.Dk
end

section
/- Disks: read, told, copied, made. -/
set_option maxRecDepth 100000
set_option linter.unusedSimpArgs false
set_option linter.unusedVariables false
set_option maxHeartbeats 2000000
namespace Go.Proofs.YtilhjcnkaelheaaGreat.Dk
open Go Go.Proofs.YtilhjcnkaelheaaGreat.Am DnFns Go.RowKit
open Sd (Sec noughts home homeno ofHome ofNo opened unfit pad)

theorem U77 {s : AVal} (hsc : s = .nils ∨ ∃ a b c d e, s = .slice a b c d e) (H : AHeap) : AC A 77 [s] H = some (.func 90 [] [.ptr H.next 0], H.new (.cells [s] true)) := by
  rw [s_fn (A := A) (f := 77) (x := DnFns.c77) rfl rfl rfl]
  rcases hsc with rfl | ⟨_, _, _, _, _, rfl⟩ <;> simp only [c77, rwA, rwB, Nat.reduceAdd, Nat.reduceMul, Nat.reduceLeDiff, Int.reduceEq, Int.reduceLT, Int.reduceLE, Int.reduceAdd, Int.reduceSub, Int.reduceMul, ↓reduceIte, Nat.reduceEqDiff, reduceCtorEq, ↓cnd_true, ↓cnd_false]

def as18 : ACode := (.region [⟨(some 7), (.new [(.int .i64 0), (.str [])]), none, none⟩, ⟨none, (.store 2 (.tmp 7) (.tmp 28)), none, none⟩])
def bd18 : ACode := (.block 2 (.seq (.region [⟨(some 29), (.fieldA 0 (.tmp 7)), none, none⟩, ⟨(some 30), (.load false 1 (.tmp 29)), none, none⟩, ⟨(some 31), (.load false 1 (.tmp 3)), none, none⟩, ⟨(some 32), (.bin .eql (.tmp 30) (.tmp 31)), none, none⟩]) (.cond (.tmp 32) (.seq (.region [⟨(some 33), (.fieldA 1 (.tmp 7)), none, none⟩, ⟨(some 34), (.load false 1 (.tmp 33)), none, none⟩, ⟨none, (.store 1 (.tmp 4) (.tmp 34)), none, none⟩, ⟨none, (.store 1 (.tmp 5) (.con (.int .i64 0))), none, none⟩]) .ret) .skip)))

theorem yield18 {K H : AHeap} {env : Env} {q : Nat} {ti : Int} {x : Nat × List UInt8} {i : Int} {a b : AVal} (hk : Keeps K H) (hq : q + 2 < K.next) (h3 : env 3 = .ptr q 0) (h4 : env 4 = .ptr (q + 1) 0) (h5 : env 5 = .ptr (q + 2) 0)
    (o3 : K.obj q = some (.cells [.int .i64 ti] true)) (o4 : K.obj (q + 1) = some (.cells [a] true)) (o5 : K.obj (q + 2) = some (.cells [b] true)) :
    ∃ H', (((x.1 : Int) = ti → ayield (AX A as18) (AX A bd18) [27, 28] env none [.int .i64 i, .agg (wc x)] H = some (false, some .ret, H') ∧ H'.obj (q + 1) = some (.cells [.str x.2] true) ∧ H'.obj (q + 2) = some (.cells [.int .i64 0] true)) ∧
      (¬ (x.1 : Int) = ti → ayield (AX A as18) (AX A bd18) [27, 28] env none [.int .i64 i, .agg (wc x)] H = some (true, none, H') ∧ Keeps K H')) := by
  have hn := hk.1
  have o3' : H.obj q = some (.cells [.int .i64 ti] true) := by rw [hk.2 _ (by omega)]; exact o3
  have o4' : H.obj (q + 1) = some (.cells [a] true) := by rw [hk.2 _ (by omega)]; exact o4
  have o5' : H.obj (q + 2) = some (.cells [b] true) := by rw [hk.2 _ (by omega)]; exact o5
  obtain ⟨H1, eH1⟩ : ∃ X, (H.new (.cells [.int .i64 0, .str []] true)).set H.next (.cells [.int .i64 (x.1 : Int), .str x.2] true) = X := ⟨_, rfl⟩
  have oH1 : H1.obj H.next = some (.cells [.int .i64 (x.1 : Int), .str x.2] true) := by rw [← eH1, set_obj, if_pos rfl]
  have kH1 : Keeps H H1 := by rw [← eH1]; exact Keeps.set' (Nat.le_refl _) (Keeps.new' (Keeps.refl _))
  have p3 : H1.obj q = some (.cells [.int .i64 ti] true) := by rw [kH1.2 _ (by omega)]; exact o3'
  have p4 : H1.obj (q + 1) = some (.cells [a] true) := by rw [kH1.2 _ (by omega)]; exact o4'
  have p5 : H1.obj (q + 2) = some (.cells [b] true) := by rw [kH1.2 _ (by omega)]; exact o5'
  have n32 : (q + 2 = q + 1) = False := by simp
  by_cases c : (x.1 : Int) = ti
  · refine ⟨(H1.set (q + 1) (.cells [.str x.2] true)).set (q + 2) (.cells [.int .i64 0] true), fun _ => ⟨?_, by simp [AHeap.set], by simp [AHeap.set]⟩, fun h => absurd c h⟩
    rw [r_yield _ _ _ _ _ _ rfl]
    have c1 : decide ((x.1 : Int) = ti) = true := decide_eq_true c
    simp only [as18, bd18, wc, r_ps, r_ps0, h3, h4, h5, eH1, oH1, p3, p4, p5, n32, c1, if_false, r_round, r_normal, r_ret, rwA, rwB, Nat.reduceAdd, Nat.reduceMul, Nat.reduceLeDiff, Int.reduceEq, Int.reduceLT, Int.reduceLE, Int.reduceAdd, Int.reduceSub, Int.reduceMul, ↓reduceIte, Nat.reduceEqDiff, reduceCtorEq, ↓cnd_true, ↓cnd_false]
  · refine ⟨H1, fun h => absurd h c, fun _ => ⟨?_, hk.trans kH1⟩⟩
    rw [r_yield _ _ _ _ _ _ rfl]
    simp only [as18, bd18, wc, r_ps, r_ps0, h3, h4, h5, eH1, oH1, p3, p4, p5, n32, c, decide_false, if_false, r_round, r_normal, r_ret, rwA, rwB, Nat.reduceAdd, Nat.reduceMul, Nat.reduceLeDiff, Int.reduceEq, Int.reduceLT, Int.reduceLE, Int.reduceAdd, Int.reduceSub, Int.reduceMul, ↓reduceIte, Nat.reduceEqDiff, reduceCtorEq, ↓cnd_true, ↓cnd_false]

theorem U59 {H : AHeap} {p a : Nat} {g : Option Nat} {vw : AVal} {d : DS} (h : DL H p a g vw d) (hw : d.w.length < 1000000) (i : Int) :
    AC A 59 [.ptr p 0, .int .i64 i] H = some (.tuple [.str (d.read i).1, .int .i64 (d.read i).2], H) := by
  refine look_val (x := DnFns.c59) rfl rfl rfl rfl ?_
  have hf := h.frz
  obtain ⟨q, eq⟩ : ∃ q, (frz H).next = q := ⟨_, rfl⟩
  obtain ⟨K, eK⟩ : ∃ K, (((frz H).new (.cells [.int .i64 i] true)).new (.cells [.str []] true)).new (.cells [.int .i64 0] true) = K := ⟨_, rfl⟩
  have kK : Keeps (frz H) K := by rw [← eK]; exact Keeps.new' (Keeps.new' (Keeps.new' (Keeps.refl _)))
  have nK : K.next = q + 3 := by rw [← eK]; simp [new_next, eq]
  have hK := hf.keeps kK
  obtain ⟨o, op⟩ := hK.op
  have o3 : K.obj q = some (.cells [.int .i64 i] true) := by rw [← eK]; simp only [new_obj, new_next, eq]; rw [if_neg (by omega), if_neg (by omega), if_pos trivial]
  have o4 : K.obj (q + 1) = some (.cells [.str []] true) := by rw [← eK]; simp only [new_obj, new_next, eq]; rw [if_neg (by omega), if_pos trivial]
  have o5 : K.obj (q + 2) = some (.cells [.int .i64 0] true) := by rw [← eK]; simp only [new_obj, new_next, eq]; rw [if_pos trivial]
  have n32 : (q + 2 = q + 1) = False := by simp
  have n23 : (q + 1 = q + 2) = False := by simp
  have u45 := U45 hK i
  unfold DS.read
  cases hd : d.dead <;> rw [hd] at op
  · by_cases c : 0 ≤ i ∧ i < (d.s.length : Int)
    · have c1 : (decide (0 ≤ i) && decide (i < (d.s.length : Int))) = true := by simp; omega
      rw [c1] at u45
      rw [if_pos c]
      have u51 := U77 (sl_shape' hK.sw) K
      obtain ⟨K5, eK5⟩ : ∃ K5, K.new (.cells [vw] true) = K5 := ⟨_, rfl⟩
      rw [eK5] at u51
      have kK5 : Keeps K K5 := by rw [← eK5]; exact Keeps.new _ _
      have nK5 : K5.next = q + 4 := by rw [← eK5]; simp [new_next, nK]
      have oc : K5.obj (q + 3) = some (.cells [vw] true) := by rw [← eK5, new_obj, if_pos (by omega)]
      have hK5 := hK.keeps kK5
      obtain ⟨o', op5⟩ := hK5.op
      rw [hd] at op5
      obtain ⟨o'', oa5⟩ := hK5.oa
      have wnK5 := hK5.wn
      have key : ∀ env : Env, env 26 = .func 90 [] [.ptr K.next 0] → env 3 = .ptr q 0 → env 4 = .ptr (q + 1) 0 → env 5 = .ptr (q + 2) 0 → _ := fun env a0 a3 a4 a5 =>
        range_back (A := A) (es := 2) (enc := wc) wc_len (by decide) (l := d.w) (s := vw) (c := K.next) (by omega) (f := .tmp 26) (ps := [27, 28]) (ac := as18) (bd := bd18) (env := env) (H := K5) (g := 90) (fn := DnFns.c90) a0 rfl rfl
          (fun k M => Keeps K5 M ∧ lw d.w i d.w.length = lw d.w i k) (fun st M => st = some .ret ∧ ∃ y, lw d.w i d.w.length = some y ∧ M.obj (q + 1) = some (.cells [.str y] true) ∧ M.obj (q + 2) = some (.cells [.int .i64 0] true))
          (fun k M hM => ⟨⟨true, by rw [hM.1.2 _ (by omega), nK]; exact oc⟩, hK5.sw.keep wnK5 hM.1⟩)
          (fun k hk M hM => by
            obtain ⟨M', hT, hF⟩ := yield18 (x := d.w[k]) (ti := i) (i := (k : Int)) hM.1 (by omega) a3 a4 a5 (by rw [kK5.2 _ (by omega)]; exact o3) (by rw [kK5.2 _ (by omega)]; exact o4) (by rw [kK5.2 _ (by omega)]; exact o5)
            have ek : d.w.getD k (0, []) = d.w[k] := by simp [hk]
            by_cases cx : (d.w[k].1 : Int) = i
            · obtain ⟨hy, r4, r5⟩ := hT cx
              exact ⟨_, _, _, hy, .inr ⟨rfl, rfl, _, by rw [hM.2]; simp only [lw, ek, if_pos cx], r4, r5⟩⟩
            · obtain ⟨hy, kM⟩ := hF cx
              exact ⟨_, _, _, hy, .inl ⟨rfl, rfl, kM, by rw [hM.2]; simp only [lw, ek, if_neg cx]⟩⟩)
          ⟨⟨by simp [AHeap.skip], fun _ _ => rfl⟩, rfl⟩
      have ha : aidx d.s.length (.int .i64 i) = some i.toNat := by simp [aidx]; omega
      have hs : (d.s.map AVal.str)[i.toNat]? = some (.str (d.s.getD i.toNat [])) := by
        rw [List.getElem?_map, List.getElem?_eq_getElem (by omega)]; simp [show i.toNat < d.s.length by omega]
      rcases sl_shape' hf.sw with rfl | ⟨_, _, _, _, _, rfl⟩
      all_goals
        simp only [c59, e_nilp0, eq, eK, nK, op, o3, u45, u51, Bool.not_false, Bool.not_true, rwA, rwB, Nat.reduceAdd, Nat.reduceMul, Nat.reduceLeDiff, Int.reduceEq, Int.reduceLT, Int.reduceLE, Int.reduceAdd, Int.reduceSub, Int.reduceMul, ↓reduceIte, Nat.reduceEqDiff, reduceCtorEq, ↓cnd_true, ↓cnd_false]
        repeat (first | refine outs_seq ?_ | refine outs_block ?_ | refine outs_step ?_ | refine outs_stepD ?_ | refine rets_end ?_ | refine ans_end ?_)
        refine outs_gen (fun env => env 0 = .ptr p 0 ∧ env 26 = .func 90 [] [.ptr K.next 0] ∧ env 3 = .ptr q 0 ∧ env 4 = .ptr (q + 1) 0 ∧ env 5 = .ptr (q + 2) 0) ⟨by simp [Env.set, ainit], by simp [Env.set, nK], by simp [Env.set], by simp [Env.set], by simp [Env.set]⟩ ?_
        rintro env ⟨a0, a1, a2, a3, a4⟩
        refine (key env a1 a2 a3 a4).mono ?_
        rintro e env' M ⟨rfl, (⟨rfl, kM, hE⟩ | ⟨st, rfl, rfl, y, hE, p4, p5⟩)⟩
        · rw [hE]
          have q3 : M.obj q = some (.cells [.int .i64 i] true) := by rw [kM.2 _ (by omega), kK5.2 _ (by omega)]; exact o3
          have q4 : M.obj (q + 1) = some (.cells [.str []] true) := by rw [kM.2 _ (by omega), kK5.2 _ (by omega)]; exact o4
          have q5 : M.obj (q + 2) = some (.cells [.int .i64 0] true) := by rw [kM.2 _ (by omega), kK5.2 _ (by omega)]; exact o5
          have opM := (kM.2 _ hK5.pn).trans op5
          have oaM := (kM.2 _ hK5.an).trans oa5
          simp only [outs_some, a0, a2, a3, a4, q3, q4, q5, opM, oaM, ha, hs, n32, n23, lw, Option.getD, Bool.false_eq_true, Option.getD_none, if_false, rwA, rwB, Nat.reduceAdd, Nat.reduceMul, Nat.reduceLeDiff, Int.reduceEq, Int.reduceLT, Int.reduceLE, Int.reduceAdd, Int.reduceSub, Int.reduceMul, ↓reduceIte, Nat.reduceEqDiff, reduceCtorEq, ↓cnd_true, ↓cnd_false]
        · rw [hE]
          simp only [outs_some, a2, a3, a4, p4, p5, n32, n23, if_false, Option.getD_some, Bool.false_eq_true, rwA, rwB, Nat.reduceAdd, Nat.reduceMul, Nat.reduceLeDiff, Int.reduceEq, Int.reduceLT, Int.reduceLE, Int.reduceAdd, Int.reduceSub, Int.reduceMul, ↓reduceIte, Nat.reduceEqDiff, reduceCtorEq, ↓cnd_true, ↓cnd_false]
    · have c1 : (decide (0 ≤ i) && decide (i < (d.s.length : Int))) = false := by simp; omega
      rw [c1] at u45
      rw [if_neg c]
      rcases sl_shape' hf.sw with rfl | ⟨_, _, _, _, _, rfl⟩ <;> simp only [c59, e_nilp0, eq, eK, op, o3, o4, o5, u45, n32, n23, if_false, Bool.not_false, Bool.not_true, Bool.false_eq_true, rwA, rwB, Nat.reduceAdd, Nat.reduceMul, Nat.reduceLeDiff, Int.reduceEq, Int.reduceLT, Int.reduceLE, Int.reduceAdd, Int.reduceSub, Int.reduceMul, ↓reduceIte, Nat.reduceEqDiff, reduceCtorEq, ↓cnd_true, ↓cnd_false]
  · rcases sl_shape' hf.sw with rfl | ⟨_, _, _, _, _, rfl⟩ <;> simp only [c59, e_nilp0, eq, eK, op, o3, o4, o5, n32, n23, if_false, Bool.not_false, Bool.not_true, rwA, rwB, Nat.reduceAdd, Nat.reduceMul, Nat.reduceLeDiff, Int.reduceEq, Int.reduceLT, Int.reduceLE, Int.reduceAdd, Int.reduceSub, Int.reduceMul, ↓reduceIte, Nat.reduceEqDiff, reduceCtorEq, ↓cnd_true, ↓cnd_false]

end Go.Proofs.YtilhjcnkaelheaaGreat.Dk
end

section
/- Disks: told whole, copied, made. -/
set_option maxRecDepth 100000
set_option linter.unusedSimpArgs false
set_option linter.unusedVariables false
set_option maxHeartbeats 2000000
namespace Go.Proofs.YtilhjcnkaelheaaGreat.Dk
open Go Go.Proofs.YtilhjcnkaelheaaGreat.Am DnFns Go.RowKit
open Sd (Sec noughts home homeno ofHome ofNo opened unfit pad)

theorem oldl_str (n : Nat) (l : List (List UInt8)) : oldl n (l.map AVal.str) = true := by
  induction l with
  | nil => rfl
  | cons a l ih => simp [oldl, AVal.old, ih]
theorem U46 {H : AHeap} {s : AVal} {l : List (List UInt8)} (h : Sl H 1 s (l.map .str)) (hid : ∀ i, i ∈ s.ids → i < H.next) (h0 : l ≠ []) (hl : l.length < 1000000) :
    AC A 46 [s] H = some (.slice H.next 0 l.length l.length (some 1), H.new (.cells (l.map .str) true)) := by
  refine look_new (x := DnFns.c46) rfl rfl rfl ?_
  have hf := h.frz
  have hn : (frz H).next = H.next := rfl
  have hs := slen1 hf
  have hpos : 0 < l.length := List.length_pos_iff.2 h0
  have hne : (frz H).next ∉ s.ids := fun hx => by have := hid _ hx; omega
  have ap := app_all (by' := 16) (id := H.next) (by decide) ((Sl_new (o := .cells [] true) hne).2 hf) (by rw [hs]; exact hpos) (by rw [hs]; omega)
  rw [hs] at ap
  rcases sl_shape' h with rfl | ⟨_, _, _, _, _, rfl⟩
  · exact absurd hs (by simp [slen]; omega)
  · simp only [c46, hn, ap, e_nils0, rwA, rwB, Nat.reduceAdd, Nat.reduceMul, Nat.reduceLeDiff, Int.reduceEq, Int.reduceLT, Int.reduceLE, Int.reduceAdd, Int.reduceSub, Int.reduceMul, ↓reduceIte, Nat.reduceEqDiff, reduceCtorEq, ↓cnd_true, ↓cnd_false]
    rw [rets_some]
    exact one_slice (Nat.le_succ _) (by rw [new_obj, if_pos (by rw [new_next, hn])]) (oldl_str _ _)

theorem safe_sl {H : AHeap} {a : Nat} {o : Bool} {g : Option Nat} {l : List (List UInt8)} (h : H.obj a = some (.cells (l.map .str) o)) : Sl H 1 (.slice a 0 l.length l.length g) (l.map .str) :=
  .inr ⟨a, 0, l.length, l.length, g, rfl, by simp, .inr ⟨_, o, h, by simp, by rw [List.drop_zero, List.take_of_length_le (by simp)]⟩⟩

theorem U25 {H : AHeap} {p a : Nat} {g : Option Nat} {vw : AVal} {d : DS} (h : DL H p a g vw d) (n1 : 1 ≤ d.s.length) (n2 : d.s.length ≤ 4865) :
    AC A 25 [.ptr p 0] H = some (.slice H.next 0 d.s.length d.s.length (some 1), H.new (.cells (d.s.map .str) true)) := by
  refine look_new (x := DnFns.c25) rfl rfl rfl ?_
  have hf := h.frz
  have hn : (frz H).next = H.next := rfl
  obtain ⟨o, op⟩ := hf.op
  obtain ⟨o', oa⟩ := hf.oa
  have u := U46 (safe_sl (g := g) oa) (by simp [AVal.ids]; exact hf.an) (by intro e; rw [e] at n1; simp at n1) (by omega)
  simp only [c25, op, u, e_nilp0, rwA, rwB, Nat.reduceAdd, Nat.reduceMul, Nat.reduceLeDiff, Int.reduceEq, Int.reduceLT, Int.reduceLE, Int.reduceAdd, Int.reduceSub, Int.reduceMul, ↓reduceIte, Nat.reduceEqDiff, reduceCtorEq, ↓cnd_true, ↓cnd_false]
  rw [rets_some]
  exact one_slice (by rw [hn]; omega) (by rw [new_obj, if_pos rfl]) (oldl_str _ _)

/-! ### A new one -/
theorem and32 (n : Nat) (h : n < 4294967296) : abin .and (.int .u64 (n : Int)) (.int .u64 4294967295) = some (.int .u64 (n : Int)) := by
  show aint .and .u64 (n : Int) 4294967295 = _
  have e : (BitVec.ofInt IntKind.u64.bits (n : Int) &&& BitVec.ofInt IntKind.u64.bits 4294967295).toNat = n := by
    show (BitVec.ofInt 64 (n : Int) &&& BitVec.ofInt 64 4294967295).toNat = n
    rw [BitVec.toNat_and, BitVec.ofInt_natCast, BitVec.toNat_ofNat]
    have : (BitVec.ofInt 64 4294967295).toNat = 2 ^ 32 - 1 := by decide
    rw [this, Nat.mod_eq_of_lt (by omega), Nat.and_two_pow_sub_one_eq_mod, Nat.mod_eq_of_lt (by omega)]
  show some (AVal.int .u64 (IntKind.u64.wrap _)) = _
  rw [e, Sd.wrap_u64 n (by omega)]
theorem shr32 (n : Nat) (h : n < 4294967296) : abin .shr (.int .u64 (n : Int)) (.int .u64 32) = some (.int .u64 0) := by
  show ashift .shr .u64 (n : Int) 32 = _
  have : (min (32 : Int).toNat IntKind.u64.bits) = 32 := rfl
  simp only [ashift]
  rw [if_neg (by decide), this]
  congr 2
  rw [Int.fdiv_eq_ediv_of_nonneg _ (by decide)]
  omega

theorem U63 (n : Nat) (hn : n < 4294967296) (H : AHeap) : AC A 63 [.int .u64 1, .int .u64 (n : Int)] H = some (.tuple [.int .u64 0, .int .u64 (n : Int)], H) := by
  refine one_val (x := DnFns.c63) rfl rfl rfl rfl rfl ?_ H
  have a1 := and32 1 (by decide)
  have s1 := shr32 1 (by decide)
  have a0 := and32 0 (by decide)
  have s0 := shr32 0 (by decide)
  have e1 : ((1 : Nat) : Int) = 1 := rfl
  have e0 : ((0 : Nat) : Int) = 0 := rfl
  rw [e1] at a1 s1
  rw [e0] at a0 s0
  have w : IntKind.u64.wrap (n : Int) = (n : Int) := Sd.wrap_u64 n (by omega)
  have w0 : IntKind.u64.wrap 0 = 0 := rfl
  simp only [c63, a1, s1, a0, s0, and32 n hn, shr32 n hn, w, w0, Int.one_mul, Int.zero_mul, Int.mul_zero, Int.mul_one, Int.add_zero, Int.zero_add, rwA, rwB, Nat.reduceAdd, Nat.reduceMul, Nat.reduceLeDiff, Int.reduceEq, Int.reduceLT, Int.reduceLE, Int.reduceAdd, Int.reduceSub, Int.reduceMul, ↓reduceIte, Nat.reduceEqDiff, reduceCtorEq, ↓cnd_true, ↓cnd_false]
theorem U53 (n : Nat) (hn : n < 4294967296) (H : AHeap) : AC A 53 [.int .u64 1, .int .u64 (n : Int)] H = some (.tuple [.int .u64 0, .int .u64 (n : Int)], H) := by
  refine one_val (x := DnFns.c53) rfl rfl rfl rfl rfl ?_ H
  simp only [c53, U63 n hn, rwA, rwB, Nat.reduceAdd, Nat.reduceMul, Nat.reduceLeDiff, Int.reduceEq, Int.reduceLT, Int.reduceLE, Int.reduceAdd, Int.reduceSub, Int.reduceMul, ↓reduceIte, Nat.reduceEqDiff, reduceCtorEq, ↓cnd_true, ↓cnd_false]

def upx (N : Nat) (x : List UInt8) (m : Nat) : List AVal := List.replicate m (.str x) ++ List.replicate (N - m) (.str [])
theorem upx_len {N : Nat} {x : List UInt8} {m : Nat} (h : m ≤ N) : (upx N x m).length = N := by simp [upx]; omega
theorem upx_set {N : Nat} {x : List UInt8} {m : Nat} (h : m < N) : (upx N x m).set m (.str x) = upx N x (m + 1) := by
  unfold upx
  rw [List.set_append_right _ _ (by simp), show N - m = (N - (m + 1)) + 1 by omega]
  simp only [List.length_replicate, Nat.sub_self, List.replicate_succ (n := N - (m + 1)), List.set_cons_zero]
  rw [List.replicate_succ']
  simp
theorem lput_upx {N : Nat} {x : List UInt8} : ∀ (k m : Nat), m + k ≤ N → lput (upx N x m) m (List.replicate k (.str x)) = upx N x (m + k)
  | 0, m, h => by simp [lput]
  | k + 1, m, h => by
    rw [List.replicate_succ]
    simp only [lput]
    rw [upx_set (by omega), lput_upx k (m + 1) (by omega)]
    congr 1; omega
theorem upx_take {N : Nat} {x : List UInt8} {m k : Nat} (h : k ≤ m) : ((upx N x m).drop 0).take k = List.replicate k (.str x) := by
  unfold upx
  rw [List.drop_zero, List.take_append_of_le_length (by simp; omega), List.take_replicate, Nat.min_eq_left h]

def b31 : ACode := (.seq (.seq (.region [⟨(some 34), (.mv (.tmp 8)), none, none⟩, ⟨(some 35), (.mv (.tmp 7)), none, none⟩, ⟨(some 36), (.len false (.tmp 35)), none, none⟩, ⟨(some 37), (.bin .lss (.tmp 34) (.tmp 36)), none, none⟩]) (.cond (.tmp 37) .skip (.exit 0))) (.block 1 (.draw [⟨(some 38), (.mv (.tmp 8)), none, none⟩, ⟨(some 39), (.mv (.tmp 7)), none, none⟩, ⟨(some 40), (.mv (.tmp 8)), none, none⟩, ⟨(some 41), (.slc 1 (.tmp 39) (some (.tmp 40)) none none), none, none⟩, ⟨(some 42), (.mv (.tmp 7)), none, none⟩, ⟨(some 43), (.mv (.tmp 8)), none, none⟩, ⟨(some 44), (.slc 1 (.tmp 42) none (some (.tmp 43)) none), none, none⟩, ⟨(some 45), (.copy 1 (.tmp 41) (.tmp 44)), none, none⟩, ⟨(some 46), (.bin .add (.tmp 38) (.tmp 45)), none, none⟩, ⟨(some 8), (.mv (.tmp 46)), none, none⟩])))
theorem loop31 {K : AHeap} {b N : Nat} {x : List UInt8} (hN : N < 1000000) {env : Env} (h7 : env 7 = .slice b 0 N N none) (h8 : env 8 = .int .i64 1) (hb : K.obj b = some (.cells (upx N x 1) true)) (h1 : 1 ≤ N) :
    Outs (AX A (.loop b31) env K) fun e env' K' => e = .exit 0 ∧ env' 7 = .slice b 0 N N none ∧ K'.obj b = some (.cells (upx N x N) true) := by
  refine loop_ends (I := fun (m : Nat) env' K' => 1 ≤ m ∧ m ≤ N ∧ env' 7 = .slice b 0 N N none ∧ env' 8 = .int .i64 (m : Int) ∧ K'.obj b = some (.cells (upx N x m) true)) (fun m => N - m) ?_ 1 env K ⟨Nat.le_refl _, h1, h7, h8, hb⟩
  rintro m env K ⟨h1, hm, h7, h8, hb⟩
  by_cases c : m < N
  · have c1 : decide ((m : Int) < (N : Int)) = true := by simp; omega
    have sl1 : aslc 1 (.slice b 0 N N none) (some (.int .i64 (m : Int))) none none = some (.slice b m (N - m) (N - m) none) := by
      simp only [aslc, abounds, abound, Option.isSome_none, Bool.false_eq_true, if_false, Option.bind_some]
      rw [if_pos ⟨by omega, by omega⟩]
      simp only [Option.bind_some, false_and, if_false]
      rw [if_neg (by omega)]
      simp
    have sl2 : aslc 1 (.slice b 0 N N none) none (some (.int .i64 (m : Int))) none = some (.slice b 0 m N none) := by
      simp only [aslc, abounds, abound, Option.isSome_none, Bool.false_eq_true, if_false, Option.bind_some]
      rw [if_pos ⟨by omega, by omega⟩]
      simp
    obtain ⟨k, ek⟩ : ∃ k, Nat.min m (N - m) = k := ⟨_, rfl⟩
    have ek' : min m (N - m) = k := ek
    have hk : k ≤ m ∧ k ≤ N - m ∧ 0 < k := by omega
    have cp : acopy K 1 (.slice b m (N - m) (N - m) none) (.slice b 0 m N none) = some (.int .i64 (k : Int), K.set b (.cells (upx N x (m + k)) true)) := by
      have hl := upx_len (x := x) hm
      have ac : acells K 1 k (.slice b 0 m N none) = some (List.replicate k (.str x)) := by
        simp only [acells]
        rw [if_neg (by omega), hb]
        simp only
        rw [if_pos ⟨by omega, by omega⟩, Nat.mul_one, upx_take hk.1]
      simp only [acopy, alen, Option.bind_some, ek, ac, hb]
      rw [if_neg (by omega), if_pos (by omega), lput_upx k m (by omega)]
    have w1 : IntKind.i64.wrap ((m : Int) + (k : Int)) = ((m + k : Nat) : Int) := by rw [wrap_i64]; omega
    simp only [b31, h7, h8, c1, sl1, sl2, cp, w1, rwA, rwB, Nat.reduceAdd, Nat.reduceMul, Nat.reduceLeDiff, Int.reduceEq, Int.reduceLT, Int.reduceLE, Int.reduceAdd, Int.reduceSub, Int.reduceMul, ↓reduceIte, Nat.reduceEqDiff, reduceCtorEq, ↓cnd_true, ↓cnd_false]
    rw [outs_some]
    exact .inl ⟨rfl, m + k, by omega, by omega, by omega, by simp [Env.set, h7], by simp [Env.set], by rw [set_obj, if_pos rfl]⟩
  · have e : m = N := by omega
    subst e
    have c1 : decide ((m : Int) < (m : Int)) = false := by simp
    simp only [b31, h7, h8, c1, rwA, rwB, Nat.reduceAdd, Nat.reduceMul, Nat.reduceLeDiff, Int.reduceEq, Int.reduceLT, Int.reduceLE, Int.reduceAdd, Int.reduceSub, Int.reduceMul, ↓reduceIte, Nat.reduceEqDiff, reduceCtorEq, ↓cnd_true, ↓cnd_false]
    rw [outs_some]
    exact .inr ⟨by simp, rfl, by simp [Env.set, h7], hb⟩

theorem upx_all (N : Nat) (x : List UInt8) : upx N x N = (List.replicate N x).map .str := by simp [upx]
theorem arep_str (n : Nat) : arep [AVal.str []] n = List.replicate n (.str []) := by
  induction n with
  | zero => rfl
  | succ n ih => rw [arep, ih, List.replicate_succ]; rfl

theorem U31 {H : AHeap} {b : Nat} {x : List UInt8} {N : Nat} (hb : H.obj b = some (.cells [.str x] true)) (hbn : b < H.next) (h1 : 1 ≤ N) (hN : N < 1000000) :
    AC A 31 [.slice b 0 1 1 none, .int .i64 (N : Int)] H = some (.slice H.next 0 N N none, H.new (.cells ((List.replicate N x).map .str) true)) := by
  refine look_new (x := DnFns.c31) rfl rfl rfl ?_
  have ho := frz_obj hb
  have hn : (frz H).next = H.next := rfl
  have c1 : decide ((N : Int) < 0) = false := by simp
  have w1 : IntKind.u64.wrap (N : Int) = (N : Int) := Sd.wrap_u64 N (by omega)
  have w2 : IntKind.i64.wrap (N : Int) = (N : Int) := by rw [wrap_i64]; omega
  have w3 : IntKind.u64.wrap ((1 : Nat) : Int) = 1 := rfl
  have c2 : decide ((9223372036854775807 : Int) < (N : Int)) = false := by simp; omega
  have mk : amkS (frz H) 1 16 [.str []] (.int .i64 (N : Int)) (.int .i64 (N : Int)) = some (.slice (frz H).next 0 N N none, (frz H).new (.cells (List.replicate N (.str [])) true)) := by
    simp only [amkS]
    rw [if_pos ⟨by omega, by omega, by omega, by omega, rfl⟩, Int.toNat_natCast, arep_str]
  have cp : acopy ((frz H).new (.cells (List.replicate N (.str [])) true)) 1 (.slice (frz H).next 0 N N none) (.slice b 0 1 1 none) = some (.int .i64 1, ((frz H).new (.cells (List.replicate N (.str [])) true)).set (frz H).next (.cells (upx N x 1) true)) := by
    have hm : Nat.min 1 N = 1 := by show min 1 N = 1; omega
    have ac : acells ((frz H).new (.cells (List.replicate N (.str [])) true)) 1 1 (.slice b 0 1 1 none) = some [.str x] := by
      simp only [acells]
      rw [if_neg (by omega), new_obj, if_neg (by rw [hn]; omega), ho]
      simp
    have hx : lput (List.replicate N (AVal.str [])) 0 [.str x] = upx N x 1 := by
      have := lput_upx (N := N) (x := x) 1 0 (by omega)
      simpa [upx] using this
    simp only [acopy, alen, Option.bind_some, hm, ac]
    rw [if_neg (by omega), new_obj, if_pos rfl]
    simp only
    rw [if_pos (by simp; omega), hx]
    rfl
  obtain ⟨K, eK⟩ : ∃ K, ((frz H).new (.cells (List.replicate N (.str [])) true)).set (frz H).next (.cells (upx N x 1) true) = K := ⟨_, rfl⟩
  have oK : K.obj H.next = some (.cells (upx N x 1) true) := by rw [← eK, set_obj, if_pos hn.symm]
  rw [eK, hn] at cp
  rw [hn] at mk
  have c0 : decide ((0 : Int) < 0) = false := by decide
  simp only [c31, c1, w1, w2, w3, c2, c0, U53 N (by omega), mk, cp, rwA, rwB, Nat.reduceAdd, Nat.reduceMul, Nat.reduceLeDiff, Int.reduceEq, Int.reduceLT, Int.reduceLE, Int.reduceAdd, Int.reduceSub, Int.reduceMul, ↓reduceIte, Nat.reduceEqDiff, reduceCtorEq, ↓cnd_true, ↓cnd_false]
  repeat (first | refine outs_seq ?_ | refine outs_block ?_ | refine outs_step ?_ | refine outs_stepD ?_ | refine rets_end ?_ | refine ans_end ?_)
  refine (loop31 (b := H.next) (N := N) (x := x) hN ?_ ?_ oK h1).mono ?_
  · simp [Env.set]
  · simp [Env.set]
  rintro e env K' ⟨rfl, h7, ho'⟩
  simp only [outs_some, h7, rwA, rwB, Nat.reduceAdd, Nat.reduceMul, Nat.reduceLeDiff, Int.reduceEq, Int.reduceLT, Int.reduceLE, Int.reduceAdd, Int.reduceSub, Int.reduceMul, ↓reduceIte, Nat.reduceEqDiff, reduceCtorEq, ↓cnd_true, ↓cnd_false]
  rw [rets_some]
  rw [upx_all] at ho'
  exact one_slice (Nat.le_refl _) ho' (oldl_str _ _)

theorem U5x {n : Int} (h : ¬ (1 ≤ n ∧ n ≤ 4865)) (H : AHeap) : AC A 5 [.int .i64 n] H = some (.tuple [.nilp, .int .i64 18], H) := by
  rw [s_fn (A := A) (f := 5) (x := DnFns.c5) rfl rfl rfl]
  cases c : decide (n < 1)
  · have c2 : decide (4865 < n) = true := by simp at c; simp; omega
    simp only [c5, c, c2, rwA, rwB, Nat.reduceAdd, Nat.reduceMul, Nat.reduceLeDiff, Int.reduceEq, Int.reduceLT, Int.reduceLE, Int.reduceAdd, Int.reduceSub, Int.reduceMul, ↓reduceIte, Nat.reduceEqDiff, reduceCtorEq, ↓cnd_true, ↓cnd_false]
  · simp only [c5, c, rwA, rwB, Nat.reduceAdd, Nat.reduceMul, Nat.reduceLeDiff, Int.reduceEq, Int.reduceLT, Int.reduceLE, Int.reduceAdd, Int.reduceSub, Int.reduceMul, ↓reduceIte, Nat.reduceEqDiff, reduceCtorEq, ↓cnd_true, ↓cnd_false]
def fresh (n : Nat) : DS := ⟨List.replicate n (noughts 512), [], 0, false, 0⟩
theorem U5 {n : Nat} (h1 : 1 ≤ n) (h2 : n ≤ 4865) (H : AHeap) : ∃ H', AC A 5 [.int .i64 (n : Int)] H = some (.tuple [.ptr (H.next + 2) 0, .int .i64 0], H') ∧ D H' (H.next + 2) (H.next + 1) none .nils (fresh n) ∧ Keeps H H' := by
  have c : decide ((n : Int) < 1) = false := by simp; omega
  have c2 : decide (4865 < (n : Int)) = false := by simp; omega
  have u := U31 (H := H.new (.cells [.str (noughts 512)] true)) (b := H.next) (x := noughts 512) (N := n) (by rw [new_obj, if_pos rfl]) (by rw [new_next]; omega) h1 (by omega)
  rw [new_next] at u
  refine ⟨((H.new (.cells [.str (noughts 512)] true)).new (.cells ((List.replicate n (noughts 512)).map .str) true)).new (.cells (dcells (H.next + 1) none .nils (fresh n)) true), ?_, ?_, Keeps.new' (Keeps.new' (Keeps.new' (Keeps.refl _)))⟩
  · have e : (fresh n).s.length = n := by simp [fresh]
    rw [s_fn (A := A) (f := 5) (x := DnFns.c5) rfl rfl rfl]
    simp only [c5, c, c2, U32, u, dcells, e, rwA, rwB, Nat.reduceAdd, Nat.reduceMul, Nat.reduceLeDiff, Int.reduceEq, Int.reduceLT, Int.reduceLE, Int.reduceAdd, Int.reduceSub, Int.reduceMul, ↓reduceIte, Nat.reduceEqDiff, reduceCtorEq, ↓cnd_true, ↓cnd_false]
    rfl
  · exact { op := by rw [new_obj, if_pos (by simp [new_next])]; rfl, oa := by rw [new_obj, if_neg (by simp [new_next]), new_obj, if_pos (by simp [new_next])]; rfl, ow := Ow.nil _ _, pa := by omega, pw := by simp [AVal.ids], aw := by simp [AVal.ids], pn := by simp [new_next], an := by simp [new_next], gs := .inl rfl, n1 := by simp [fresh]; omega, n2 := by simp [fresh]; omega, hat := by intro x hx; simp [fresh] at hx, a0 := Int.le_refl _, a1 := by show (0 : Int) ≤ _; decide }

end Go.Proofs.YtilhjcnkaelheaaGreat.Dk
end

section
/- Sectors: what is sealed is opened; homes. -/
set_option maxRecDepth 100000
set_option linter.unusedSimpArgs false
set_option linter.unusedVariables false
set_option maxHeartbeats 4000000
namespace Go.Proofs.YtilhjcnkaelheaaGreat.Sd
open Go Go.Proofs.YtilhjcnkaelheaaGreat.Am Go.RowKit

theorem seal_ok {s : Sec} (h : s.ok = true) : s.sealb = s.bytes ∧ s.no = 0 := by unfold Sec.sealb Sec.no; rw [h]; exact ⟨rfl, rfl⟩
end Go.Proofs.YtilhjcnkaelheaaGreat.Sd
end

section
/- Journals: images; what may be a transaction's; a journal in memory. -/
set_option maxRecDepth 100000
set_option linter.unusedSimpArgs false
set_option linter.unusedVariables false
set_option maxHeartbeats 4000000
namespace Go.Proofs.YtilhjcnkaelheaaGreat.Dk
open Go Go.Proofs.YtilhjcnkaelheaaGreat.Am DnFns Go.RowKit
open Sd (Sec noughts home homeno ofHome ofNo opened unfit pad)


structure Im where
  page : Int
  text : List UInt8
def ic (x : Im) : List AVal := [.int .i64 x.page, .str x.text]
theorem ic_len (x : Im) : (ic x).length = 2 := rfl
def pgok (n : Int) : Bool := decide (0 ≤ n) && decide (n < 3840)
theorem U52 (n : Int) (H : AHeap) : AC A 52 [.int .i64 n] H = some (.bool (pgok n), H) := by
  refine one_val (x := DnFns.c52) rfl rfl rfl rfl rfl ?_ H
  unfold pgok
  cases c : decide (0 ≤ n) <;> simp only [c52, c, Bool.true_and, Bool.false_and, rwA, rwB, Nat.reduceAdd, Nat.reduceMul, Nat.reduceLeDiff, Int.reduceEq, Int.reduceLT, Int.reduceLE, Int.reduceAdd, Int.reduceSub, Int.reduceMul, ↓reduceIte, Nat.reduceEqDiff, reduceCtorEq, ↓cnd_true, ↓cnd_false]

def okI (x : Im) : Bool := pgok x.page && decide (x.text.length = 480)
def chkN (l : List Im) : Nat → Bool
  | 0 => true
  | j + 1 => chkN l j && (match l[j]? with | some x => okI x && !((l.take j).any fun y => decide (y.page = x.page)) | none => true)
def chk (l : List Im) : Bool := !(decide (l = [])) && chkN l l.length
theorem chkN_mono (l : List Im) {j k : Nat} (h : j ≤ k) (hf : chkN l j = false) : chkN l k = false := by
  induction k with
  | zero =>
    have : j = 0 := by omega
    subst this; exact hf
  | succ k ih =>
    by_cases c : j = k + 1
    · subst c; exact hf
    · rw [chkN, ih (by omega)]; rfl

def metM (l : List Im) : List (AVal × AVal) := l.map fun x => (.int .i64 x.page, .bool true)
theorem alook_met (p : Int) : ∀ l : List Im, alook (.int .i64) (.int .i64 p) (metM l) = some (if l.any fun y => decide (y.page = p) then some (.bool true) else none)
  | [] => rfl
  | x :: l => by
    show alook (.int .i64) (.int .i64 p) ((.int .i64 x.page, .bool true) :: metM l) = _
    have ih := alook_met p l
    simp only [alook, keyEq, and_self, if_true]
    by_cases c : p = x.page
    · subst c
      simp
    · have c2 : (p == x.page) = false := by simp [c]
      have c3 : decide (x.page = p) = false := by simp; exact Ne.symm c
      simp only [c2, List.any_cons, c3, Bool.false_or]
      exact ih
theorem aput_met (p : Int) : ∀ l : List Im, (l.any fun y => decide (y.page = p)) = false → aput (.int .i64) (.int .i64 p) (.bool true) (metM l) = some (metM l ++ [(.int .i64 p, .bool true)])
  | [], _ => rfl
  | x :: l, h => by
    simp only [List.any_cons, Bool.or_eq_false_iff] at h
    have ih := aput_met p l h.2
    show aput (.int .i64) (.int .i64 p) (.bool true) ((.int .i64 x.page, .bool true) :: metM l) = _
    have c2 : (p == x.page) = false := by
      have := h.1
      simp at this
      simp; exact Ne.symm this
    simp only [aput, keyEq, and_self, if_true, c2, ih, Option.map_some]
    rfl

def b30 : ACode := (.seq (.region [⟨(some 10), (.bin .lss (.tmp 9) (.tmp 8)), none, none⟩]) (.seq (.cond (.tmp 10) .skip (.exit 0)) (.seq (.block 1 (.seq (.region [⟨(some 11), (.idxASl 2 (.tmp 7) (.tmp 9)), none, none⟩, ⟨(some 12), (.load true 2 (.tmp 11)), none, none⟩, ⟨(some 5), (.new [(.int .i64 0), (.str [])]), none, none⟩, ⟨none, (.store 2 (.tmp 5) (.tmp 12)), none, none⟩]) (.seq (.seq (.region [⟨(some 13), (.fieldA 0 (.tmp 5)), none, none⟩, ⟨(some 14), (.load false 1 (.tmp 13)), none, none⟩, ⟨(some 15), (.call (.con (.func 52 [] [])) [(.tmp 14)]), none, none⟩, ⟨(some 16), (.un .not (.tmp 15)), none, none⟩, ⟨(some 17), (.mv (.tmp 16)), none, none⟩, ⟨(some 18), (.fieldA 1 (.tmp 5)), (some (17, false)), none⟩, ⟨(some 19), (.load false 1 (.tmp 18)), (some (17, false)), none⟩, ⟨(some 20), (.len true (.tmp 19)), (some (17, false)), none⟩, ⟨(some 21), (.bin .neq (.tmp 20) (.con (.int .i64 480))), (some (17, false)), none⟩, ⟨(some 22), (.pick (.tmp 17) (.con (.bool true)) (.tmp 21)), none, none⟩, ⟨(some 23), (.mv (.tmp 22)), none, none⟩, ⟨(some 24), (.mv (.tmp 3)), (some (23, false)), none⟩, ⟨(some 25), (.fieldA 0 (.tmp 5)), (some (23, false)), none⟩, ⟨(some 26), (.load false 1 (.tmp 25)), (some (23, false)), none⟩, ⟨(some 27), (.mapGet false (.int .i64) (.bool false) (.tmp 24) (.tmp 26)), (some (23, false)), none⟩, ⟨(some 28), (.pick (.tmp 23) (.con (.bool true)) (.tmp 27)), none, none⟩]) (.cond (.tmp 28) (.seq (.region [⟨(some 2), (.mv (.con (.int .i64 18))), none, none⟩]) .ret) .skip)) (.region [⟨(some 29), (.mv (.tmp 3)), none, none⟩, ⟨(some 30), (.fieldA 0 (.tmp 5)), none, none⟩, ⟨(some 31), (.load false 1 (.tmp 30)), none, none⟩, ⟨none, (.mapSet (.int .i64) (.tmp 29) (.tmp 31) (.con (.bool true))), none, none⟩])))) (.region [⟨(some 32), (.bin .add (.tmp 9) (.con (.int .i64 1))), none, none⟩, ⟨(some 9), (.mv (.tmp 32)), none, none⟩]))))
theorem loop30 {H : AHeap} {lv : AVal} {l : List Im} (hl : Sl H 2 lv (l.flatMap ic)) (hid : ∀ i, i ∈ lv.ids → i < H.next) (hn : l.length ≤ 8796093022208) {M : Nat} (hM : H.obj M = some (.map [])) (hMn : M < H.next) (hMl : M ∉ lv.ids) {env : Env}
    (h3 : env 3 = .map M) (h7 : env 7 = lv) (h8 : env 8 = .int .i64 (l.length : Int)) (h9 : env 9 = .int .i64 0) :
    Outs (AX A (.loop b30) env H) fun e env' K => (e = .exit 0 ∧ env' 0 = env 0 ∧ chkN l l.length = true ∧ (∀ i, i ∈ lv.ids → K.obj i = H.obj i)) ∨ (e = .ret ∧ env' 2 = .int .i64 18 ∧ chkN l l.length = false) := by
  refine loop_ends (I := fun (j : Nat) env' K => j ≤ l.length ∧ env' 0 = env 0 ∧ env' 3 = .map M ∧ env' 7 = lv ∧ env' 8 = .int .i64 (l.length : Int) ∧ env' 9 = .int .i64 (j : Int) ∧ chkN l j = true ∧ Fr [M] H K ∧ K.obj M = some (.map (metM (l.take j)))) (fun j => l.length - j) ?_ 0 env H
    ⟨Nat.zero_le _, rfl, h3, h7, h8, h9, rfl, Fr.refl _ _, hM⟩
  rintro j env1 K ⟨hj, h0, h3, h7, h8, h9, hc, hF, hM⟩
  by_cases c : j < l.length
  · have c1 : decide ((j : Int) < (l.length : Int)) = true := by simp; omega
    have w1 : IntKind.i64.wrap ((j : Int) + 1) = ((j + 1 : Nat) : Int) := by rw [wrap_i64]; omega
    obtain ⟨id, off, cp, g, k, own, rfl, ho, hk, hall, _⟩ := (hl.fr hF (fun i hi => ⟨hid i hi, by simp; rintro rfl; exact hMl hi⟩)).elem ic_len (by decide) c
    have ha : aidx l.length (.int .i64 (j : Int)) = some j := by simp [aidx]; omega
    have ld : apart true (off + j * 2) 2 k = some (.agg (ic l[j])) := by rw [apart_agg _ _ _ (elem_room (es := 2) c hk), hall]
    have hs : chkN l (j + 1) = (okI l[j] && !((l.take j).any fun y => decide (y.page = l[j].page))) := by
      rw [chkN, hc, List.getElem?_eq_getElem c, Bool.true_and]
    have ht : l.take (j + 1) = l.take j ++ [l[j]] := by rw [List.take_add_one, List.getElem?_eq_getElem c, Option.toList_some]
    obtain ⟨x, ex⟩ : ∃ x, l[j] = x := ⟨_, rfl⟩
    rw [ex] at ld hs ht
    obtain ⟨K1, eK1⟩ : ∃ K1, (K.new (.cells [.int .i64 0, .str []] true)).set K.next (.cells [.int .i64 x.page, .str x.text] true) = K1 := ⟨_, rfl⟩
    have k1 : Keeps K K1 := by rw [← eK1]; exact Keeps.set' (Nat.le_refl _) (Keeps.new' (Keeps.refl _))
    have oN : K1.obj K.next = some (.cells [.int .i64 x.page, .str x.text] true) := by rw [← eK1, set_obj, if_pos rfl]
    have xF := hF.1
    have M1 : K1.obj M = some (.map (metM (l.take j))) := by rw [k1.2 M (by omega)]; exact hM
    have hget := alook_met x.page (l.take j)
    have gt : amapGet K1 (.int .i64) (.map M) (.int .i64 x.page) = some (if (l.take j).any fun y => decide (y.page = x.page) then some (.bool true) else none) := by
      simp only [amapGet, akey, decide_true, if_true, M1]; exact hget
    have fails : chkN l (j + 1) = false → chkN l l.length = false := chkN_mono l (by omega)
    unfold ic at ld
    have u70 := U52 x.page
    unfold okI at hs
    cases cp1 : pgok x.page <;> rw [cp1] at u70 hs
    · simp only [b30, h3, h7, h8, h9, c1, ha, ho, ld, eK1, oN, u70, rwA, rwB, Nat.reduceAdd, Nat.reduceMul, Nat.reduceLeDiff, Int.reduceEq, Int.reduceLT, Int.reduceLE, Int.reduceAdd, Int.reduceSub, Int.reduceMul, ↓reduceIte, Nat.reduceEqDiff, reduceCtorEq, ↓cnd_true, ↓cnd_false]
      rw [outs_some]
      exact .inr ⟨by simp, .inr ⟨rfl, by simp [Env.set], fails (by rw [hs]; rfl)⟩⟩
    · cases cp2 : decide ((x.text.length : Int) = 480)
      · have e2 : decide (x.text.length = 480) = false := by simp at cp2; simp; omega
        simp only [b30, h3, h7, h8, h9, c1, ha, ho, ld, eK1, oN, u70, cp2, rwA, rwB, Nat.reduceAdd, Nat.reduceMul, Nat.reduceLeDiff, Int.reduceEq, Int.reduceLT, Int.reduceLE, Int.reduceAdd, Int.reduceSub, Int.reduceMul, ↓reduceIte, Nat.reduceEqDiff, reduceCtorEq, ↓cnd_true, ↓cnd_false]
        rw [outs_some]
        exact .inr ⟨by simp, .inr ⟨rfl, by simp [Env.set], fails (by rw [hs, e2]; rfl)⟩⟩
      · have e2 : decide (x.text.length = 480) = true := by simp at cp2; simp; omega
        rw [e2] at hs
        cases cp3 : (l.take j).any fun y => decide (y.page = x.page) <;> rw [cp3] at gt hs
        · have pt : amapSet K1 (.int .i64) (.map M) (.int .i64 x.page) (.bool true) = some (K1.set M (.map (metM (l.take (j + 1))))) := by
            simp only [amapSet, akey, decide_true, tup_bool, Bool.not_false, Bool.and_self, if_true, M1, aput_met x.page (l.take j) cp3, Option.map_some]
            rw [ht]; simp [metM]
          simp only [Bool.false_eq_true, if_false] at gt
          simp only [b30, h3, h7, h8, h9, c1, ha, ho, ld, eK1, oN, u70, cp2, gt, pt, w1, Option.getD_none, rwA, rwB, Nat.reduceAdd, Nat.reduceMul, Nat.reduceLeDiff, Int.reduceEq, Int.reduceLT, Int.reduceLE, Int.reduceAdd, Int.reduceSub, Int.reduceMul, ↓reduceIte, Nat.reduceEqDiff, reduceCtorEq, ↓cnd_true, ↓cnd_false]
          rw [outs_some]
          refine .inl ⟨rfl, j + 1, by omega, by omega, by simp [Env.set, h0], by simp [Env.set, h3], by simp [Env.set, h7], by simp [Env.set, h8], by simp [Env.set], by rw [hs]; rfl, ?_, by rw [set_obj, if_pos rfl]⟩
          exact Fr.set (.inl (by simp)) (hF.trans (Fr.of (L := []) k1) (by simp))
        · simp only [if_true] at gt
          simp only [b30, h3, h7, h8, h9, c1, ha, ho, ld, eK1, oN, u70, cp2, gt, Option.getD_some, rwA, rwB, Nat.reduceAdd, Nat.reduceMul, Nat.reduceLeDiff, Int.reduceEq, Int.reduceLT, Int.reduceLE, Int.reduceAdd, Int.reduceSub, Int.reduceMul, ↓reduceIte, Nat.reduceEqDiff, reduceCtorEq, ↓cnd_true, ↓cnd_false]
          rw [outs_some]
          exact .inr ⟨by simp, .inr ⟨rfl, by simp [Env.set], fails (by rw [hs]; rfl)⟩⟩
  · have e : j = l.length := by omega
    subst e
    have c1 : decide ((l.length : Int) < (l.length : Int)) = false := by simp
    simp only [b30, h8, h9, c1, rwA, rwB, Nat.reduceAdd, Nat.reduceMul, Nat.reduceLeDiff, Int.reduceEq, Int.reduceLT, Int.reduceLE, Int.reduceAdd, Int.reduceSub, Int.reduceMul, ↓reduceIte, Nat.reduceEqDiff, reduceCtorEq, ↓cnd_true, ↓cnd_false]
    rw [outs_some]
    exact .inr ⟨by simp, .inl ⟨rfl, by simp [Env.set, h0], hc, fun i hi => hF.2 i (hid i hi) (by simp; rintro rfl; exact hMl hi)⟩⟩

theorem U30 {H : AHeap} {lv : AVal} {l : List Im} (hl : Sl H 2 lv (l.flatMap ic)) (hid : ∀ i, i ∈ lv.ids → i < H.next) (hn : l.length ≤ 8796093022208) : AC A 30 [lv] H = some (.int .i64 (if chk l then 0 else 18), H) := by
  refine look_val (x := DnFns.c30) rfl rfl rfl rfl ?_
  have hf := hl.frz
  have hn' : (frz H).next = H.next := rfl
  have ll := hf.alen
  rw [slen_fm ic_len (by decide) hf] at ll
  have k0 : Keeps (frz H) ((frz H).new (.map [])) := Keeps.new _ _
  have L := fun env h3 h7 h8 h9 => loop30 (env := env) (hf.keep hid k0) (fun i hi => by have := hid i hi; rw [new_next]; omega) hn (M := H.next) (by rw [new_obj, if_pos hn'.symm]) (by rw [new_next]; omega) (fun hx => by have := hid _ hx; omega) h3 h7 h8 h9
  simp only [c30, hn', ll, rwA, rwB, Nat.reduceAdd, Nat.reduceMul, Nat.reduceLeDiff, Int.reduceEq, Int.reduceLT, Int.reduceLE, Int.reduceAdd, Int.reduceSub, Int.reduceMul, ↓reduceIte, Nat.reduceEqDiff, reduceCtorEq, ↓cnd_true, ↓cnd_false]
  repeat (first | refine outs_seq ?_ | refine outs_block ?_ | refine outs_step ?_ | refine outs_stepD ?_ | refine rets_end ?_ | refine ans_end ?_)
  refine (L _ (by simp [Env.set]) (by simp [Env.set, ainit]) (by simp [Env.set]) (by simp [Env.set])).mono ?_
  rintro e env K (⟨rfl, h0, hc, hk⟩ | ⟨rfl, h2, hc⟩)
  · have h0 : env 0 = lv := by rw [h0]; simp [Env.set, ainit]
    have c0 : decide ((l.length : Int) = 0) = decide (l = []) := by
      cases l with
      | nil => rfl
      | cons a l => simp; omega
    cases c : decide (l = [])
    · have e : chk l = true := by simp only [chk, c, hc]; rfl
      rw [c] at c0
      rw [e]
      simp only [outs_some, h0, ll, c0, if_true, rwA, rwB, Nat.reduceAdd, Nat.reduceMul, Nat.reduceLeDiff, Int.reduceEq, Int.reduceLT, Int.reduceLE, Int.reduceAdd, Int.reduceSub, Int.reduceMul, ↓reduceIte, Nat.reduceEqDiff, reduceCtorEq, ↓cnd_true, ↓cnd_false]
    · have e : chk l = false := by simp only [chk, c, hc]; rfl
      rw [c] at c0
      rw [e]
      simp only [outs_some, h0, ll, c0, Bool.false_eq_true, if_false, rwA, rwB, Nat.reduceAdd, Nat.reduceMul, Nat.reduceLeDiff, Int.reduceEq, Int.reduceLT, Int.reduceLE, Int.reduceAdd, Int.reduceSub, Int.reduceMul, ↓reduceIte, Nat.reduceEqDiff, reduceCtorEq, ↓cnd_true, ↓cnd_false]
  · have e : chk l = false := by simp [chk, hc]
    rw [e]
    simp only [outs_some, h2, Bool.false_eq_true, if_false, rwA, rwB, Nat.reduceAdd, Nat.reduceMul, Nat.reduceLeDiff, Int.reduceEq, Int.reduceLT, Int.reduceLE, Int.reduceAdd, Int.reduceSub, Int.reduceMul, ↓reduceIte, Nat.reduceEqDiff, reduceCtorEq, ↓cnd_true, ↓cnd_false]

end Go.Proofs.YtilhjcnkaelheaaGreat.Dk
end

section
/- JournalNil: images of puts; a journal that is nil. -/
set_option maxRecDepth 100000
set_option linter.unusedSimpArgs false
set_option linter.unusedVariables false
set_option maxHeartbeats 4000000
namespace Go.Proofs.YtilhjcnkaelheaaGreat.Dk
open Go Go.Proofs.YtilhjcnkaelheaaGreat.Am DnFns Go.RowKit
open Sd (Sec noughts home homeno ofHome ofNo opened unfit pad)

structure Pt where
  page : Int
  byte : UInt8
  short : Bool
def pc (x : Pt) : List AVal := [.int .i64 x.page, by8 x.byte, .bool x.short]
theorem pc_len (x : Pt) : (pc x).length = 3 := rfl
def pt (b : UInt8) : List UInt8 := List.replicate 480 b
theorem pt_len (b : UInt8) : (pt b).length = 480 := by simp [pt]
theorem U28p (b : UInt8) (H : AHeap) : AC A 28 [by8 b] H = some (.str (pt b), H) := U28 b H
def imOf (x : Pt) : Im := ⟨x.page, if x.short then (pt x.byte).drop 1 else pt x.byte⟩
theorem sl_pt (b : UInt8) : ((abounds (pt b).length (pt b).length (some (.int .i64 1)) none none).map fun (l, h, _) => AVal.str (((pt b).take h).drop l)) = some (.str ((pt b).drop 1)) := by
  have e : abounds 480 480 (some (.int .i64 1)) none none = some (1, 480, 480) := rfl
  rw [pt_len, e]
  simp only [Option.map_some]
  rw [List.take_of_length_le (by rw [pt_len]; exact Nat.le_refl _)]
theorem oldl_ic (n : Nat) (l : List Im) : oldl n (l.flatMap ic) = true := by
  induction l with
  | nil => rfl
  | cons a l ih => simp [oldl, AVal.old, ic, ih]

def b10 : ACode := (.seq (.region [⟨(some 10), (.bin .lss (.tmp 9) (.tmp 8)), none, none⟩]) (.seq (.cond (.tmp 10) .skip (.exit 0)) (.seq (.block 1 (.seq (.region [⟨(some 11), (.idxASl 3 (.tmp 7) (.tmp 9)), none, none⟩, ⟨(some 12), (.load true 3 (.tmp 11)), none, none⟩, ⟨(some 5), (.new [(.int .i64 0), (.int .u8 0), (.bool false)]), none, none⟩, ⟨none, (.store 3 (.tmp 5) (.tmp 12)), none, none⟩]) (.seq (.region [⟨(some 13), (.fieldA 1 (.tmp 5)), none, none⟩, ⟨(some 14), (.load false 1 (.tmp 13)), none, none⟩, ⟨(some 15), (.call (.con (.func 28 [] [])) [(.tmp 14)]), none, none⟩, ⟨(some 6), (.mv (.tmp 15)), none, none⟩]) (.seq (.seq (.region [⟨(some 16), (.fieldA 2 (.tmp 5)), none, none⟩, ⟨(some 17), (.load false 1 (.tmp 16)), none, none⟩]) (.cond (.tmp 17) (.region [⟨(some 18), (.mv (.tmp 6)), none, none⟩, ⟨(some 19), (.slcStr (.tmp 18) (some (.con (.int .i64 1))) none), none, none⟩, ⟨(some 6), (.mv (.tmp 19)), none, none⟩]) .skip)) (.region [⟨(some 20), (.mv (.tmp 3)), none, none⟩, ⟨(some 21), (.fieldA 0 (.tmp 5)), none, none⟩, ⟨(some 22), (.load false 1 (.tmp 21)), none, none⟩, ⟨(some 23), (.mv (.tmp 6)), none, none⟩, ⟨(some 24), (.build [(.int .i64 0), (.str [])] [(0, (1, (.tmp 22))), (1, (1, (.tmp 23)))]), none, none⟩, ⟨(some 25), (.buildS 1 [(.int .i64 0), (.str [])] [(0, (2, (.tmp 24)))]), none, none⟩, ⟨(some 26), (.append 2 24 (.tmp 20) (.tmp 25)), none, none⟩, ⟨(some 3), (.mv (.tmp 26)), none, none⟩]))))) (.region [⟨(some 27), (.bin .add (.tmp 9) (.con (.int .i64 1))), none, none⟩, ⟨(some 9), (.mv (.tmp 27)), none, none⟩]))))
theorem loop10j {H : AHeap} {lv : AVal} {l : List Pt} (hl : Sl H 3 lv (l.flatMap pc)) (hid : ∀ i, i ∈ lv.ids → i < H.next) (hn : l.length ≤ 8796093022208) {env : Env}
    (h3 : env 3 = .nils) (h7 : env 7 = lv) (h8 : env 8 = .int .i64 (l.length : Int)) (h9 : env 9 = .int .i64 0) :
    Outs (AX A (.loop b10) env H) fun e env' K => e = .exit 0 ∧ ∃ v, env' 3 = v ∧ Gr K 2 v ((l.map imOf).flatMap ic) ∧ ∀ i, i ∈ v.ids → H.next ≤ i := by
  refine loop_ends (I := fun (j : Nat) env' K => j ≤ l.length ∧ env' 7 = lv ∧ env' 8 = .int .i64 (l.length : Int) ∧ env' 9 = .int .i64 (j : Int) ∧ Keeps H K ∧ ∃ v, env' 3 = v ∧ Gr K 2 v (((l.take j).map imOf).flatMap ic) ∧ ∀ i, i ∈ v.ids → H.next ≤ i) (fun j => l.length - j) ?_ 0 env H
    ⟨Nat.zero_le _, h7, h8, h9, Keeps.refl _, .nils, h3, Gr.nil _ _, by simp [AVal.ids]⟩
  rintro j env1 K ⟨hj, h7, h8, h9, hK, v, h3, hg, hgi⟩
  by_cases c : j < l.length
  · have c1 : decide ((j : Int) < (l.length : Int)) = true := by simp; omega
    have w1 : IntKind.i64.wrap ((j : Int) + 1) = ((j + 1 : Nat) : Int) := by rw [wrap_i64]; omega
    obtain ⟨id, off, cp, g, k, own, rfl, ho, hk, hall, _⟩ := (hl.keep hid hK).elem pc_len (by decide) c
    have ha : aidx l.length (.int .i64 (j : Int)) = some j := by simp [aidx]; omega
    have ld : apart true (off + j * 3) 3 k = some (.agg (pc l[j])) := by rw [apart_agg _ _ _ (elem_room (es := 3) c hk), hall]
    have ht : l.take (j + 1) = l.take j ++ [l[j]] := by rw [List.take_add_one, List.getElem?_eq_getElem c, Option.toList_some]
    obtain ⟨x, ex⟩ : ∃ x, l[j] = x := ⟨_, rfl⟩
    rw [ex] at ld ht
    obtain ⟨K1, eK1⟩ : ∃ K1, (K.new (.cells [.int .i64 0, .int .u8 0, .bool false] true)).set K.next (.cells [.int .i64 x.page, by8 x.byte, .bool x.short] true) = K1 := ⟨_, rfl⟩
    have k1 : Keeps K K1 := by rw [← eK1]; exact Keeps.set' (Nat.le_refl _) (Keeps.new' (Keeps.refl _))
    have oN : K1.obj K.next = some (.cells [.int .i64 x.page, by8 x.byte, .bool x.short] true) := by rw [← eK1, set_obj, if_pos rfl]
    have g1 := hg.fr (L := []) (Fr.of k1) (by simp)
    have sl : slen v = j := by
      have := slen_fm ic_len (by decide) hg.sl
      simp at this; omega
    obtain ⟨v2, K2, e2, g2, i2, f2, s2, a2, ea2⟩ := g1.push (by' := 24) (by decide) (x := ic (imOf x)) rfl (by rw [sl]; omega)
    have xK := hK.1
    have x1 := k1.1
    have x2 := f2.1
    have kf : Keeps H K2 := ⟨by omega, fun i hi => by rw [f2.2 i (by omega) (fun hx => by have := hgi i hx; omega), k1.2 i (by omega), hK.2 i hi]⟩
    have gf : Gr K2 2 v2 (((l.take (j + 1)).map imOf).flatMap ic) := by
      rw [ht]; simpa using g2
    rw [ea2] at e2
    unfold pc at ld
    unfold ic imOf at e2
    cases hs : x.short
    · rw [hs] at eK1 oN e2
      simp only [Bool.false_eq_true, if_false] at e2
      simp only [b10, h3, h7, h8, h9, c1, ha, ho, ld, hs, eK1, oN, U28p, e2, w1, rwA, rwB, Nat.reduceAdd, Nat.reduceMul, Nat.reduceLeDiff, Int.reduceEq, Int.reduceLT, Int.reduceLE, Int.reduceAdd, Int.reduceSub, Int.reduceMul, ↓reduceIte, Nat.reduceEqDiff, reduceCtorEq, ↓cnd_true, ↓cnd_false]
      rw [outs_some]
      exact .inl ⟨rfl, j + 1, by omega, by omega, by simp [Env.set, h7], by simp [Env.set, h8], by simp [Env.set], kf, v2, by rw [ea2]; simp [Env.set], gf, fun i hi => by have := i2 i hi; omega⟩
    · rw [hs] at eK1 oN e2
      simp only [if_true] at e2
      simp only [b10, h3, h7, h8, h9, c1, ha, ho, ld, hs, eK1, oN, U28p, sl_pt, e2, w1, rwA, rwB, Nat.reduceAdd, Nat.reduceMul, Nat.reduceLeDiff, Int.reduceEq, Int.reduceLT, Int.reduceLE, Int.reduceAdd, Int.reduceSub, Int.reduceMul, ↓reduceIte, Nat.reduceEqDiff, reduceCtorEq, ↓cnd_true, ↓cnd_false]
      rw [outs_some]
      exact .inl ⟨rfl, j + 1, by omega, by omega, by simp [Env.set, h7], by simp [Env.set, h8], by simp [Env.set], kf, v2, by rw [ea2]; simp [Env.set], gf, fun i hi => by have := i2 i hi; omega⟩
  · have e : j = l.length := by omega
    subst e
    have c1 : decide ((l.length : Int) < (l.length : Int)) = false := by simp
    simp only [b10, h8, h9, c1, rwA, rwB, Nat.reduceAdd, Nat.reduceMul, Nat.reduceLeDiff, Int.reduceEq, Int.reduceLT, Int.reduceLE, Int.reduceAdd, Int.reduceSub, Int.reduceMul, ↓reduceIte, Nat.reduceEqDiff, reduceCtorEq, ↓cnd_true, ↓cnd_false]
    rw [outs_some]
    rw [List.take_length] at hg
    exact .inr ⟨by simp, rfl, v, by simp [Env.set, h3], hg, hgi⟩

theorem U10 {H : AHeap} {lv : AVal} {l : List Pt} (hl : Sl H 3 lv (l.flatMap pc)) (hid : ∀ i, i ∈ lv.ids → i < H.next) (hn : l.length ≤ 8796093022208) :
    ∃ v K, AC A 10 [lv] H = some (v, K) ∧ Gr K 2 v ((l.map imOf).flatMap ic) ∧ Keeps H K ∧ ∀ i, i ∈ v.ids → H.next ≤ i := by
  refine look_gr (x := DnFns.c10) rfl rfl rfl (oldl_ic _ _) ?_
  have hf := hl.frz
  have ll := hf.alen
  rw [slen_fm pc_len (by decide) hf] at ll
  simp only [c10, ll, rwA, rwB, Nat.reduceAdd, Nat.reduceMul, Nat.reduceLeDiff, Int.reduceEq, Int.reduceLT, Int.reduceLE, Int.reduceAdd, Int.reduceSub, Int.reduceMul, ↓reduceIte, Nat.reduceEqDiff, reduceCtorEq, ↓cnd_true, ↓cnd_false]
  repeat (first | refine outs_seq ?_ | refine outs_block ?_ | refine outs_step ?_ | refine outs_stepD ?_ | refine rets_end ?_ | refine ans_end ?_)
  refine (loop10j hf hid hn ?_ ?_ ?_ ?_).mono ?_
  · simp [Env.set]
  · simp [Env.set, ainit]
  · simp [Env.set]
  · simp [Env.set]
  rintro e env K ⟨rfl, v, h3, hg, hi⟩
  subst h3
  rcases hg.shape with e | ⟨_, _, _, e⟩
  all_goals
    simp only [outs_some, e, rwA, rwB, Nat.reduceAdd, Nat.reduceMul, Nat.reduceLeDiff, Int.reduceEq, Int.reduceLT, Int.reduceLE, Int.reduceAdd, Int.reduceSub, Int.reduceMul, ↓reduceIte, Nat.reduceEqDiff, reduceCtorEq, ↓cnd_true, ↓cnd_false]
    rw [rets_some]
    rw [e] at hg hi
    exact ⟨hg, hi⟩

def b12 : ACode := (.seq (.region [⟨(some 9), (.bin .lss (.tmp 8) (.tmp 7)), none, none⟩]) (.seq (.cond (.tmp 9) .skip (.exit 0)) (.seq (.block 1 (.seq (.region [⟨(some 10), (.idxASl 2 (.tmp 6) (.tmp 8)), none, none⟩, ⟨(some 11), (.load true 2 (.tmp 10)), none, none⟩, ⟨(some 5), (.new [(.int .i64 0), (.str [])]), none, none⟩, ⟨none, (.store 2 (.tmp 5) (.tmp 11)), none, none⟩]) (.region [⟨(some 12), (.mv (.tmp 3)), none, none⟩, ⟨(some 13), (.fieldA 0 (.tmp 5)), none, none⟩, ⟨(some 14), (.load false 1 (.tmp 13)), none, none⟩, ⟨(some 15), (.fieldA 1 (.tmp 5)), none, none⟩, ⟨(some 16), (.load false 1 (.tmp 15)), none, none⟩, ⟨(some 17), (.build [(.int .i64 0), (.str [])] [(0, (1, (.tmp 14))), (1, (1, (.tmp 16)))]), none, none⟩, ⟨(some 18), (.buildS 1 [(.int .i64 0), (.str [])] [(0, (2, (.tmp 17)))]), none, none⟩, ⟨(some 19), (.append 2 24 (.tmp 12) (.tmp 18)), none, none⟩, ⟨(some 3), (.mv (.tmp 19)), none, none⟩]))) (.region [⟨(some 20), (.bin .add (.tmp 8) (.con (.int .i64 1))), none, none⟩, ⟨(some 8), (.mv (.tmp 20)), none, none⟩]))))
theorem loop12j {H : AHeap} {lv : AVal} {l : List Im} (hl : Sl H 2 lv (l.flatMap ic)) (hid : ∀ i, i ∈ lv.ids → i < H.next) (hn : l.length ≤ 8796093022208) {env : Env}
    (h3 : env 3 = .nils) (h7 : env 6 = lv) (h8 : env 7 = .int .i64 (l.length : Int)) (h9 : env 8 = .int .i64 0) :
    Outs (AX A (.loop b12) env H) fun e env' K => e = .exit 0 ∧ ∃ v, env' 3 = v ∧ Gr K 2 v (l.flatMap ic) ∧ ∀ i, i ∈ v.ids → H.next ≤ i := by
  refine loop_ends (I := fun (j : Nat) env' K => j ≤ l.length ∧ env' 6 = lv ∧ env' 7 = .int .i64 (l.length : Int) ∧ env' 8 = .int .i64 (j : Int) ∧ Keeps H K ∧ ∃ v, env' 3 = v ∧ Gr K 2 v ((l.take j).flatMap ic) ∧ ∀ i, i ∈ v.ids → H.next ≤ i) (fun j => l.length - j) ?_ 0 env H
    ⟨Nat.zero_le _, h7, h8, h9, Keeps.refl _, .nils, h3, Gr.nil _ _, by simp [AVal.ids]⟩
  rintro j env1 K ⟨hj, h7, h8, h9, hK, v, h3, hg, hgi⟩
  by_cases c : j < l.length
  · have c1 : decide ((j : Int) < (l.length : Int)) = true := by simp; omega
    have w1 : IntKind.i64.wrap ((j : Int) + 1) = ((j + 1 : Nat) : Int) := by rw [wrap_i64]; omega
    obtain ⟨id, off, cp, g, k, own, rfl, ho, hk, hall, _⟩ := (hl.keep hid hK).elem ic_len (by decide) c
    have ha : aidx l.length (.int .i64 (j : Int)) = some j := by simp [aidx]; omega
    have ld : apart true (off + j * 2) 2 k = some (.agg (ic l[j])) := by rw [apart_agg _ _ _ (elem_room (es := 2) c hk), hall]
    have ht : l.take (j + 1) = l.take j ++ [l[j]] := by rw [List.take_add_one, List.getElem?_eq_getElem c, Option.toList_some]
    obtain ⟨x, ex⟩ : ∃ x, l[j] = x := ⟨_, rfl⟩
    rw [ex] at ld ht
    obtain ⟨K1, eK1⟩ : ∃ K1, (K.new (.cells [.int .i64 0, .str []] true)).set K.next (.cells [.int .i64 x.page, .str x.text] true) = K1 := ⟨_, rfl⟩
    have k1 : Keeps K K1 := by rw [← eK1]; exact Keeps.set' (Nat.le_refl _) (Keeps.new' (Keeps.refl _))
    have oN : K1.obj K.next = some (.cells [.int .i64 x.page, .str x.text] true) := by rw [← eK1, set_obj, if_pos rfl]
    have g1 := hg.fr (L := []) (Fr.of k1) (by simp)
    have sl : slen v = j := by
      have := slen_fm ic_len (by decide) hg.sl
      simp at this; omega
    obtain ⟨v2, K2, e2, g2, i2, f2, s2, a2, ea2⟩ := g1.push (by' := 24) (by decide) (x := ic x) rfl (by rw [sl]; omega)
    have xK := hK.1
    have x1 := k1.1
    have x2 := f2.1
    have kf : Keeps H K2 := ⟨by omega, fun i hi => by rw [f2.2 i (by omega) (fun hx => by have := hgi i hx; omega), k1.2 i (by omega), hK.2 i hi]⟩
    have gf : Gr K2 2 v2 ((l.take (j + 1)).flatMap ic) := by
      rw [ht]; simpa using g2
    rw [ea2] at e2
    unfold ic at ld e2
    simp only [b12, h3, h7, h8, h9, c1, ha, ho, ld, eK1, oN, e2, w1, rwA, rwB, Nat.reduceAdd, Nat.reduceMul, Nat.reduceLeDiff, Int.reduceEq, Int.reduceLT, Int.reduceLE, Int.reduceAdd, Int.reduceSub, Int.reduceMul, ↓reduceIte, Nat.reduceEqDiff, reduceCtorEq, ↓cnd_true, ↓cnd_false]
    rw [outs_some]
    exact .inl ⟨rfl, j + 1, by omega, by omega, by simp [Env.set, h7], by simp [Env.set, h8], by simp [Env.set], kf, v2, by rw [ea2]; simp [Env.set], gf, fun i hi => by have := i2 i hi; omega⟩
  · have e : j = l.length := by omega
    subst e
    have c1 : decide ((l.length : Int) < (l.length : Int)) = false := by simp
    simp only [b12, h8, h9, c1, rwA, rwB, Nat.reduceAdd, Nat.reduceMul, Nat.reduceLeDiff, Int.reduceEq, Int.reduceLT, Int.reduceLE, Int.reduceAdd, Int.reduceSub, Int.reduceMul, ↓reduceIte, Nat.reduceEqDiff, reduceCtorEq, ↓cnd_true, ↓cnd_false]
    rw [outs_some]
    rw [List.take_length] at hg
    exact .inr ⟨by simp, rfl, v, by simp [Env.set, h3], hg, hgi⟩

theorem U12 {H : AHeap} {lv : AVal} {l : List Im} (hl : Sl H 2 lv (l.flatMap ic)) (hid : ∀ i, i ∈ lv.ids → i < H.next) (hn : l.length ≤ 8796093022208) :
    ∃ v K, AC A 12 [lv] H = some (v, K) ∧ Gr K 2 v (l.flatMap ic) ∧ Keeps H K ∧ ∀ i, i ∈ v.ids → H.next ≤ i := by
  refine look_gr (x := DnFns.c12) rfl rfl rfl (oldl_ic _ _) ?_
  have hf := hl.frz
  have ll := hf.alen
  rw [slen_fm ic_len (by decide) hf] at ll
  simp only [c12, ll, rwA, rwB, Nat.reduceAdd, Nat.reduceMul, Nat.reduceLeDiff, Int.reduceEq, Int.reduceLT, Int.reduceLE, Int.reduceAdd, Int.reduceSub, Int.reduceMul, ↓reduceIte, Nat.reduceEqDiff, reduceCtorEq, ↓cnd_true, ↓cnd_false]
  repeat (first | refine outs_seq ?_ | refine outs_block ?_ | refine outs_step ?_ | refine outs_stepD ?_ | refine rets_end ?_ | refine ans_end ?_)
  refine (loop12j hf hid hn ?_ ?_ ?_ ?_).mono ?_
  · simp [Env.set]
  · simp [Env.set, ainit]
  · simp [Env.set]
  · simp [Env.set]
  rintro e env K ⟨rfl, v, h3, hg, hi⟩
  subst h3
  rcases hg.shape with e | ⟨_, _, _, e⟩
  all_goals
    simp only [outs_some, e, rwA, rwB, Nat.reduceAdd, Nat.reduceMul, Nat.reduceLeDiff, Int.reduceEq, Int.reduceLT, Int.reduceLE, Int.reduceAdd, Int.reduceSub, Int.reduceMul, ↓reduceIte, Nat.reduceEqDiff, reduceCtorEq, ↓cnd_true, ↓cnd_false]
    rw [rets_some]
    rw [e] at hg hi
    exact ⟨hg, hi⟩

end Go.Proofs.YtilhjcnkaelheaaGreat.Dk
end

section
/- Journals: opened, appended to. -/
set_option maxRecDepth 100000
set_option linter.unusedSimpArgs false
set_option linter.unusedVariables false
set_option maxHeartbeats 4000000
namespace Go.Proofs.YtilhjcnkaelheaaGreat.Dk
open Go Go.Proofs.YtilhjcnkaelheaaGreat.Am DnFns Go.RowKit
open Sd (Sec noughts home homeno ofHome ofNo opened unfit pad)

structure JS where
  size : Nat
  epoch : Nat
  at' : Nat
  number : Nat
structure JS.wf (j : JS) : Prop where
  s1 : 4 ≤ j.size
  s2 : j.size ≤ 1024
  a1 : j.at' ≤ j.size
  e1 : j.epoch < 18446744073709551616
  n1 : j.number < 1000000
def jc (p : Nat) (j : JS) : List AVal := [.ptr p 0, .int .i64 (j.size : Int), .int .u64 (j.epoch : Int), .int .i64 (j.at' : Int), .int .u64 (j.number : Int)]
structure J (H : AHeap) (jp p a : Nat) (vw : AVal) (j : JS) : Prop where
  oj : H.obj jp = some (.cells (jc p j) true)
  jn : jp < H.next
  jd : jp ≠ p ∧ jp ≠ a ∧ jp ∉ vw.ids
theorem J.fr {L : List Nat} {H H' : AHeap} {jp p a : Nat} {vw vw' : AVal} {j : JS} (h : J H jp p a vw j) (f : Fr L H H') (hL : jp ∉ L) (hv : ∀ i, i ∈ vw'.ids → i ∈ vw.ids ∨ H.next ≤ i) : J H' jp p a vw' j :=
  ⟨by rw [f.2 jp h.jn hL]; exact h.oj, Nat.lt_of_lt_of_le h.jn f.1, h.jd.1, h.jd.2.1, fun hx => (hv jp hx).elim h.jd.2.2 (by have := h.jn; omega)⟩

theorem U21 {H : AHeap} {jp p a : Nat} {vw : AVal} {j : JS} (h : J H jp p a vw j) (hw : j.wf) : AC A 21 [.ptr jp 0] H = some (.int .i64 ((j.size : Int) - (j.at' : Int)), H) := by
  refine look_val (x := DnFns.c21) rfl rfl rfl rfl ?_
  have o := frz_obj h.oj
  unfold jc at o
  have w1 : IntKind.i64.wrap ((j.size : Int) - (j.at' : Int)) = (j.size : Int) - (j.at' : Int) := by rw [wrap_i64]; have := hw.s2; have := hw.a1; omega
  simp only [c21, o, w1, e_nilp0, rwA, rwB, Nat.reduceAdd, Nat.reduceMul, Nat.reduceLeDiff, Int.reduceEq, Int.reduceLT, Int.reduceLE, Int.reduceAdd, Int.reduceSub, Int.reduceMul, ↓reduceIte, Nat.reduceEqDiff, reduceCtorEq, ↓cnd_true, ↓cnd_false]

theorem U7 {H : AHeap} {p a : Nat} {g : Option Nat} {vw : AVal} {d : DS} (h : D H p a g vw d) {size epoch : Nat} (s1 : 4 ≤ size) (s2 : size ≤ 1024) (s3 : size < d.s.length) :
    AC A 7 [.ptr p 0, .int .i64 (size : Int), .int .u64 (epoch : Int)] H = some (.tuple [.ptr H.next 0, .int .i64 0], H.new (.cells (jc p ⟨size, epoch, 0, 0⟩) true)) := by
  rw [s_fn (A := A) (f := 7) (x := DnFns.c7) rfl rfl rfl]
  have u := U34 h.look
  have c1 : decide ((size : Int) < 4) = false := by simp; omega
  have c2 : decide ((1024 : Int) < (size : Int)) = false := by simp; omega
  have c3 : decide ((d.s.length : Int) ≤ (size : Int)) = false := by simp; omega
  simp only [c7, u, c1, c2, c3, e_nilp0, rwA, rwB, Nat.reduceAdd, Nat.reduceMul, Nat.reduceLeDiff, Int.reduceEq, Int.reduceLT, Int.reduceLE, Int.reduceAdd, Int.reduceSub, Int.reduceMul, ↓reduceIte, Nat.reduceEqDiff, reduceCtorEq, ↓cnd_true, ↓cnd_false]
  rfl

def sx (j : JS) (k : Int) (a m : Int) (t : List UInt8) : Sec := ⟨k, j.epoch, j.number + 1, a, m, t⟩

theorem U37 {H : AHeap} {jp p a : Nat} {g : Option Nat} {vw : AVal} {d : DS} {j : JS} (h : D H p a g vw d) (hj : J H jp p a vw j) (hw : j.wf) (hwl : d.w.length < 1000000) {i : Nat} (hi : i < 1000000) {z : Nat} (hz : 1 + j.at' + i = z) {k b m : Int} {t : List UInt8} (ok : (sx j k b m t).ok = true) (e n : Int) :
    ∃ H' vw', AC A 37 [.ptr jp 0, .int .i64 (i : Int), .agg [.int .i64 k, .int .u64 e, .int .u64 n, .int .i64 b, .int .i64 m, .str t]] H = some (.int .i64 (d.write (z : Int) (sx j k b m t).bytes).2, H') ∧
      D H' p a g vw' (d.write (z : Int) (sx j k b m t).bytes).1 ∧ Fr (p :: vw.ids) H H' ∧ (∀ i, i ∈ vw'.ids → i ∈ vw.ids ∨ H.next ≤ i) := by
  obtain ⟨q, eq⟩ : ∃ q, H.next = q := ⟨_, rfl⟩
  obtain ⟨K, eK⟩ : ∃ K, (H.new (.cells [.int .i64 k, .int .u64 e, .int .u64 n, .int .i64 b, .int .i64 m, .str t] true)).set q (.cells [.int .i64 k, .int .u64 (j.epoch : Int), .int .u64 ((j.number + 1 : Nat) : Int), .int .i64 b, .int .i64 m, .str t] true) = K := ⟨_, rfl⟩
  have kK : Keeps H K := by rw [← eK]; exact Keeps.set' (by omega) (Keeps.new' (Keeps.refl _))
  have nK : K.next = q + 1 := by rw [← eK, set_next, new_next, eq]
  have oK : K.obj q = some (.cells [.int .i64 k, .int .u64 (j.epoch : Int), .int .u64 ((j.number + 1 : Nat) : Int), .int .i64 b, .int .i64 m, .str t] true) := by rw [← eK, set_obj, if_pos rfl]
  have oj := hj.oj
  have jn := hj.jn
  have oj1 : K.obj jp = some (.cells (jc p j) true) := by rw [kK.2 _ jn]; exact oj
  obtain ⟨H', vw', e11, hD', f', hv'⟩ := U20 (h.keeps kK) hwl (z : Int) (sx j k b m t).bytes
  refine ⟨H', vw', ?_, hD', (Fr.of (L := []) kK).mono (by simp) |>.trans f' (fun i hi => .inl hi), fun i hi => (hv' i hi).imp_right (fun h => by omega)⟩
  have hs := hw.s2
  have ha := hw.a1
  have hn := hw.n1
  have w1 : IntKind.u64.wrap ((j.number : Int) + 1) = ((j.number + 1 : Nat) : Int) := by rw [wrapU64]; omega
  have w2 : IntKind.i64.wrap (1 + (j.at' : Int)) = ((1 + j.at' : Nat) : Int) := by rw [wrap_i64]; omega
  have w3 : IntKind.i64.wrap (((1 + j.at' : Nat) : Int) + (i : Int)) = (z : Int) := by rw [wrap_i64]; omega
  have u63 := U56 k j.epoch (j.number + 1) b m t K
  have e1 : Sec.sealb ⟨k, j.epoch, j.number + 1, b, m, t⟩ = (sx j k b m t).bytes := (Sd.seal_ok ok).1
  have e2 : Sec.no ⟨k, j.epoch, j.number + 1, b, m, t⟩ = 0 := (Sd.seal_ok ok).2
  rw [e1, e2] at u63
  unfold jc at oj oj1
  rw [s_fn (A := A) (f := 37) (x := DnFns.c37) rfl rfl rfl]
  simp only [c37, eq, oj, oldne (show jp < q by omega), w1, AHeap.set_set, eK, oK, oj1, u63, w2, w3, e11, rwA, rwB, Nat.reduceAdd, Nat.reduceMul, Nat.reduceLeDiff, Int.reduceEq, Int.reduceLT, Int.reduceLE, Int.reduceAdd, Int.reduceSub, Int.reduceMul, ↓reduceIte, Nat.reduceEqDiff, reduceCtorEq, ↓cnd_true, ↓cnd_false]

def wseq (d : DS) (k : Nat) : List (List UInt8) → DS × Int
  | [] => (d, 0)
  | b :: bs => if (d.write (k : Int) b).2 = 0 then wseq (d.write (k : Int) b).1 (k + 1) bs else d.write (k : Int) b
def imgS (j : JS) (i : Nat) (x : Im) : List UInt8 := (sx j 2 x.page i x.text).bytes
def imgSs (j : JS) : Nat → List Im → List (List UInt8)
  | _, [] => []
  | i, x :: l => imgS j i x :: imgSs j (i + 1) l
def endS (j : JS) (l : List Im) : List UInt8 := (sx j 3 0 (l.length : Int) (noughts 480)).bytes
def secs (j : JS) (l : List Im) : List (List UInt8) := imgSs j 0 l ++ [endS j l]
theorem imgSs_len (j : JS) : ∀ (l : List Im) (i : Nat), (imgSs j i l).length = l.length
  | [], _ => rfl
  | x :: l, i => by simp [imgSs, imgSs_len j l (i + 1)]
theorem imgSs_drop (j : JS) : ∀ (l : List Im) (i k : Nat) (h : i < l.length), (imgSs j k l).drop i = imgS j (k + i) l[i] :: (imgSs j k l).drop (i + 1)
  | x :: l, 0, k, h => by simp [imgSs]
  | x :: l, i + 1, k, h => by
    have := imgSs_drop j l i (k + 1) (by simpa using h)
    rw [show k + 1 + i = k + (i + 1) by omega] at this
    simpa [imgSs] using this
def app (d : DS) (j : JS) (l : List Im) : DS × JS × Int :=
  if chk l = false then (d, j, 18) else if j.size - j.at' ≤ l.length then (d, j, 14) else
    if (wseq d (1 + j.at') (secs j l)).2 = 0 then ((wseq d (1 + j.at') (secs j l)).1, { j with at' := j.at' + (l.length + 1), number := j.number + 1 }, 0) else ((wseq d (1 + j.at') (secs j l)).1, j, (wseq d (1 + j.at') (secs j l)).2)

theorem write_w (d : DS) (i : Int) (s : List UInt8) : (d.write i s).1.w.length ≤ d.w.length + 1 := by
  unfold DS.write
  split
  · split
    · simp
    · simp [step_w]
  · simp

theorem chk_at {l : List Im} (h : chk l = true) {i : Nat} (hi : i < l.length) : okI l[i] = true := by
  unfold chk at h
  rw [Bool.and_eq_true] at h
  have : chkN l (i + 1) = true := by
    cases c : chkN l (i + 1)
    · have := chkN_mono l (show i + 1 ≤ l.length by omega) c
      rw [this] at h; simp at h
    · rfl
  rw [chkN, List.getElem?_eq_getElem hi, Bool.and_eq_true, Bool.and_eq_true] at this
  exact this.2.1

def b11 : ACode := (.seq (.region [⟨(some 27), (.bin .lss (.tmp 26) (.tmp 25)), none, none⟩]) (.seq (.cond (.tmp 27) .skip (.exit 1)) (.seq (.block 2 (.seq (.region [⟨(some 28), (.mv (.tmp 26)), none, none⟩, ⟨(some 29), (.idxASl 2 (.tmp 24) (.tmp 26)), none, none⟩, ⟨(some 30), (.load true 2 (.tmp 29)), none, none⟩, ⟨(some 6), (.new [(.int .i64 0), (.str [])]), none, none⟩, ⟨(some 5), (.mv (.tmp 28)), none, none⟩, ⟨none, (.store 2 (.tmp 6) (.tmp 30)), none, none⟩]) (.seq (.region [⟨(some 31), (.mv (.tmp 0)), none, none⟩, ⟨(some 32), (.mv (.tmp 5)), none, none⟩, ⟨(some 33), (.fieldA 0 (.tmp 6)), none, none⟩, ⟨(some 34), (.load false 1 (.tmp 33)), none, none⟩, ⟨(some 35), (.mv (.tmp 5)), none, none⟩, ⟨(some 36), (.fieldA 1 (.tmp 6)), none, none⟩, ⟨(some 37), (.load false 1 (.tmp 36)), none, none⟩, ⟨(some 38), (.build [(.int .i64 0), (.int .u64 0), (.int .u64 0), (.int .i64 0), (.int .i64 0), (.str [])] [(0, (1, (.con (.int .i64 2)))), (3, (1, (.tmp 34))), (4, (1, (.tmp 35))), (5, (1, (.tmp 37)))]), none, none⟩, ⟨(some 39), (.call (.con (.func 37 [] [])) [(.tmp 31), (.tmp 32), (.tmp 38)]), none, none⟩, ⟨(some 7), (.mv (.tmp 39)), none, none⟩]) (.seq (.region [⟨(some 40), (.mv (.tmp 7)), none, none⟩, ⟨(some 41), (.bin .neq (.tmp 40) (.con (.int .i64 0))), none, none⟩]) (.cond (.tmp 41) (.seq (.region [⟨(some 42), (.mv (.tmp 7)), none, none⟩, ⟨(some 4), (.mv (.tmp 42)), none, none⟩]) .ret) .skip))))) (.region [⟨(some 43), (.bin .add (.tmp 26) (.con (.int .i64 1))), none, none⟩, ⟨(some 26), (.mv (.tmp 43)), none, none⟩]))))
theorem loop11 {H : AHeap} {jp p a : Nat} {g : Option Nat} {vw : AVal} {d : DS} {j : JS} (h : D H p a g vw d) (hj : J H jp p a vw j) (hw : j.wf) (hwl : d.w.length < 500000) {lv : AVal} {l : List Im} (hl : Sl H 2 lv (l.flatMap ic)) (hid : ∀ i, i ∈ lv.ids → i < H.next ∧ i ≠ p ∧ i ∉ vw.ids) (hn : l.length < 2000) (hc : chk l = true) {env : Env}
    (h0 : env 0 = .ptr jp 0) (h1 : env 1 = lv) (h24 : env 24 = lv) (h25 : env 25 = .int .i64 (l.length : Int)) (h26 : env 26 = .int .i64 0) :
    Outs (AX A (.loop b11) env H) fun e env' K => ∃ d' vw', D K p a g vw' d' ∧ Fr (p :: vw.ids) H K ∧ (∀ i, i ∈ vw'.ids → i ∈ vw.ids ∨ H.next ≤ i) ∧
      ((e = .exit 1 ∧ env' 0 = .ptr jp 0 ∧ env' 1 = lv ∧ d'.w.length ≤ d.w.length + l.length ∧ wseq d (1 + j.at') (secs j l) = wseq d' (1 + j.at' + l.length) [endS j l]) ∨
       (e = .ret ∧ env' 4 = .int .i64 (wseq d (1 + j.at') (secs j l)).2 ∧ (wseq d (1 + j.at') (secs j l)).2 ≠ 0 ∧ (wseq d (1 + j.at') (secs j l)).1 = d')) := by
  refine loop_ends (I := fun (i : Nat) env' K => i ≤ l.length ∧ env' 0 = .ptr jp 0 ∧ env' 1 = lv ∧ env' 24 = lv ∧ env' 25 = .int .i64 (l.length : Int) ∧ env' 26 = .int .i64 (i : Int) ∧ ∃ d' vw', D K p a g vw' d' ∧ Fr (p :: vw.ids) H K ∧ (∀ i, i ∈ vw'.ids → i ∈ vw.ids ∨ H.next ≤ i) ∧ d'.w.length ≤ d.w.length + i ∧
      wseq d (1 + j.at') (secs j l) = wseq d' (1 + j.at' + i) ((imgSs j 0 l).drop i ++ [endS j l])) (fun i => l.length - i) ?_ 0 env H
    ⟨Nat.zero_le _, h0, h1, h24, h25, h26, d, vw, h, Fr.refl _ _, fun i hi => .inl hi, Nat.le_refl _, by simp [secs]⟩
  rintro i env1 K ⟨hi, h0, h1, h24, h25, h26, d', vw', hD, hF, hv, hwl', hE⟩
  by_cases c : i < l.length
  · have c1 : decide ((i : Int) < (l.length : Int)) = true := by simp; omega
    have w1 : IntKind.i64.wrap ((i : Int) + 1) = ((i + 1 : Nat) : Int) := by rw [wrap_i64]; omega
    obtain ⟨id, off, cp, g', k, own, rfl, ho, hk, hall, _⟩ := (hl.fr hF (fun i hi => ⟨(hid i hi).1, by simp [(hid i hi).2]⟩)).elem ic_len (by decide) c
    have ha : aidx l.length (.int .i64 (i : Int)) = some i := by simp [aidx]; omega
    have ld : apart true (off + i * 2) 2 k = some (.agg (ic l[i])) := by rw [apart_agg _ _ _ (elem_room (es := 2) c hk), hall]
    have hok := chk_at hc c
    have hdr := imgSs_drop j l i 0 c
    obtain ⟨x, ex⟩ : ∃ x, l[i] = x := ⟨_, rfl⟩
    rw [ex] at ld hok hdr
    rw [Nat.zero_add] at hdr
    obtain ⟨K1, eK1⟩ : ∃ K1, (K.new (.cells [.int .i64 0, .str []] true)).set K.next (.cells [.int .i64 x.page, .str x.text] true) = K1 := ⟨_, rfl⟩
    have k1 : Keeps K K1 := by rw [← eK1]; exact Keeps.set' (Nat.le_refl _) (Keeps.new' (Keeps.refl _))
    have oN : K1.obj K.next = some (.cells [.int .i64 x.page, .str x.text] true) := by rw [← eK1, set_obj, if_pos rfl]
    have hJ := hj.fr hF (by simp; exact ⟨hj.jd.1, hj.jd.2.2⟩) hv
    have hJ1 := hJ.fr (L := []) (vw' := vw') (Fr.of k1) (by simp) (fun i hi => .inl hi)
    have okS : (sx j 2 x.page (i : Int) x.text).ok = true := by
      unfold okI pgok at hok
      simp only [Bool.and_eq_true, decide_eq_true_eq] at hok
      obtain ⟨⟨o1, o2⟩, o3⟩ := hok
      unfold Sec.ok Sd.short sx
      simp [o3]; omega
    obtain ⟨z, hz⟩ : ∃ z, 1 + j.at' + i = z := ⟨_, rfl⟩
    rw [hz] at hE
    obtain ⟨K2, vw2, e59, hD2, F2, hv2⟩ := U37 (hD.keeps k1) hJ1 hw (by omega) (show i < 1000000 by omega) hz okS 0 0
    have eb : (sx j 2 x.page (i : Int) x.text).bytes = imgS j i x := rfl
    rw [eb] at e59 hD2
    have hE2 : wseq d (1 + j.at') (secs j l) = if (d'.write (z : Int) (imgS j i x)).2 = 0 then wseq (d'.write (z : Int) (imgS j i x)).1 (z + 1) ((imgSs j 0 l).drop (i + 1) ++ [endS j l]) else d'.write (z : Int) (imgS j i x) := by
      rw [hE, hdr]; rfl
    have xF := hF.1
    have x1 := k1.1
    have FF : Fr (p :: vw.ids) H K2 := (hF.trans (Fr.of (L := []) k1) (by simp)).trans F2 (fun i hi => by
      rcases List.mem_cons.1 hi with rfl | hi
      · exact .inl (by simp)
      · exact (hv i hi).elim (fun h => .inl (by simp [h])) .inr)
    have VV : ∀ i, i ∈ vw2.ids → i ∈ vw.ids ∨ H.next ≤ i := fun i hi => (hv2 i hi).elim (hv i) (fun h => .inr (by omega))
    unfold ic at ld
    cases ce : decide ((d'.write (z : Int) (imgS j i x)).2 = 0)
    · have ne : (d'.write (z : Int) (imgS j i x)).2 ≠ 0 := by simpa using ce
      rw [if_neg ne] at hE2
      simp only [b11, h0, h1, h24, h25, h26, c1, ha, ho, ld, eK1, oN, e59, ce, rwA, rwB, Nat.reduceAdd, Nat.reduceMul, Nat.reduceLeDiff, Int.reduceEq, Int.reduceLT, Int.reduceLE, Int.reduceAdd, Int.reduceSub, Int.reduceMul, ↓reduceIte, Nat.reduceEqDiff, reduceCtorEq, ↓cnd_true, ↓cnd_false]
      rw [outs_some]
      refine .inr ⟨by simp, _, vw2, hD2, FF, VV, .inr ⟨rfl, by rw [hE2]; simp [Env.set], by rw [hE2]; exact ne, by rw [hE2]⟩⟩
    · rw [if_pos (by simpa using ce)] at hE2
      simp only [b11, h0, h1, h24, h25, h26, c1, ha, ho, ld, eK1, oN, e59, ce, w1, rwA, rwB, Nat.reduceAdd, Nat.reduceMul, Nat.reduceLeDiff, Int.reduceEq, Int.reduceLT, Int.reduceLE, Int.reduceAdd, Int.reduceSub, Int.reduceMul, ↓reduceIte, Nat.reduceEqDiff, reduceCtorEq, ↓cnd_true, ↓cnd_false]
      rw [outs_some]
      have := write_w d' (z : Int) (imgS j i x)
      exact .inl ⟨rfl, i + 1, by omega, by omega, by simp [Env.set, h0], by simp [Env.set, h1], by simp [Env.set, h24], by simp [Env.set, h25], by simp [Env.set], _, vw2, hD2, FF, VV, by omega, by subst hz; rw [show 1 + (j.at' + (i + 1)) = 1 + j.at' + i + 1 by omega]; exact hE2⟩
  · have e : i = l.length := by omega
    subst e
    have c1 : decide ((l.length : Int) < (l.length : Int)) = false := by simp
    simp only [b11, h0, h1, h25, h26, c1, rwA, rwB, Nat.reduceAdd, Nat.reduceMul, Nat.reduceLeDiff, Int.reduceEq, Int.reduceLT, Int.reduceLE, Int.reduceAdd, Int.reduceSub, Int.reduceMul, ↓reduceIte, Nat.reduceEqDiff, reduceCtorEq, ↓cnd_true, ↓cnd_false]
    rw [outs_some]
    refine .inr ⟨by simp, d', vw', hD, hF, hv, .inl ⟨rfl, by simp [Env.set, h0], by simp [Env.set, h1], hwl', ?_⟩⟩
    rw [show 1 + (j.at' + l.length) = 1 + j.at' + l.length by omega, hE, List.drop_eq_nil_of_le (by rw [imgSs_len]; exact Nat.le_refl _), List.nil_append]

theorem pad480' : pad [] 480 = noughts 480 := Sd.pad480

theorem U11 {H : AHeap} {jp p a : Nat} {g : Option Nat} {vw : AVal} {d : DS} {j : JS} (h : D H p a g vw d) (hj : J H jp p a vw j) (hw : j.wf) (hwl : d.w.length < 400000) {lv : AVal} {l : List Im} (hl : Sl H 2 lv (l.flatMap ic)) (hid : ∀ i, i ∈ lv.ids → i < H.next ∧ i ≠ p ∧ i ∉ vw.ids) (hn : l.length ≤ 8796093022208) :
    ∃ H' vw', AC A 11 [.ptr jp 0, lv] H = some (.int .i64 (app d j l).2.2, H') ∧ D H' p a g vw' (app d j l).1 ∧ J H' jp p a vw' (app d j l).2.1 ∧ Fr (p :: jp :: vw.ids) H H' ∧ (∀ i, i ∈ vw'.ids → i ∈ vw.ids ∨ H.next ≤ i) := by
  have key : Rets (AC A 11 [.ptr jp 0, lv] H) fun v H' => v = .int .i64 (app d j l).2.2 ∧ ∃ vw', D H' p a g vw' (app d j l).1 ∧ J H' jp p a vw' (app d j l).2.1 ∧ Fr (p :: jp :: vw.ids) H H' ∧ (∀ i, i ∈ vw'.ids → i ∈ vw.ids ∨ H.next ≤ i) := by
    rw [s_fn (A := A) (f := 11) (x := DnFns.c11) rfl rfl rfl]
    have u58 := U30 hl (fun i hi => (hid i hi).1) hn
    have ll := hl.alen
    rw [slen_fm ic_len (by decide) hl] at ll
    have u32 := U21 hj hw
    cases c1 : chk l
    · rw [c1] at u58
      have e : app d j l = (d, j, 18) := by unfold app; rw [if_pos c1]
      rw [e]
      rcases sl_shape' hl with rfl | ⟨_, _, _, _, _, rfl⟩ <;>
      · simp only [c11, u58, e_nilp0, Bool.false_eq_true, rwA, rwB, Nat.reduceAdd, Nat.reduceMul, Nat.reduceLeDiff, Int.reduceEq, Int.reduceLT, Int.reduceLE, Int.reduceAdd, Int.reduceSub, Int.reduceMul, ↓reduceIte, Nat.reduceEqDiff, reduceCtorEq, ↓cnd_true, ↓cnd_false]
        rw [rets_some]
        exact ⟨rfl, vw, h, hj, Fr.refl _ _, fun i hi => .inl hi⟩
    rw [c1] at u58
    simp only [if_true] at u58
    have s2 := hw.s2
    have a1 := hw.a1
    cases c2 : decide ((j.size : Int) - (j.at' : Int) ≤ (l.length : Int))
    rotate_left
    · have e : app d j l = (d, j, 14) := by
        unfold app
        rw [if_neg (by rw [c1]; simp), if_pos (by simp at c2; omega)]
      rw [e]
      rcases sl_shape' hl with rfl | ⟨_, _, _, _, _, rfl⟩ <;>
      · simp only [c11, u58, u32, ll, c2, e_nilp0, rwA, rwB, Nat.reduceAdd, Nat.reduceMul, Nat.reduceLeDiff, Int.reduceEq, Int.reduceLT, Int.reduceLE, Int.reduceAdd, Int.reduceSub, Int.reduceMul, ↓reduceIte, Nat.reduceEqDiff, reduceCtorEq, ↓cnd_true, ↓cnd_false]
        rw [rets_some]
        exact ⟨rfl, vw, h, hj, Fr.refl _ _, fun i hi => .inl hi⟩
    have hroom : ¬ j.size - j.at' ≤ l.length := by simp at c2; omega
    have L := fun env h0 h1 h24 h25 h26 => loop11 (env := env) h hj hw (by omega) hl hid (by omega) c1 h0 h1 h24 h25 h26
    simp only [c11, u58, u32, ll, c2, e_nilp0, rwA, rwB, Nat.reduceAdd, Nat.reduceMul, Nat.reduceLeDiff, Int.reduceEq, Int.reduceLT, Int.reduceLE, Int.reduceAdd, Int.reduceSub, Int.reduceMul, ↓reduceIte, Nat.reduceEqDiff, reduceCtorEq, ↓cnd_true, ↓cnd_false]
    repeat (first | refine outs_seq ?_ | refine outs_block ?_ | refine outs_step ?_ | refine outs_stepD ?_ | refine rets_end ?_ | refine ans_end ?_)
    refine (L _ (by simp [Env.set, ainit]) (by simp [Env.set, ainit]) (by simp [Env.set]) (by simp [Env.set]) (by simp [Env.set])).mono ?_
    rintro e env K ⟨d', vw', hD, hF, hv, (⟨rfl, g0, g1, hwl', hE⟩ | ⟨rfl, g4, hne, hd⟩)⟩
    rotate_left
    · have e : app d j l = (d', j, (wseq d (1 + j.at') (secs j l)).2) := by
        unfold app
        rw [if_neg (by rw [c1]; simp), if_neg hroom, if_neg hne, hd]
      rw [e]
      simp only [outs_some, g4, rwA, rwB, Nat.reduceAdd, Nat.reduceMul, Nat.reduceLeDiff, Int.reduceEq, Int.reduceLT, Int.reduceLE, Int.reduceAdd, Int.reduceSub, Int.reduceMul, ↓reduceIte, Nat.reduceEqDiff, reduceCtorEq, ↓cnd_true, ↓cnd_false]
      rw [rets_some]
      exact ⟨rfl, vw', hD, hj.fr hF (by simp; exact ⟨hj.jd.1, hj.jd.2.2⟩) hv, hF.mono (fun i hi => .inl (by simp at hi ⊢; rcases hi with h | h; exact .inl h; exact .inr (.inr h))), hv⟩
    obtain ⟨K1, eK1⟩ : ∃ K1, (K.new (.cells [.int .i64 0, .int .u64 0, .int .u64 0, .int .i64 0, .int .i64 0, .str []] true)).set K.next (.cells [.int .i64 3, .int .u64 0, .int .u64 0, .int .i64 0, .int .i64 (l.length : Int), .str (noughts 480)] true) = K1 := ⟨_, rfl⟩
    have k1 : Keeps K K1 := by rw [← eK1]; exact Keeps.set' (Nat.le_refl _) (Keeps.new' (Keeps.refl _))
    have oN : K1.obj K.next = some (.cells [.int .i64 3, .int .u64 0, .int .u64 0, .int .i64 0, .int .i64 (l.length : Int), .str (noughts 480)] true) := by rw [← eK1, set_obj, if_pos rfl]
    have hJ := hj.fr hF (by simp; exact ⟨hj.jd.1, hj.jd.2.2⟩) hv
    have hJ1 := hJ.fr (L := []) (vw' := vw') (Fr.of k1) (by simp) (fun i hi => .inl hi)
    have okS : (sx j 3 0 (l.length : Int) (noughts 480)).ok = true := by
      unfold Sec.ok Sd.short sx
      simp [noughts]; omega
    obtain ⟨z, hz⟩ : ∃ z, 1 + j.at' + l.length = z := ⟨_, rfl⟩
    rw [hz] at hE
    obtain ⟨K2, vw2, e59, hD2, F2, hv2⟩ := U37 (hD.keeps k1) hJ1 hw (by omega) (show l.length < 1000000 by omega) hz okS 0 0
    have hJ2 := hJ1.fr F2 (by simp; exact ⟨hJ1.jd.1, hJ1.jd.2.2⟩) hv2
    have eb : (sx j 3 0 (l.length : Int) (noughts 480)).bytes = endS j l := rfl
    rw [eb] at e59 hD2
    have hE2 : wseq d (1 + j.at') (secs j l) = if (d'.write (z : Int) (endS j l)).2 = 0 then ((d'.write (z : Int) (endS j l)).1, 0) else d'.write (z : Int) (endS j l) := by
      rw [hE]; rfl
    have xF := hF.1
    have x1 := k1.1
    have FF : Fr (p :: vw.ids) H K2 := (hF.trans (Fr.of (L := []) k1) (by simp)).trans F2 (fun i hi => by
      rcases List.mem_cons.1 hi with rfl | hi
      · exact .inl (by simp)
      · exact (hv i hi).elim (fun h => .inl (by simp [h])) .inr)
    have VV : ∀ i, i ∈ vw2.ids → i ∈ vw.ids ∨ H.next ≤ i := fun i hi => (hv2 i hi).elim (hv i) (fun h => .inr (by omega))
    have F3 : Fr (p :: jp :: vw.ids) H K2 := FF.mono (fun i hi => .inl (by simp at hi ⊢; rcases hi with h | h; exact .inl h; exact .inr (.inr h)))
    have p60 := fun M => U38 [] 480 M
    rw [pad480'] at p60
    cases ce : decide ((d'.write (z : Int) (endS j l)).2 = 0)
    · have ne : (d'.write (z : Int) (endS j l)).2 ≠ 0 := by simpa using ce
      rw [if_neg ne] at hE2
      have e : app d j l = ((d'.write (z : Int) (endS j l)).1, j, (d'.write (z : Int) (endS j l)).2) := by
        unfold app
        rw [if_neg (by rw [c1]; simp), if_neg hroom, hE2, if_neg ne]
      rw [e]
      simp only [outs_some, g0, g1, ll, p60, eK1, oN, e59, ce, rwA, rwB, Nat.reduceAdd, Nat.reduceMul, Nat.reduceLeDiff, Int.reduceEq, Int.reduceLT, Int.reduceLE, Int.reduceAdd, Int.reduceSub, Int.reduceMul, ↓reduceIte, Nat.reduceEqDiff, reduceCtorEq, ↓cnd_true, ↓cnd_false]
      rw [rets_some]
      exact ⟨rfl, vw2, hD2, hJ2, F3, VV⟩
    · have e0 : (d'.write (z : Int) (endS j l)).2 = 0 := by simpa using ce
      rw [if_pos e0] at hE2
      have e : app d j l = ((d'.write (z : Int) (endS j l)).1, { j with at' := j.at' + (l.length + 1), number := j.number + 1 }, 0) := by
        unfold app
        rw [if_neg (by rw [c1]; simp), if_neg hroom, hE2]
        rfl
      rw [e]
      have oj2 := hJ2.oj
      have n1 := hw.n1
      have w1 : IntKind.i64.wrap ((l.length : Int) + 1) = ((l.length + 1 : Nat) : Int) := by rw [wrap_i64]; omega
      have w2 : IntKind.i64.wrap ((j.at' : Int) + ((l.length + 1 : Nat) : Int)) = ((j.at' + (l.length + 1) : Nat) : Int) := by rw [wrap_i64]; omega
      have w3 : IntKind.u64.wrap ((j.number : Int) + 1) = ((j.number + 1 : Nat) : Int) := by rw [wrapU64]; omega
      unfold jc at oj2
      simp only [outs_some, g0, g1, ll, p60, eK1, oN, e59, ce, oj2, w1, w2, w3, AHeap.set_set, rwA, rwB, Nat.reduceAdd, Nat.reduceMul, Nat.reduceLeDiff, Int.reduceEq, Int.reduceLT, Int.reduceLE, Int.reduceAdd, Int.reduceSub, Int.reduceMul, ↓reduceIte, Nat.reduceEqDiff, reduceCtorEq, ↓cnd_true, ↓cnd_false]
      rw [rets_some]
      have kf : Fr [jp] K2 (K2.set jp (.cells (jc p { j with at' := j.at' + (l.length + 1), number := j.number + 1 }) true)) := Fr.set (.inl (by simp)) (Fr.refl _ _)
      refine ⟨rfl, vw2, hD2.fr kf (by simp; exact Ne.symm hJ2.jd.1) (by simp; exact Ne.symm hJ2.jd.2.1) (fun i hi => by simp; rintro rfl; exact hJ2.jd.2.2 hi), ⟨by rw [set_obj, if_pos rfl]; rfl, by rw [set_next]; exact hJ2.jn, hJ2.jd⟩, F3.trans kf (fun i hi => .inl (by simp at hi; simp [hi])), VV⟩
  obtain ⟨v, H', e, rfl, vw', h1, h2, h3, h4⟩ := key
  exact ⟨H', vw', e, h1, h2, h3, h4⟩

end Go.Proofs.YtilhjcnkaelheaaGreat.Dk
end

section
/- Journals told: the scanner. -/
set_option maxRecDepth 100000
set_option linter.unusedSimpArgs false
set_option linter.unusedVariables false
set_option maxHeartbeats 4000000
namespace Go.Proofs.YtilhjcnkaelheaaGreat.Dk
open Go Go.Proofs.YtilhjcnkaelheaaGreat.Am DnFns Go.RowKit
open Sd (Sec noughts home homeno ofHome ofNo opened unfit pad)

theorem DL.fr {L : List Nat} {H H' : AHeap} {p a : Nat} {g : Option Nat} {vw : AVal} {d : DS} (h : DL H p a g vw d) (f : Fr L H H') (hp : p ∉ L) (ha : a ∉ L) (hw : ∀ i, i ∈ vw.ids → i ∉ L) : DL H' p a g vw d :=
  ⟨by obtain ⟨o, ho⟩ := h.op; exact ⟨o, by rw [f.2 _ h.pn hp]; exact ho⟩, by obtain ⟨o, ho⟩ := h.oa; exact ⟨o, by rw [f.2 _ h.an ha]; exact ho⟩, h.sw.fr f (fun i hi => ⟨h.wn i hi, hw i hi⟩), Nat.lt_of_lt_of_le h.pn f.1, Nat.lt_of_lt_of_le h.an f.1, fun i hi => Nat.lt_of_lt_of_le (h.wn i hi) f.1⟩

def sc (p size ep at' : Nat) : List AVal := [.ptr p 0, .int .i64 (size : Int), .int .u64 (ep : Int), .int .i64 (at' : Int)]
structure NX where
  l : List Im
  no : Int
  at' : Nat
def isof (ep num n : Nat) (b : List UInt8) : Nat :=
  if unfit b ≠ 0 ∨ (opened b).epoch ≠ ep ∨ (opened b).number ≠ num then 0
  else if ((opened b).kind = 2 ∧ (opened b).many = (n : Int)) ∧ pgok (opened b).at' = true then 1
  else if (((opened b).kind = 3 ∧ (opened b).many = (n : Int)) ∧ (opened b).at' = 0) ∧ (opened b).page.all (· == 0) = true then 2 else 0
def nx (d : DS) (ep num size at0 : Nat) : Nat → Nat → List Im → NX
  | 0, _, _ => ⟨[], 0, at0⟩
  | fuel + 1, i, out =>
    if i < size then
      if (d.read ((1 + i : Nat) : Int)).2 ≠ 0 then ⟨[], (d.read ((1 + i : Nat) : Int)).2, at0⟩
      else if isof ep num out.length (d.read ((1 + i : Nat) : Int)).1 = 1 then nx d ep num size at0 fuel (i + 1) (out ++ [⟨(opened (d.read ((1 + i : Nat) : Int)).1).at', (opened (d.read ((1 + i : Nat) : Int)).1).page⟩])
      else if isof ep num out.length (d.read ((1 + i : Nat) : Int)).1 = 2 then ⟨out, 0, i + 1⟩
      else ⟨[], 0, at0⟩
    else ⟨[], 0, at0⟩

def b51 : ACode := (.seq (.seq (.region [⟨(some 16), (.mv (.tmp 7)), none, none⟩, ⟨(some 17), (.mv (.tmp 0)), none, none⟩, ⟨(some 18), (.nilck (.tmp 17)), none, none⟩, ⟨(some 19), (.fieldA 1 (.tmp 18)), none, none⟩, ⟨(some 20), (.load false 1 (.tmp 19)), none, none⟩, ⟨(some 21), (.bin .lss (.tmp 16) (.tmp 20)), none, none⟩]) (.cond (.tmp 21) .skip (.exit 0))) (.seq (.block 1 (.seq (.region [⟨(some 25), (.mv (.tmp 0)), none, none⟩, ⟨(some 26), (.nilck (.tmp 25)), none, none⟩, ⟨(some 27), (.fieldA 0 (.tmp 26)), none, none⟩, ⟨(some 28), (.load false 1 (.tmp 27)), none, none⟩, ⟨(some 29), (.mv (.tmp 7)), none, none⟩, ⟨(some 30), (.bin .add (.con (.int .i64 1)) (.tmp 29)), none, none⟩, ⟨(some 31), (.call (.con (.func 59 [] [])) [(.tmp 28), (.tmp 30)]), none, none⟩, ⟨(some 24), (.mv (.tmp 31)), none, none⟩, ⟨(some 32), (.extract (.tmp 24) 0), none, none⟩, ⟨(some 33), (.extract (.tmp 24) 1), none, none⟩, ⟨(some 8), (.mv (.tmp 32)), none, none⟩, ⟨(some 9), (.mv (.tmp 33)), none, none⟩]) (.seq (.seq (.region [⟨(some 34), (.mv (.tmp 9)), none, none⟩, ⟨(some 35), (.bin .neq (.tmp 34) (.con (.int .i64 0))), none, none⟩]) (.cond (.tmp 35) (.seq (.region [⟨(some 36), (.mv (.tmp 9)), none, none⟩, ⟨(some 4), (.mv (.con .nils)), none, none⟩, ⟨(some 5), (.mv (.tmp 36)), none, none⟩]) .ret) .skip)) (.seq (.region [⟨(some 38), (.mv (.tmp 8)), none, none⟩, ⟨(some 39), (.call (.con (.func 60 [] [])) [(.tmp 38)]), none, none⟩, ⟨(some 37), (.mv (.tmp 39)), none, none⟩, ⟨(some 40), (.extract (.tmp 37) 0), none, none⟩, ⟨(some 41), (.extract (.tmp 37) 1), none, none⟩, ⟨(some 10), (.new [(.int .i64 0), (.int .u64 0), (.int .u64 0), (.int .i64 0), (.int .i64 0), (.str [])]), none, none⟩, ⟨none, (.store 6 (.tmp 10) (.tmp 40)), none, none⟩, ⟨(some 11), (.mv (.tmp 41)), none, none⟩]) (.block 2 (.seq (.draw [⟨(some 43), (.mv (.tmp 11)), none, none⟩, ⟨(some 44), (.bin .neq (.tmp 43) (.con (.int .i64 0))), none, none⟩, ⟨(some 45), (.mv (.tmp 44)), none, none⟩, ⟨(some 46), (.fieldA 1 (.tmp 10)), (some (45, false)), none⟩, ⟨(some 47), (.load false 1 (.tmp 46)), (some (45, false)), none⟩, ⟨(some 48), (.mv (.tmp 0)), (some (45, false)), none⟩, ⟨(some 49), (.nilck (.tmp 48)), (some (45, false)), none⟩, ⟨(some 50), (.fieldA 2 (.tmp 49)), (some (45, false)), none⟩, ⟨(some 51), (.load false 1 (.tmp 50)), (some (45, false)), none⟩, ⟨(some 52), (.bin .neq (.tmp 47) (.tmp 51)), (some (45, false)), none⟩, ⟨(some 53), (.pick (.tmp 45) (.con (.bool true)) (.tmp 52)), none, none⟩, ⟨(some 54), (.mv (.tmp 53)), none, none⟩, ⟨(some 55), (.fieldA 2 (.tmp 10)), (some (54, false)), none⟩, ⟨(some 56), (.load false 1 (.tmp 55)), (some (54, false)), none⟩, ⟨(some 57), (.mv (.tmp 1)), (some (54, false)), none⟩, ⟨(some 58), (.bin .neq (.tmp 56) (.tmp 57)), (some (54, false)), none⟩, ⟨(some 59), (.pick (.tmp 54) (.con (.bool true)) (.tmp 58)), none, none⟩, ⟨(some 42), (.mv (.tmp 59)), none, none⟩]) (.cond (.tmp 42) (.seq (.region [⟨(some 4), (.mv (.con .nils)), none, none⟩, ⟨(some 5), (.mv (.con (.int .i64 0))), none, none⟩]) .ret) (.seq (.region [⟨(some 61), (.fieldA 0 (.tmp 10)), none, none⟩, ⟨(some 62), (.load false 1 (.tmp 61)), none, none⟩, ⟨(some 63), (.bin .eql (.tmp 62) (.con (.int .i64 2))), none, none⟩, ⟨(some 64), (.mv (.tmp 63)), none, none⟩, ⟨(some 65), (.fieldA 4 (.tmp 10)), (some (64, true)), none⟩, ⟨(some 66), (.load false 1 (.tmp 65)), (some (64, true)), none⟩, ⟨(some 67), (.mv (.tmp 6)), (some (64, true)), none⟩, ⟨(some 68), (.len false (.tmp 67)), (some (64, true)), none⟩, ⟨(some 69), (.bin .eql (.tmp 66) (.tmp 68)), (some (64, true)), none⟩, ⟨(some 70), (.pick (.tmp 64) (.tmp 69) (.con (.bool false))), none, none⟩, ⟨(some 71), (.mv (.tmp 70)), none, none⟩, ⟨(some 72), (.fieldA 3 (.tmp 10)), (some (71, true)), none⟩, ⟨(some 73), (.load false 1 (.tmp 72)), (some (71, true)), none⟩, ⟨(some 74), (.call (.con (.func 52 [] [])) [(.tmp 73)]), (some (71, true)), none⟩, ⟨(some 75), (.pick (.tmp 71) (.tmp 74) (.con (.bool false))), none, none⟩, ⟨(some 60), (.mv (.tmp 75)), none, none⟩]) (.cond (.tmp 60) (.region [⟨(some 76), (.mv (.tmp 6)), none, none⟩, ⟨(some 77), (.fieldA 3 (.tmp 10)), none, none⟩, ⟨(some 78), (.load false 1 (.tmp 77)), none, none⟩, ⟨(some 79), (.fieldA 5 (.tmp 10)), none, none⟩, ⟨(some 80), (.load false 1 (.tmp 79)), none, none⟩, ⟨(some 81), (.build [(.int .i64 0), (.str [])] [(0, (1, (.tmp 78))), (1, (1, (.tmp 80)))]), none, none⟩, ⟨(some 82), (.buildS 1 [(.int .i64 0), (.str [])] [(0, (2, (.tmp 81)))]), none, none⟩, ⟨(some 83), (.append 2 24 (.tmp 76) (.tmp 82)), none, none⟩, ⟨(some 6), (.mv (.tmp 83)), none, none⟩]) (.seq (.region [⟨(some 85), (.fieldA 0 (.tmp 10)), none, none⟩, ⟨(some 86), (.load false 1 (.tmp 85)), none, none⟩, ⟨(some 87), (.bin .eql (.tmp 86) (.con (.int .i64 3))), none, none⟩, ⟨(some 88), (.mv (.tmp 87)), none, none⟩, ⟨(some 89), (.fieldA 4 (.tmp 10)), (some (88, true)), none⟩, ⟨(some 90), (.load false 1 (.tmp 89)), (some (88, true)), none⟩, ⟨(some 91), (.mv (.tmp 6)), (some (88, true)), none⟩, ⟨(some 92), (.len false (.tmp 91)), (some (88, true)), none⟩, ⟨(some 93), (.bin .eql (.tmp 90) (.tmp 92)), (some (88, true)), none⟩, ⟨(some 94), (.pick (.tmp 88) (.tmp 93) (.con (.bool false))), none, none⟩, ⟨(some 95), (.mv (.tmp 94)), none, none⟩, ⟨(some 96), (.fieldA 3 (.tmp 10)), (some (95, true)), none⟩, ⟨(some 97), (.load false 1 (.tmp 96)), (some (95, true)), none⟩, ⟨(some 98), (.bin .eql (.tmp 97) (.con (.int .i64 0))), (some (95, true)), none⟩, ⟨(some 99), (.pick (.tmp 95) (.tmp 98) (.con (.bool false))), none, none⟩, ⟨(some 100), (.mv (.tmp 99)), none, none⟩, ⟨(some 101), (.fieldA 5 (.tmp 10)), (some (100, true)), none⟩, ⟨(some 102), (.load false 1 (.tmp 101)), (some (100, true)), none⟩, ⟨(some 103), (.call (.con (.func 61 [] [])) [(.tmp 102)]), (some (100, true)), none⟩, ⟨(some 104), (.pick (.tmp 100) (.tmp 103) (.con (.bool false))), none, none⟩, ⟨(some 84), (.mv (.tmp 104)), none, none⟩]) (.cond (.tmp 84) (.seq (.region [⟨(some 105), (.mv (.tmp 0)), none, none⟩, ⟨(some 106), (.mv (.tmp 7)), none, none⟩, ⟨(some 107), (.bin .add (.tmp 106) (.con (.int .i64 1))), none, none⟩, ⟨(some 108), (.nilck (.tmp 105)), none, none⟩, ⟨(some 109), (.fieldA 3 (.tmp 108)), none, none⟩, ⟨none, (.store 1 (.tmp 109) (.tmp 107)), none, none⟩]) (.seq (.region [⟨(some 110), (.mv (.tmp 6)), none, none⟩, ⟨(some 4), (.mv (.tmp 110)), none, none⟩, ⟨(some 5), (.mv (.con (.int .i64 0))), none, none⟩]) .ret)) (.seq (.region [⟨(some 4), (.mv (.con .nils)), none, none⟩, ⟨(some 5), (.mv (.con (.int .i64 0))), none, none⟩]) .ret)))))))))))) (.region [⟨(some 22), (.mv (.tmp 7)), none, none⟩, ⟨(some 23), (.bin .add (.tmp 22) (.con (.int .i64 1))), none, none⟩, ⟨(some 7), (.mv (.tmp 23)), none, none⟩])))
theorem loop51 {H : AHeap} {p a : Nat} {g : Option Nat} {vw : AVal} {d : DS} (h : DL H p a g vw d) (hw : d.w.length < 1000000) {sp size ep num at0 : Nat} (ho : H.obj sp = some (.cells (sc p size ep at0) true)) (hsn : sp < H.next) (hs : size ≤ 1024) (ha : at0 ≤ size) {env : Env}
    (h0 : env 0 = .ptr sp 0) (h1 : env 1 = .int .u64 (num : Int)) (h6 : env 6 = .nils) (h7 : env 7 = .int .i64 (at0 : Int)) :
    Outs (AX A (.loop b51) env H) fun e env' K => Fr [sp] H K ∧ K.obj sp = some (.cells (sc p size ep (nx d ep num size at0 1025 at0 []).at') true) ∧
      ((e = .exit 0 ∧ (nx d ep num size at0 1025 at0 []).l = [] ∧ (nx d ep num size at0 1025 at0 []).no = 0) ∨
       (e = .ret ∧ ∃ v, env' 4 = v ∧ env' 5 = .int .i64 (nx d ep num size at0 1025 at0 []).no ∧ Gr K 2 v ((nx d ep num size at0 1025 at0 []).l.flatMap ic) ∧ ∀ i, i ∈ v.ids → H.next ≤ i)) := by
  obtain ⟨R, hR⟩ : ∃ R, nx d ep num size at0 1025 at0 [] = R := ⟨_, rfl⟩
  rw [hR]
  refine loop_ends (I := fun (i : Nat) env' K => i ≤ size ∧ env' 0 = .ptr sp 0 ∧ env' 1 = .int .u64 (num : Int) ∧ env' 7 = .int .i64 (i : Int) ∧ Keeps H K ∧ ∃ v out, env' 6 = v ∧ Gr K 2 v (out.flatMap ic) ∧ (∀ i, i ∈ v.ids → H.next ≤ i) ∧ out.length ≤ 1024 ∧ out.length + at0 = i ∧ nx d ep num size at0 (1025 - out.length) i out = R) (fun i => size - i) ?_ at0 env H
    ⟨ha, h0, h1, h7, Keeps.refl _, .nils, [], h6, Gr.nil _ _, by simp [AVal.ids], by simp, by simp, hR⟩
  rintro i env1 K ⟨hi, h0, h1, h7, hK, v, out, h6, hg, hgi, hol, hoi, hE⟩
  have oK : K.obj sp = some (.cells [.ptr p 0, .int .i64 (size : Int), .int .u64 (ep : Int), .int .i64 (at0 : Int)] true) := by rw [hK.2 _ hsn]; exact ho
  obtain ⟨fu, efu⟩ : ∃ fu, 1025 - out.length = fu + 1 := ⟨1024 - out.length, by omega⟩
  rw [efu] at hE
  unfold nx at hE
  by_cases c : i < size
  · rw [if_pos c] at hE
    obtain ⟨z, hz⟩ : ∃ z, 1 + i = z := ⟨_, rfl⟩
    rw [hz] at hE
    have c0 : decide ((i : Int) < (size : Int)) = true := by simp; omega
    have w1 : IntKind.i64.wrap ((i : Int) + 1) = ((i + 1 : Nat) : Int) := by rw [wrap_i64]; omega
    have w2 : IntKind.i64.wrap (1 + (i : Int)) = (z : Int) := by rw [wrap_i64]; omega
    have u18 := U59 (h.keeps hK) hw (z : Int)
    obtain ⟨b, eb⟩ : ∃ b, (d.read (z : Int)).1 = b := ⟨_, rfl⟩
    obtain ⟨r, er⟩ : ∃ r, (d.read (z : Int)).2 = r := ⟨_, rfl⟩
    rw [eb, er] at u18
    rw [eb, er] at hE
    have nil : ∀ {X : NX}, (⟨[], 0, at0⟩ : NX) = X → X.l = [] ∧ X.no = 0 ∧ X.at' = at0 := by rintro _ rfl; exact ⟨rfl, rfl, rfl⟩
    cases cr : decide (r = 0)
    · have hr : r ≠ 0 := by simpa using cr
      rw [if_pos hr] at hE
      simp only [b51, h0, h1, h6, h7, oK, c0, w2, u18, cr, rwA, rwB, Nat.reduceAdd, Nat.reduceMul, Nat.reduceLeDiff, Int.reduceEq, Int.reduceLT, Int.reduceLE, Int.reduceAdd, Int.reduceSub, Int.reduceMul, ↓reduceIte, Nat.reduceEqDiff, reduceCtorEq, ↓cnd_true, ↓cnd_false]
      rw [outs_some, ← hE]
      exact .inr ⟨by simp, Fr.of hK, oK, .inr ⟨rfl, .nils, by simp [Env.set], by simp [Env.set], Gr.nil _ _, by simp [AVal.ids]⟩⟩
    · have hr : r = 0 := by simpa using cr
      rw [if_neg (by simpa using hr)] at hE
      have u64 := fun M => U60 b M
      obtain ⟨x, ex⟩ : ∃ x, opened b = x := ⟨_, rfl⟩
      rw [ex] at u64 hE
      obtain ⟨q, hq⟩ : ∃ q, isof ep num out.length b = q := ⟨_, rfl⟩
      rw [hq] at hE
      unfold isof at hq
      rw [ex] at hq
      obtain ⟨K1, eK1⟩ : ∃ K1, (K.new (.cells [.int .i64 0, .int .u64 0, .int .u64 0, .int .i64 0, .int .i64 0, .str []] true)).set K.next (.cells [.int .i64 x.kind, .int .u64 (x.epoch : Int), .int .u64 (x.number : Int), .int .i64 x.at', .int .i64 x.many, .str x.page] true) = K1 := ⟨_, rfl⟩
      have k1 : Keeps K K1 := by rw [← eK1]; exact Keeps.set' (Nat.le_refl _) (Keeps.new' (Keeps.refl _))
      have oN : K1.obj K.next = some (.cells [.int .i64 x.kind, .int .u64 (x.epoch : Int), .int .u64 (x.number : Int), .int .i64 x.at', .int .i64 x.many, .str x.page] true) := by rw [← eK1, set_obj, if_pos rfl]
      have o1 : K1.obj sp = some (.cells [.ptr p 0, .int .i64 (size : Int), .int .u64 (ep : Int), .int .i64 (at0 : Int)] true) := by rw [k1.2 _ (Nat.lt_of_lt_of_le hsn hK.1)]; exact oK
      have n1 : K1.next = K.next + 1 := by rw [← eK1, set_next, new_next]
      have g1 := hg.fr (L := []) (Fr.of k1) (by simp)
      have ll := g1.sl.alen
      have sl : slen v = out.length := slen_fm ic_len (by decide) g1.sl
      rw [sl] at ll
      have kk := hK.trans k1
      have fin : ∀ (env' : Env), env' 4 = .nils → env' 5 = .int .i64 0 → (⟨[], 0, at0⟩ : NX) = R → Fr [sp] H K1 ∧ K1.obj sp = some (.cells (sc p size ep R.at') true) ∧
          ((AExit.ret = .exit 0 ∧ R.l = [] ∧ R.no = 0) ∨
          (AExit.ret = .ret ∧ ∃ v, env' 4 = v ∧ env' 5 = .int .i64 R.no ∧ Gr K1 2 v (R.l.flatMap ic) ∧ ∀ i, i ∈ v.ids → H.next ≤ i)) := by
        intro env' e4 e5 e
        rw [← e]
        exact ⟨Fr.of kk, o1, .inr ⟨rfl, .nils, e4, e5, Gr.nil _ _, by simp [AVal.ids]⟩⟩
      have u70 := U52 x.at'
      have u62 := U61 x.page
      unfold Sec.cells at u64
      cases c1 : decide (unfit b = 0)
      · rw [if_pos (.inl (by simpa using c1))] at hq
        rw [← hq, if_neg (by decide), if_neg (by decide)] at hE
        simp only [b51, h0, h1, h6, h7, oK, c0, w2, u18, cr, u64, eK1, oN, o1, c1, rwA, rwB, Nat.reduceAdd, Nat.reduceMul, Nat.reduceLeDiff, Int.reduceEq, Int.reduceLT, Int.reduceLE, Int.reduceAdd, Int.reduceSub, Int.reduceMul, ↓reduceIte, Nat.reduceEqDiff, reduceCtorEq, ↓cnd_true, ↓cnd_false]
        rw [outs_some]
        exact .inr ⟨by simp, fin _ (by simp [Env.set]) (by simp [Env.set]) hE⟩
      cases c2 : decide ((x.epoch : Int) = (ep : Int))
      · rw [if_pos (.inr (.inl (by intro hx; rw [hx] at c2; simp at c2)))] at hq
        rw [← hq, if_neg (by decide), if_neg (by decide)] at hE
        simp only [b51, h0, h1, h6, h7, oK, c0, w2, u18, cr, u64, eK1, oN, o1, c1, c2, rwA, rwB, Nat.reduceAdd, Nat.reduceMul, Nat.reduceLeDiff, Int.reduceEq, Int.reduceLT, Int.reduceLE, Int.reduceAdd, Int.reduceSub, Int.reduceMul, ↓reduceIte, Nat.reduceEqDiff, reduceCtorEq, ↓cnd_true, ↓cnd_false]
        rw [outs_some]
        exact .inr ⟨by simp, fin _ (by simp [Env.set]) (by simp [Env.set]) hE⟩
      cases c3 : decide ((x.number : Int) = (num : Int))
      · rw [if_pos (.inr (.inr (by intro hx; rw [hx] at c3; simp at c3)))] at hq
        rw [← hq, if_neg (by decide), if_neg (by decide)] at hE
        simp only [b51, h0, h1, h6, h7, oK, c0, w2, u18, cr, u64, eK1, oN, o1, c1, c2, c3, rwA, rwB, Nat.reduceAdd, Nat.reduceMul, Nat.reduceLeDiff, Int.reduceEq, Int.reduceLT, Int.reduceLE, Int.reduceAdd, Int.reduceSub, Int.reduceMul, ↓reduceIte, Nat.reduceEqDiff, reduceCtorEq, ↓cnd_true, ↓cnd_false]
        rw [outs_some]
        exact .inr ⟨by simp, fin _ (by simp [Env.set]) (by simp [Env.set]) hE⟩
      have d1 : unfit b = 0 := by simpa using c1
      have d2 : x.epoch = ep := by have := of_decide_eq_true c2; omega
      have d3 : x.number = num := by have := of_decide_eq_true c3; omega
      rw [if_neg (by simp [d1, d2, d3])] at hq
      by_cases i2 : ((x.kind = 2 ∧ x.many = (out.length : Int)) ∧ pgok x.at' = true)
      · obtain ⟨⟨k2, m2⟩, p2⟩ := i2
        rw [if_pos ⟨⟨k2, m2⟩, p2⟩] at hq
        rw [← hq, if_pos rfl] at hE
        have c4 : decide (x.kind = 2) = true := decide_eq_true k2
        have c5 : decide (x.many = (out.length : Int)) = true := decide_eq_true m2
        rw [p2] at u70
        obtain ⟨v2, K2, e2, g2, i2, f2, s2, a2, ea2⟩ := g1.push (by' := 24) (by decide) (x := ic ⟨x.at', x.page⟩) rfl (by rw [sl]; omega)
        have x2 := f2.1
        have xk := kk.1
        have kf : Keeps H K2 := ⟨by omega, fun i hi => by rw [f2.2 i (by omega) (fun hx => by have := hgi i hx; omega), kk.2 i hi]⟩
        rw [ea2] at e2
        unfold ic at e2
        simp only [b51, h0, h1, h6, h7, oK, c0, w2, u18, cr, u64, eK1, oN, o1, c1, c2, c3, c4, c5, ll, u70, e2, w1, rwA, rwB, Nat.reduceAdd, Nat.reduceMul, Nat.reduceLeDiff, Int.reduceEq, Int.reduceLT, Int.reduceLE, Int.reduceAdd, Int.reduceSub, Int.reduceMul, ↓reduceIte, Nat.reduceEqDiff, reduceCtorEq, ↓cnd_true, ↓cnd_false]
        rw [outs_some]
        refine .inl ⟨rfl, i + 1, by omega, by omega, by simp [Env.set, h0], by simp [Env.set, h1], by simp [Env.set], kf, v2, out ++ [⟨x.at', x.page⟩], by rw [ea2]; simp [Env.set], by simpa using g2, fun i hi => by have := i2 i hi; omega, by simp; omega, by simp; omega, ?_⟩
        rw [← hE]
        congr 1
        simp; omega
      · rw [if_neg i2] at hq
        by_cases i3 : (((x.kind = 3 ∧ x.many = (out.length : Int)) ∧ x.at' = 0) ∧ x.page.all (· == 0) = true)
        · obtain ⟨⟨⟨k3, m3⟩, a3⟩, p3⟩ := i3
          rw [if_pos ⟨⟨⟨k3, m3⟩, a3⟩, p3⟩] at hq
          rw [← hq, if_neg (by decide), if_pos rfl] at hE
          have c4 : decide (x.kind = 2) = false := decide_eq_false (by omega)
          have c5 : decide (x.many = (out.length : Int)) = true := decide_eq_true m3
          have c6 : decide (x.kind = 3) = true := decide_eq_true k3
          have c7 : decide (x.at' = 0) = true := decide_eq_true a3
          rw [p3] at u62
          simp only [b51, h0, h1, h6, h7, oK, c0, w2, u18, cr, u64, eK1, oN, o1, c1, c2, c3, c4, c5, c6, c7, ll, u62, w1, rwA, rwB, Nat.reduceAdd, Nat.reduceMul, Nat.reduceLeDiff, Int.reduceEq, Int.reduceLT, Int.reduceLE, Int.reduceAdd, Int.reduceSub, Int.reduceMul, ↓reduceIte, Nat.reduceEqDiff, reduceCtorEq, ↓cnd_true, ↓cnd_false]
          rw [outs_some, ← hE]
          have kf : Fr [sp] K1 (K1.set sp (.cells (sc p size ep (i + 1)) true)) := Fr.set (.inl (by simp)) (Fr.refl _ _)
          refine .inr ⟨by simp, (Fr.of kk).trans kf (fun i hi => .inl hi), by rw [set_obj, if_pos rfl]; rfl, .inr ⟨rfl, v, by simp [Env.set], by simp [Env.set], ?_, hgi⟩⟩
          exact g1.fr kf (fun i hi => by simp; rintro rfl; have := hgi _ hi; omega)
        · rw [if_neg i3] at hq
          rw [← hq, if_neg (by decide), if_neg (by decide)] at hE
          cases c4 : decide (x.kind = 2)
          · cases c6 : decide (x.kind = 3)
            · simp only [b51, h0, h1, h6, h7, oK, c0, w2, u18, cr, u64, eK1, oN, o1, c1, c2, c3, c4, c6, ll, rwA, rwB, Nat.reduceAdd, Nat.reduceMul, Nat.reduceLeDiff, Int.reduceEq, Int.reduceLT, Int.reduceLE, Int.reduceAdd, Int.reduceSub, Int.reduceMul, ↓reduceIte, Nat.reduceEqDiff, reduceCtorEq, ↓cnd_true, ↓cnd_false]
              rw [outs_some]
              exact .inr ⟨by simp, fin _ (by simp [Env.set]) (by simp [Env.set]) hE⟩
            cases c5 : decide (x.many = (out.length : Int))
            · simp only [b51, h0, h1, h6, h7, oK, c0, w2, u18, cr, u64, eK1, oN, o1, c1, c2, c3, c4, c5, c6, ll, rwA, rwB, Nat.reduceAdd, Nat.reduceMul, Nat.reduceLeDiff, Int.reduceEq, Int.reduceLT, Int.reduceLE, Int.reduceAdd, Int.reduceSub, Int.reduceMul, ↓reduceIte, Nat.reduceEqDiff, reduceCtorEq, ↓cnd_true, ↓cnd_false]
              rw [outs_some]
              exact .inr ⟨by simp, fin _ (by simp [Env.set]) (by simp [Env.set]) hE⟩
            cases c7 : decide (x.at' = 0)
            · simp only [b51, h0, h1, h6, h7, oK, c0, w2, u18, cr, u64, eK1, oN, o1, c1, c2, c3, c4, c5, c6, c7, ll, rwA, rwB, Nat.reduceAdd, Nat.reduceMul, Nat.reduceLeDiff, Int.reduceEq, Int.reduceLT, Int.reduceLE, Int.reduceAdd, Int.reduceSub, Int.reduceMul, ↓reduceIte, Nat.reduceEqDiff, reduceCtorEq, ↓cnd_true, ↓cnd_false]
              rw [outs_some]
              exact .inr ⟨by simp, fin _ (by simp [Env.set]) (by simp [Env.set]) hE⟩
            have p3 : x.page.all (· == 0) = false := by
              cases hx : x.page.all (· == 0)
              · rfl
              · exact absurd ⟨⟨⟨of_decide_eq_true c6, of_decide_eq_true c5⟩, of_decide_eq_true c7⟩, hx⟩ i3
            rw [p3] at u62
            simp only [b51, h0, h1, h6, h7, oK, c0, w2, u18, cr, u64, eK1, oN, o1, c1, c2, c3, c4, c5, c6, c7, ll, u62, rwA, rwB, Nat.reduceAdd, Nat.reduceMul, Nat.reduceLeDiff, Int.reduceEq, Int.reduceLT, Int.reduceLE, Int.reduceAdd, Int.reduceSub, Int.reduceMul, ↓reduceIte, Nat.reduceEqDiff, reduceCtorEq, ↓cnd_true, ↓cnd_false]
            rw [outs_some]
            exact .inr ⟨by simp, fin _ (by simp [Env.set]) (by simp [Env.set]) hE⟩
          · have c6 : decide (x.kind = 3) = false := decide_eq_false (by have := of_decide_eq_true c4; omega)
            cases c5 : decide (x.many = (out.length : Int))
            · simp only [b51, h0, h1, h6, h7, oK, c0, w2, u18, cr, u64, eK1, oN, o1, c1, c2, c3, c4, c5, c6, ll, rwA, rwB, Nat.reduceAdd, Nat.reduceMul, Nat.reduceLeDiff, Int.reduceEq, Int.reduceLT, Int.reduceLE, Int.reduceAdd, Int.reduceSub, Int.reduceMul, ↓reduceIte, Nat.reduceEqDiff, reduceCtorEq, ↓cnd_true, ↓cnd_false]
              rw [outs_some]
              exact .inr ⟨by simp, fin _ (by simp [Env.set]) (by simp [Env.set]) hE⟩
            have p2 : pgok x.at' = false := by
              cases hx : pgok x.at'
              · rfl
              · exact absurd ⟨⟨of_decide_eq_true c4, of_decide_eq_true c5⟩, hx⟩ i2
            rw [p2] at u70
            simp only [b51, h0, h1, h6, h7, oK, c0, w2, u18, cr, u64, eK1, oN, o1, c1, c2, c3, c4, c5, c6, ll, u70, rwA, rwB, Nat.reduceAdd, Nat.reduceMul, Nat.reduceLeDiff, Int.reduceEq, Int.reduceLT, Int.reduceLE, Int.reduceAdd, Int.reduceSub, Int.reduceMul, ↓reduceIte, Nat.reduceEqDiff, reduceCtorEq, ↓cnd_true, ↓cnd_false]
            rw [outs_some]
            exact .inr ⟨by simp, fin _ (by simp [Env.set]) (by simp [Env.set]) hE⟩
  · rw [if_neg c] at hE
    have c0 : decide ((i : Int) < (size : Int)) = false := by simp; omega
    simp only [b51, h0, h7, oK, c0, rwA, rwB, Nat.reduceAdd, Nat.reduceMul, Nat.reduceLeDiff, Int.reduceEq, Int.reduceLT, Int.reduceLE, Int.reduceAdd, Int.reduceSub, Int.reduceMul, ↓reduceIte, Nat.reduceEqDiff, reduceCtorEq, ↓cnd_true, ↓cnd_false]
    rw [outs_some, ← hE]
    exact .inr ⟨by simp, Fr.of hK, oK, .inl ⟨rfl, rfl, rfl⟩⟩

theorem U51 {H : AHeap} {p a : Nat} {g : Option Nat} {vw : AVal} {d : DS} (h : DL H p a g vw d) (hw : d.w.length < 1000000) {sp size ep at0 : Nat} (ho : H.obj sp = some (.cells (sc p size ep at0) true)) (hsn : sp < H.next) (hs : size ≤ 1024) (ha : at0 ≤ size) (num : Nat) :
    ∃ v H', AC A 51 [.ptr sp 0, .int .u64 (num : Int)] H = some (.tuple [v, .int .i64 (nx d ep num size at0 1025 at0 []).no], H') ∧ Fr [sp] H H' ∧ H'.obj sp = some (.cells (sc p size ep (nx d ep num size at0 1025 at0 []).at') true) ∧
      Gr H' 2 v ((nx d ep num size at0 1025 at0 []).l.flatMap ic) ∧ ∀ i, i ∈ v.ids → H.next ≤ i := by
  have key : Rets (AC A 51 [.ptr sp 0, .int .u64 (num : Int)] H) fun u H' => ∃ v, u = .tuple [v, .int .i64 (nx d ep num size at0 1025 at0 []).no] ∧ Fr [sp] H H' ∧ H'.obj sp = some (.cells (sc p size ep (nx d ep num size at0 1025 at0 []).at') true) ∧
      Gr H' 2 v ((nx d ep num size at0 1025 at0 []).l.flatMap ic) ∧ ∀ i, i ∈ v.ids → H.next ≤ i := by
    rw [s_fn (A := A) (f := 51) (x := DnFns.c51) rfl rfl rfl]
    have oj := ho
    unfold sc at oj
    simp only [c51, oj, rwA, rwB, Nat.reduceAdd, Nat.reduceMul, Nat.reduceLeDiff, Int.reduceEq, Int.reduceLT, Int.reduceLE, Int.reduceAdd, Int.reduceSub, Int.reduceMul, ↓reduceIte, Nat.reduceEqDiff, reduceCtorEq, ↓cnd_true, ↓cnd_false]
    repeat (first | refine outs_seq ?_ | refine outs_block ?_ | refine outs_step ?_ | refine outs_stepD ?_ | refine rets_end ?_ | refine ans_end ?_)
    refine (loop51 h hw (num := num) ho hsn hs ha ?_ ?_ ?_ ?_).mono ?_
    · simp [Env.set, ainit]
    · simp [Env.set, ainit]
    · simp [Env.set]
    · simp [Env.set]
    rintro e env K ⟨hF, hO, (⟨rfl, hl, hno⟩ | ⟨rfl, v, h4, h5, hg, hgi⟩)⟩
    · simp only [outs_some, rwA, rwB, Nat.reduceAdd, Nat.reduceMul, Nat.reduceLeDiff, Int.reduceEq, Int.reduceLT, Int.reduceLE, Int.reduceAdd, Int.reduceSub, Int.reduceMul, ↓reduceIte, Nat.reduceEqDiff, reduceCtorEq, ↓cnd_true, ↓cnd_false]
      rw [rets_some]
      exact ⟨.nils, by rw [hno], hF, hO, by rw [hl]; exact Gr.nil _ _, by simp [AVal.ids]⟩
    · rcases hg.shape with e | ⟨_, _, _, e⟩
      all_goals
        rw [e] at h4
        simp only [outs_some, h4, h5, rwA, rwB, Nat.reduceAdd, Nat.reduceMul, Nat.reduceLeDiff, Int.reduceEq, Int.reduceLT, Int.reduceLE, Int.reduceAdd, Int.reduceSub, Int.reduceMul, ↓reduceIte, Nat.reduceEqDiff, reduceCtorEq, ↓cnd_true, ↓cnd_false]
        rw [rets_some]
        exact ⟨_, rfl, hF, hO, e ▸ hg, e ▸ hgi⟩
  obtain ⟨u, H', e, v, rfl, h1, h2, h3, h4⟩ := key
  exact ⟨v, H', e, h1, h2, h3, h4⟩

end Go.Proofs.YtilhjcnkaelheaaGreat.Dk
end

section
/- Journals told: lists of lists; Scan. -/
set_option maxRecDepth 100000
set_option linter.unusedSimpArgs false
set_option linter.unusedVariables false
set_option maxHeartbeats 4000000
namespace Go.Proofs.YtilhjcnkaelheaaGreat.Dk
open Go Go.Proofs.YtilhjcnkaelheaaGreat.Am DnFns Go.RowKit
open Sd (Sec noughts home homeno ofHome ofNo opened unfit pad)

structure LL (K : AHeap) (pl : List (AVal × List Im)) : Prop where
  s : ∀ x, x ∈ pl → Sl K 2 x.1 (x.2.flatMap ic)
  lt : ∀ x, x ∈ pl → ∀ j, j ∈ x.1.ids → j < K.next
theorem LL.fr {L : List Nat} {K K' : AHeap} {pl : List (AVal × List Im)} (h : LL K pl) (f : Fr L K K') (hL : ∀ x, x ∈ pl → ∀ j, j ∈ x.1.ids → j ∉ L) : LL K' pl :=
  ⟨fun x hx => (h.s x hx).fr f (fun j hj => ⟨h.lt x hx j hj, hL x hx j hj⟩), fun x hx j hj => Nat.lt_of_lt_of_le (h.lt x hx j hj) f.1⟩
theorem LL.keeps {K K' : AHeap} {pl : List (AVal × List Im)} (h : LL K pl) (f : Keeps K K') : LL K' pl := h.fr (L := []) (Fr.of f) (by simp)
structure NL (B : Nat) (K : AHeap) (v : AVal) (pl : List (AVal × List Im)) : Prop where
  g : Gr K 1 v (pl.map (·.1))
  l : LL K pl
  fr : ∀ x, x ∈ pl → ∀ j, j ∈ x.1.ids → B ≤ j ∧ j ∉ v.ids
  vf : ∀ j, j ∈ v.ids → B ≤ j
theorem NL.nil (B : Nat) (K : AHeap) : NL B K .nils [] := ⟨Gr.nil _ _, ⟨by simp, by simp⟩, by simp, by simp [AVal.ids]⟩
theorem NL.fr' {L : List Nat} {B : Nat} {K K' : AHeap} {v : AVal} {pl : List (AVal × List Im)} (h : NL B K v pl) (f : Fr L K K') (hv : ∀ j, j ∈ L → j < B) : NL B K' v pl :=
  ⟨h.g.fr f (fun i hi hx => by have := h.vf i hi; have := hv i hx; omega), h.l.fr f (fun x hx j hj hL => by have := (h.fr x hx j hj).1; have := hv j hL; omega), h.fr, h.vf⟩
theorem NL.sz {B : Nat} {K : AHeap} {v : AVal} {pl : List (AVal × List Im)} (h : NL B K v pl) : slen v = pl.length := by
  have := h.g.sl.length
  simp at this; omega
theorem NL.push {B : Nat} {K : AHeap} {v u : AVal} {pl : List (AVal × List Im)} {l : List Im} (h : NL B K v pl) (hu : Sl K 2 u (l.flatMap ic)) (hi : ∀ j, j ∈ u.ids → B ≤ j ∧ j < K.next ∧ j ∉ v.ids) (hB : B ≤ K.next) (hn : pl.length ≤ 100000) :
    ∃ v' K', aappend (K.new (.cells [u] true)) 1 24 v (.slice K.next 0 1 1 none) = some (v', K') ∧ NL B K' v' (pl ++ [(u, l)]) ∧ Fr v.ids K K' ∧ (∀ i, i ∈ v'.ids → K.next ≤ i) ∧ ∃ a, v' = .slice a 0 (slen v + 1) (slen v + 1) (some 1) := by
  obtain ⟨v', K', e, g', i', f', s', ea⟩ := h.g.push (by' := 24) (by decide) (x := [u]) rfl (by rw [h.sz]; omega)
  refine ⟨v', K', e, ⟨by simpa using g', ?_, ?_, fun j hj => by have := i' j hj; omega⟩, f', i', ea⟩
  · refine LL.fr (L := v.ids) ?_ f' ?_
    · refine ⟨fun x hx => ?_, fun x hx => ?_⟩
      · rcases List.mem_append.1 hx with hx | hx
        · exact h.l.s x hx
        · simp at hx; subst hx; exact hu
      · rcases List.mem_append.1 hx with hx | hx
        · exact h.l.lt x hx
        · simp at hx; subst hx; exact fun j hj => (hi j hj).2.1
    · intro x hx
      rcases List.mem_append.1 hx with hx | hx
      · exact fun j hj => (h.fr x hx j hj).2
      · simp at hx; subst hx; exact fun j hj => (hi j hj).2.2
  · intro x hx j hj
    have : B ≤ j ∧ j < K.next := by
      rcases List.mem_append.1 hx with hx | hx
      · exact ⟨(h.fr x hx j hj).1, h.l.lt x hx j hj⟩
      · simp at hx; subst hx; exact ⟨(hi j hj).1, (hi j hj).2.1⟩
    exact ⟨this.1, fun hv => by have := i' j hv; omega⟩

def sn (d : DS) (ep size : Nat) : Nat → Nat → Nat → List (List Im) → List (List Im) × Int
  | 0, _, _, out => (out, 0)
  | f + 1, num, at0, out =>
    if (nx d ep num size at0 1025 at0 []).no ≠ 0 then ([], (nx d ep num size at0 1025 at0 []).no)
    else if (nx d ep num size at0 1025 at0 []).l.length = 0 then (out, 0)
    else sn d ep size f (num + 1) (nx d ep num size at0 1025 at0 []).at' (out ++ [(nx d ep num size at0 1025 at0 []).l])
theorem nx_at (d : DS) (ep num size at0 : Nat) : ∀ (f i : Nat) (out : List Im), at0 ≤ i → i ≤ size → (nx d ep num size at0 f i out).at' = at0 ∧ (nx d ep num size at0 f i out).l = [] ∨ at0 < (nx d ep num size at0 f i out).at' ∧ (nx d ep num size at0 f i out).at' ≤ size
  | 0, _, _, _, _ => .inl ⟨rfl, rfl⟩
  | f + 1, i, out, h1, h2 => by
    unfold nx
    split
    · split
      · exact .inl ⟨rfl, rfl⟩
      · split
        · exact nx_at d ep num size at0 f (i + 1) _ (by omega) (by omega)
        · split
          · refine .inr ⟨?_, ?_⟩ <;> simp only <;> omega
          · exact .inl ⟨rfl, rfl⟩
    · exact .inl ⟨rfl, rfl⟩

def b29 : ACode := (.seq (.block 1 (.seq (.region [⟨(some 33), (.mv (.tmp 10)), none, none⟩, ⟨(some 34), (.mv (.tmp 12)), none, none⟩, ⟨(some 35), (.call (.con (.func 51 [] [])) [(.tmp 33), (.tmp 34)]), none, none⟩, ⟨(some 32), (.mv (.tmp 35)), none, none⟩, ⟨(some 36), (.extract (.tmp 32) 0), none, none⟩, ⟨(some 37), (.extract (.tmp 32) 1), none, none⟩, ⟨(some 13), (.mv (.tmp 36)), none, none⟩, ⟨(some 14), (.mv (.tmp 37)), none, none⟩]) (.seq (.seq (.region [⟨(some 38), (.mv (.tmp 14)), none, none⟩, ⟨(some 39), (.bin .neq (.tmp 38) (.con (.int .i64 0))), none, none⟩]) (.cond (.tmp 39) (.seq (.region [⟨(some 40), (.mv (.tmp 14)), none, none⟩, ⟨(some 6), (.mv (.con .nils)), none, none⟩, ⟨(some 7), (.mv (.tmp 40)), none, none⟩]) .ret) .skip)) (.seq (.seq (.region [⟨(some 41), (.mv (.tmp 13)), none, none⟩, ⟨(some 42), (.len false (.tmp 41)), none, none⟩, ⟨(some 43), (.bin .eql (.tmp 42) (.con (.int .i64 0))), none, none⟩]) (.cond (.tmp 43) (.seq (.region [⟨(some 44), (.mv (.tmp 11)), none, none⟩, ⟨(some 6), (.mv (.tmp 44)), none, none⟩, ⟨(some 7), (.mv (.con (.int .i64 0))), none, none⟩]) .ret) .skip)) (.region [⟨(some 45), (.mv (.tmp 11)), none, none⟩, ⟨(some 46), (.mv (.tmp 13)), none, none⟩, ⟨(some 47), (.buildS 1 [.nils] [(0, (1, (.tmp 46)))]), none, none⟩, ⟨(some 48), (.append 1 24 (.tmp 45) (.tmp 47)), none, none⟩, ⟨(some 11), (.mv (.tmp 48)), none, none⟩]))))) (.region [⟨(some 30), (.mv (.tmp 12)), none, none⟩, ⟨(some 31), (.bin .add (.tmp 30) (.con (.int .u64 1))), none, none⟩, ⟨(some 12), (.mv (.tmp 31)), none, none⟩]))
theorem loop29 {H : AHeap} {p a : Nat} {g : Option Nat} {vw : AVal} {d : DS} (h : DL H p a g vw d) (hw : d.w.length < 1000000) {sp size ep : Nat} (ho : H.obj sp = some (.cells (sc p size ep 0) true)) (hsn : sp < H.next) (hsp : sp ≠ p ∧ sp ≠ a ∧ sp ∉ vw.ids) (hs : size ≤ 1024) {env : Env}
    (h10 : env 10 = .ptr sp 0) (h11 : env 11 = .nils) (h12 : env 12 = .int .u64 1) :
    Outs (AX A (.loop b29) env H) fun e env' K => e = .ret ∧ ∃ v pl, env' 6 = v ∧ env' 7 = .int .i64 (sn d ep size 1025 1 0 []).2 ∧ Fr [sp] H K ∧ NL H.next K v pl ∧ pl.map (·.2) = (sn d ep size 1025 1 0 []).1 := by
  obtain ⟨R, hR⟩ : ∃ R, sn d ep size 1025 1 0 [] = R := ⟨_, rfl⟩
  rw [hR]
  refine loop_ends (I := fun (at0 : Nat) env' K => at0 ≤ size ∧ env' 10 = .ptr sp 0 ∧ Fr [sp] H K ∧ K.obj sp = some (.cells (sc p size ep at0) true) ∧ ∃ v pl n, env' 11 = v ∧ env' 12 = .int .u64 ((n + 1 : Nat) : Int) ∧ NL H.next K v pl ∧ n ≤ at0 ∧ pl.length = n ∧ sn d ep size (1025 - n) (n + 1) at0 (pl.map (·.2)) = R) (fun at0 => size - at0) ?_ 0 env H
    ⟨Nat.zero_le _, h10, Fr.refl _ _, ho, .nils, [], 0, h11, h12, NL.nil _ _, Nat.le_refl _, rfl, hR⟩
  rintro at0 env1 K ⟨hi, h10, hF, hO, v, pl, n, h11, h12, hN, hna, hpl, hE⟩
  obtain ⟨fu, efu⟩ : ∃ fu, 1025 - n = fu + 1 := ⟨1024 - n, by omega⟩
  rw [efu] at hE
  unfold sn at hE
  have hD := h.fr hF (by simp; exact Ne.symm hsp.1) (by simp; exact Ne.symm hsp.2.1) (fun i hi => by simp; rintro rfl; exact hsp.2.2 hi)
  have hF1 := hF.1
  have hsK := Nat.lt_of_lt_of_le hsn hF1
  obtain ⟨u, K1, e57, F1, O1, G1, I1⟩ := U51 hD hw hO hsK hs hi (n + 1)
  have hat := nx_at d ep (n + 1) size at0 1025 at0 [] (Nat.le_refl _) hi
  obtain ⟨q, hq⟩ : ∃ q, nx d ep (n + 1) size at0 1025 at0 [] = q := ⟨_, rfl⟩
  rw [hq] at e57 O1 G1 hE hat
  have F2 : Fr [sp] H K1 := hF.trans F1 (fun i hi => .inl hi)
  have N1 := hN.fr' F1 (by simp; exact hsn)
  have w1 : IntKind.u64.wrap (((n + 1 : Nat) : Int) + 1) = ((n + 1 + 1 : Nat) : Int) := by rw [wrapU64]; omega
  have ll := G1.sl.alen
  have sl : slen u = q.l.length := slen_fm ic_len (by decide) G1.sl
  rw [sl] at ll
  obtain ⟨m, hm⟩ : ∃ m, n + 1 = m := ⟨_, rfl⟩
  rw [hm] at h12 e57 w1
  rw [hm] at hE
  cases c1 : decide (q.no = 0)
  · rw [if_pos (by simpa using c1)] at hE
    simp only [b29, h10, h11, h12, e57, c1, rwA, rwB, Nat.reduceAdd, Nat.reduceMul, Nat.reduceLeDiff, Int.reduceEq, Int.reduceLT, Int.reduceLE, Int.reduceAdd, Int.reduceSub, Int.reduceMul, ↓reduceIte, Nat.reduceEqDiff, reduceCtorEq, ↓cnd_true, ↓cnd_false]
    rw [outs_some, ← hE]
    exact .inr ⟨by simp, rfl, .nils, [], by simp [Env.set], by simp [Env.set], F2, NL.nil _ _, rfl⟩
  have c1' : q.no = 0 := by simpa using c1
  rw [if_neg (by simpa using c1')] at hE
  cases c2 : decide ((q.l.length : Int) = 0)
  rotate_left
  · rw [if_pos (by simp at c2; rw [c2]; rfl)] at hE
    have sh : v = .nils ∨ ∃ a n g, v = .slice a 0 n n g := hN.g.shape
    rcases sh with e | ⟨_, _, _, e⟩
    all_goals
      rw [e] at h11 N1
      simp only [b29, h10, h11, h12, e57, c1, ll, c2, rwA, rwB, Nat.reduceAdd, Nat.reduceMul, Nat.reduceLeDiff, Int.reduceEq, Int.reduceLT, Int.reduceLE, Int.reduceAdd, Int.reduceSub, Int.reduceMul, ↓reduceIte, Nat.reduceEqDiff, reduceCtorEq, ↓cnd_true, ↓cnd_false]
      rw [outs_some, ← hE]
      exact .inr ⟨by simp, rfl, _, pl, by simp [Env.set], by simp [Env.set], F2, N1, rfl⟩
  have hne : ¬ q.l.length = 0 := by simp at c2; intro hx; rw [List.length_eq_zero_iff] at hx; exact c2 hx
  rw [if_neg hne] at hE
  have hat' : at0 < q.at' ∧ q.at' ≤ size := by
    rcases hat with ⟨_, h2⟩ | h2
    · rw [h2] at hne; simp at hne
    · exact h2
  have gi := G1.lt
  obtain ⟨v2, K2, e2, N2, f2, i2, a2, ea2⟩ := N1.push (u := u) (l := q.l) G1.sl (fun j hj => ⟨by have := I1 j hj; omega, gi j hj, fun hv => by have := hN.g.lt j hv; have := I1 j hj; omega⟩) F2.1 (by omega)
  rw [ea2] at e2
  have O2 : K2.obj sp = some (.cells (sc p size ep q.at') true) := by rw [f2.2 sp (Nat.lt_of_lt_of_le hsn F2.1) (fun hx => by have := hN.vf sp hx; omega)]; exact O1
  have F3 : Fr [sp] H K2 := F2.trans f2 (fun i hi => .inr (hN.vf i hi))
  rcases G1.shape with e | ⟨_, _, _, e⟩
  all_goals
    rw [e] at e57 ll e2 N2
    simp only [b29, h10, h11, h12, e57, c1, ll, c2, e2, w1, rwA, rwB, Nat.reduceAdd, Nat.reduceMul, Nat.reduceLeDiff, Int.reduceEq, Int.reduceLT, Int.reduceLE, Int.reduceAdd, Int.reduceSub, Int.reduceMul, ↓reduceIte, Nat.reduceEqDiff, reduceCtorEq, ↓cnd_true, ↓cnd_false]
    rw [outs_some]
    refine .inl ⟨rfl, q.at', by omega, hat'.2, by simp [Env.set, h10], F3, O2, v2, _, m, by rw [ea2]; simp [Env.set], by simp [Env.set], N2, by omega, by simp; omega, ?_⟩
    rw [← hE]
    have : 1025 - m = fu := by omega
    rw [this]
    simp

theorem U29 {H : AHeap} {p a : Nat} {g : Option Nat} {vw : AVal} {d : DS} (h : D H p a g vw d) (hw : d.w.length < 1000000) {size ep : Nat} (s1 : 4 ≤ size) (s2 : size ≤ 1024) (s3 : size < d.s.length) :
    ∃ v K pl, AC A 29 [.ptr p 0, .int .i64 (size : Int), .int .u64 (ep : Int)] H = some (.tuple [v, .int .i64 (sn d ep size 1025 1 0 []).2], K) ∧ Keeps H K ∧ NL H.next K v pl ∧ pl.map (·.2) = (sn d ep size 1025 1 0 []).1 := by
  have key : Rets (AC A 29 [.ptr p 0, .int .i64 (size : Int), .int .u64 (ep : Int)] H) fun u K => ∃ v pl, u = .tuple [v, .int .i64 (sn d ep size 1025 1 0 []).2] ∧ Keeps H K ∧ NL H.next K v pl ∧ pl.map (·.2) = (sn d ep size 1025 1 0 []).1 := by
    rw [s_fn (A := A) (f := 29) (x := DnFns.c29) rfl rfl rfl]
    have u27 := U7 h s1 s2 s3 (epoch := ep)
    obtain ⟨K0, e0⟩ : ∃ X, H.new (.cells (jc p ⟨size, ep, 0, 0⟩) true) = X := ⟨_, rfl⟩
    have k0 : Keeps H K0 := by rw [← e0]; exact Keeps.new _ _
    have n0 : K0.next = H.next + 1 := by rw [← e0, new_next]
    rw [e0] at u27
    obtain ⟨K1, e1⟩ : ∃ X, K0.new (.cells [.ptr p 0, .int .i64 (size : Int), .int .u64 (ep : Int), .int .i64 0] true) = X := ⟨_, rfl⟩
    have k1 : Keeps K0 K1 := by rw [← e1]; exact Keeps.new _ _
    have o1 : K1.obj K0.next = some (.cells (sc p size ep 0) true) := by rw [← e1, new_obj, if_pos rfl]; rfl
    have n1 : K1.next = K0.next + 1 := by rw [← e1, new_next]
    have hp := h.pn
    have han := h.an
    have hwl := h.ow.lt
    simp only [c29, u27, e1, rwA, rwB, Nat.reduceAdd, Nat.reduceMul, Nat.reduceLeDiff, Int.reduceEq, Int.reduceLT, Int.reduceLE, Int.reduceAdd, Int.reduceSub, Int.reduceMul, ↓reduceIte, Nat.reduceEqDiff, reduceCtorEq, ↓cnd_true, ↓cnd_false]
    repeat (first | refine outs_seq ?_ | refine outs_block ?_ | refine outs_step ?_ | refine outs_stepD ?_ | refine rets_end ?_ | refine ans_end ?_)
    refine (loop29 ((h.keeps k0).keeps k1).look hw o1 (by omega) ⟨by omega, by omega, fun hx => by have := hwl _ hx; omega⟩ s2 ?_ ?_ ?_).mono ?_
    · simp [Env.set]
    · simp [Env.set]
    · simp [Env.set]
    rintro e env K ⟨rfl, v, pl, h6, h7, hF, hN, hpl⟩
    have hk : Keeps H K := ⟨by have := hF.1; omega, fun i hi => by rw [hF.2 i (by omega) (by simp; omega), k1.2 i (by omega), k0.2 i hi]⟩
    have hN' : NL H.next K v pl := ⟨hN.g, hN.l, fun x hx j hj => ⟨by have := (hN.fr x hx j hj).1; omega, (hN.fr x hx j hj).2⟩, fun j hj => by have := hN.vf j hj; omega⟩
    rcases hN.g.shape with e | ⟨_, _, _, e⟩
    all_goals
      rw [e] at h6 hN'
      simp only [outs_some, h6, h7, rwA, rwB, Nat.reduceAdd, Nat.reduceMul, Nat.reduceLeDiff, Int.reduceEq, Int.reduceLT, Int.reduceLE, Int.reduceAdd, Int.reduceSub, Int.reduceMul, ↓reduceIte, Nat.reduceEqDiff, reduceCtorEq, ↓cnd_true, ↓cnd_false]
      rw [rets_some]
      exact ⟨_, pl, rfl, hk, hN', hpl⟩
  obtain ⟨u, K, e, v, pl, rfl, h1, h2, h3⟩ := key
  exact ⟨v, K, pl, e, h1, h2, h3⟩

end Go.Proofs.YtilhjcnkaelheaaGreat.Dk
end

section
/- Journals: what is told as the document's; compared; right. -/
set_option maxRecDepth 100000
set_option linter.unusedSimpArgs false
set_option linter.unusedVariables false
set_option maxHeartbeats 4000000
namespace Go.Proofs.YtilhjcnkaelheaaGreat.Dk
open Go Go.Proofs.YtilhjcnkaelheaaGreat.Am DnFns Go.RowKit
open Sd (Sec noughts home homeno ofHome ofNo opened unfit pad)

theorem im_eq {x y : Im} (h1 : x.page = y.page) (h2 : x.text = y.text) : x = y := by cases x; cases y; cases h1; cases h2; rfl
instance : DecidableEq Im := fun x y =>
  if h : x.page = y.page ∧ x.text = y.text then isTrue (im_eq h.1 h.2) else isFalse (fun e => h (by rw [e]; exact ⟨rfl, rfl⟩))

def b49i : ACode := (.seq (.region [⟨(some 18), (.bin .lss (.tmp 17) (.tmp 16)), none, none⟩]) (.seq (.cond (.tmp 18) .skip (.exit 2)) (.seq (.block 3 (.seq (.region [⟨(some 19), (.idxASl 2 (.tmp 15) (.tmp 17)), none, none⟩, ⟨(some 20), (.load true 2 (.tmp 19)), none, none⟩, ⟨(some 8), (.new [(.int .i64 0), (.str [])]), none, none⟩, ⟨none, (.store 2 (.tmp 8) (.tmp 20)), none, none⟩]) (.region [⟨(some 21), (.mv (.tmp 6)), none, none⟩, ⟨(some 22), (.fieldA 0 (.tmp 8)), none, none⟩, ⟨(some 23), (.load false 1 (.tmp 22)), none, none⟩, ⟨(some 24), (.fieldA 1 (.tmp 8)), none, none⟩, ⟨(some 25), (.load false 1 (.tmp 24)), none, none⟩, ⟨(some 26), (.build [(.int .i64 0), (.str [])] [(0, (1, (.tmp 23))), (1, (1, (.tmp 25)))]), none, none⟩, ⟨(some 27), (.buildS 1 [(.int .i64 0), (.str [])] [(0, (2, (.tmp 26)))]), none, none⟩, ⟨(some 28), (.append 2 24 (.tmp 21) (.tmp 27)), none, none⟩, ⟨(some 6), (.mv (.tmp 28)), none, none⟩]))) (.region [⟨(some 29), (.bin .add (.tmp 17) (.con (.int .i64 1))), none, none⟩, ⟨(some 17), (.mv (.tmp 29)), none, none⟩]))))
theorem loop49i {H : AHeap} {lv : AVal} {l : List Im} (hl : Sl H 2 lv (l.flatMap ic)) (hid : ∀ i, i ∈ lv.ids → i < H.next) (hn : l.length ≤ 8796093022208) {env : Env}
    (h3 : env 6 = .nils) (h7 : env 15 = lv) (h8 : env 16 = .int .i64 (l.length : Int)) (h9 : env 17 = .int .i64 0) :
    Outs (AX A (.loop b49i) env H) fun e env' K => e = .exit 2 ∧ Keeps H K ∧ env' 3 = env 3 ∧ env' 9 = env 9 ∧ env' 10 = env 10 ∧ env' 11 = env 11 ∧ ∃ v, env' 6 = v ∧ Gr K 2 v (l.flatMap ic) ∧ ∀ i, i ∈ v.ids → H.next ≤ i := by
  refine loop_ends (I := fun (j : Nat) env' K => j ≤ l.length ∧ env' 15 = lv ∧ env' 16 = .int .i64 (l.length : Int) ∧ env' 17 = .int .i64 (j : Int) ∧ Keeps H K ∧ env' 3 = env 3 ∧ env' 9 = env 9 ∧ env' 10 = env 10 ∧ env' 11 = env 11 ∧ ∃ v, env' 6 = v ∧ Gr K 2 v ((l.take j).flatMap ic) ∧ ∀ i, i ∈ v.ids → H.next ≤ i) (fun j => l.length - j) ?_ 0 env H
    ⟨Nat.zero_le _, h7, h8, h9, Keeps.refl _, rfl, rfl, rfl, rfl, .nils, h3, Gr.nil _ _, by simp [AVal.ids]⟩
  rintro j env1 K ⟨hj, h7, h8, h9, hK, q3, q9, q10, q11, v, h3, hg, hgi⟩
  by_cases c : j < l.length
  · have c1 : decide ((j : Int) < (l.length : Int)) = true := by simp; omega
    have w1 : IntKind.i64.wrap ((j : Int) + 1) = ((j + 1 : Nat) : Int) := by rw [wrap_i64]; omega
    obtain ⟨id, off, cp, g, k, own, rfl, ho, hk, hall, _⟩ := (hl.keep hid hK).elem ic_len (by decide) c
    have ha : aidx l.length (.int .i64 (j : Int)) = some j := by simp [aidx]; omega
    have ld : apart true (off + j * 2) 2 k = some (.agg (ic l[j])) := by rw [apart_agg _ _ _ (elem_room (es := 2) c hk), hall]
    have ht : l.take (j + 1) = l.take j ++ [l[j]] := by rw [List.take_add_one, List.getElem?_eq_getElem c, Option.toList_some]
    obtain ⟨x, ex⟩ : ∃ x, l[j] = x := ⟨_, rfl⟩
    rw [ex] at ld ht
    obtain ⟨K1, eK1⟩ : ∃ K1, (K.new (.cells [.int .i64 0, .str []] true)).set K.next (.cells [.int .i64 x.page, .str x.text] true) = K1 := ⟨_, rfl⟩
    have k1 : Keeps K K1 := by rw [← eK1]; exact Keeps.set' (Nat.le_refl _) (Keeps.new' (Keeps.refl _))
    have oN : K1.obj K.next = some (.cells [.int .i64 x.page, .str x.text] true) := by rw [← eK1, set_obj, if_pos rfl]
    have g1 := hg.fr (L := []) (Fr.of k1) (by simp)
    have sl : slen v = j := by
      have := slen_fm ic_len (by decide) hg.sl
      simp at this; omega
    obtain ⟨v2, K2, e2, g2, i2, f2, s2, a2, ea2⟩ := g1.push (by' := 24) (by decide) (x := ic x) rfl (by rw [sl]; omega)
    have xK := hK.1
    have x1 := k1.1
    have x2 := f2.1
    have kf : Keeps H K2 := ⟨by omega, fun i hi => by rw [f2.2 i (by omega) (fun hx => by have := hgi i hx; omega), k1.2 i (by omega), hK.2 i hi]⟩
    have gf : Gr K2 2 v2 ((l.take (j + 1)).flatMap ic) := by
      rw [ht]; simpa using g2
    rw [ea2] at e2
    unfold ic at ld e2
    simp only [b49i, h3, h7, h8, h9, c1, ha, ho, ld, eK1, oN, e2, w1, rwA, rwB, Nat.reduceAdd, Nat.reduceMul, Nat.reduceLeDiff, Int.reduceEq, Int.reduceLT, Int.reduceLE, Int.reduceAdd, Int.reduceSub, Int.reduceMul, ↓reduceIte, Nat.reduceEqDiff, reduceCtorEq, ↓cnd_true, ↓cnd_false]
    rw [outs_some]
    exact .inl ⟨rfl, j + 1, by omega, by omega, by simp [Env.set, h7], by simp [Env.set, h8], by simp [Env.set], kf, by simp [Env.set, q3], by simp [Env.set, q9], by simp [Env.set, q10], by simp [Env.set, q11], v2, by rw [ea2]; simp [Env.set], gf, fun i hi => by have := i2 i hi; omega⟩
  · have e : j = l.length := by omega
    subst e
    have c1 : decide ((l.length : Int) < (l.length : Int)) = false := by simp
    simp only [b49i, h8, h9, c1, rwA, rwB, Nat.reduceAdd, Nat.reduceMul, Nat.reduceLeDiff, Int.reduceEq, Int.reduceLT, Int.reduceLE, Int.reduceAdd, Int.reduceSub, Int.reduceMul, ↓reduceIte, Nat.reduceEqDiff, reduceCtorEq, ↓cnd_true, ↓cnd_false]
    rw [outs_some]
    rw [List.take_length] at hg
    exact .inr ⟨by simp, rfl, hK, by simp [Env.set, q3], by simp [Env.set, q9], by simp [Env.set, q10], by simp [Env.set, q11], v, by simp [Env.set, h3], hg, hgi⟩

def b49 : ACode := (.seq (.region [⟨(some 12), (.bin .lss (.tmp 11) (.tmp 10)), none, none⟩]) (.seq (.cond (.tmp 12) .skip (.exit 0)) (.seq (.block 1 (.seq (.region [⟨(some 13), (.idxASl 1 (.tmp 9) (.tmp 11)), none, none⟩, ⟨(some 14), (.load false 1 (.tmp 13)), none, none⟩, ⟨(some 5), (.mv (.tmp 14)), none, none⟩]) (.seq (.region [⟨(some 6), (.mv (.con .nils)), none, none⟩]) (.seq (.seq (.region [⟨(some 15), (.mv (.tmp 5)), none, none⟩, ⟨(some 16), (.len false (.tmp 15)), none, none⟩, ⟨(some 17), (.mv (.con (.int .i64 0))), none, none⟩]) (.block 2 (.loop (.seq (.region [⟨(some 18), (.bin .lss (.tmp 17) (.tmp 16)), none, none⟩]) (.seq (.cond (.tmp 18) .skip (.exit 2)) (.seq (.block 3 (.seq (.region [⟨(some 19), (.idxASl 2 (.tmp 15) (.tmp 17)), none, none⟩, ⟨(some 20), (.load true 2 (.tmp 19)), none, none⟩, ⟨(some 8), (.new [(.int .i64 0), (.str [])]), none, none⟩, ⟨none, (.store 2 (.tmp 8) (.tmp 20)), none, none⟩]) (.region [⟨(some 21), (.mv (.tmp 6)), none, none⟩, ⟨(some 22), (.fieldA 0 (.tmp 8)), none, none⟩, ⟨(some 23), (.load false 1 (.tmp 22)), none, none⟩, ⟨(some 24), (.fieldA 1 (.tmp 8)), none, none⟩, ⟨(some 25), (.load false 1 (.tmp 24)), none, none⟩, ⟨(some 26), (.build [(.int .i64 0), (.str [])] [(0, (1, (.tmp 23))), (1, (1, (.tmp 25)))]), none, none⟩, ⟨(some 27), (.buildS 1 [(.int .i64 0), (.str [])] [(0, (2, (.tmp 26)))]), none, none⟩, ⟨(some 28), (.append 2 24 (.tmp 21) (.tmp 27)), none, none⟩, ⟨(some 6), (.mv (.tmp 28)), none, none⟩]))) (.region [⟨(some 29), (.bin .add (.tmp 17) (.con (.int .i64 1))), none, none⟩, ⟨(some 17), (.mv (.tmp 29)), none, none⟩]))))))) (.region [⟨(some 30), (.mv (.tmp 3)), none, none⟩, ⟨(some 31), (.mv (.tmp 6)), none, none⟩, ⟨(some 32), (.buildS 1 [.nils] [(0, (1, (.tmp 31)))]), none, none⟩, ⟨(some 33), (.append 1 24 (.tmp 30) (.tmp 32)), none, none⟩, ⟨(some 3), (.mv (.tmp 33)), none, none⟩]))))) (.region [⟨(some 34), (.bin .add (.tmp 11) (.con (.int .i64 1))), none, none⟩, ⟨(some 11), (.mv (.tmp 34)), none, none⟩]))))
theorem loop49 {H : AHeap} {lv : AVal} {pl : List (AVal × List Im)} (hl : Sl H 1 lv (pl.map (·.1))) (hid : ∀ i, i ∈ lv.ids → i < H.next) (hp : LL H pl) (hn : pl.length ≤ 10000) (hm : ∀ x, x ∈ pl → x.2.length ≤ 8796093022208) {env : Env}
    (h3 : env 3 = .nils) (h9 : env 9 = lv) (h10 : env 10 = .int .i64 (pl.length : Int)) (h11 : env 11 = .int .i64 0) :
    Outs (AX A (.loop b49) env H) fun e env' K => e = .exit 0 ∧ Keeps H K ∧ ∃ v ql, env' 3 = v ∧ NL H.next K v ql ∧ ql.map (·.2) = pl.map (·.2) := by
  refine loop_ends (I := fun (j : Nat) env' K => j ≤ pl.length ∧ env' 9 = lv ∧ env' 10 = .int .i64 (pl.length : Int) ∧ env' 11 = .int .i64 (j : Int) ∧ Keeps H K ∧ ∃ v ql, env' 3 = v ∧ NL H.next K v ql ∧ ql.map (·.2) = (pl.take j).map (·.2)) (fun j => pl.length - j) ?_ 0 env H
    ⟨Nat.zero_le _, h9, h10, h11, Keeps.refl _, .nils, [], h3, NL.nil _ _, rfl⟩
  rintro j env1 K ⟨hj, h9, h10, h11, hK, v, ql, h3, hN, hq⟩
  by_cases c : j < pl.length
  · have c1 : decide ((j : Int) < (pl.length : Int)) = true := by simp; omega
    have w1 : IntKind.i64.wrap ((j : Int) + 1) = ((j + 1 : Nat) : Int) := by rw [wrap_i64]; omega
    obtain ⟨id, off, cp, g, k, own, rfl, ho, _, hc⟩ := (hl.keep hid hK).elem1 c
    have ha : aidx pl.length (.int .i64 (j : Int)) = some j := by simp [aidx]; omega
    have ht : pl.take (j + 1) = pl.take j ++ [pl[j]] := by rw [List.take_add_one, List.getElem?_eq_getElem c, Option.toList_some]
    have hpK := hp.keeps hK
    have hs := hpK.s _ (List.getElem_mem c)
    have hlt := hpK.lt _ (List.getElem_mem c)
    have hmm := hm _ (List.getElem_mem c)
    have hql : ql.length = j := by have := congrArg List.length hq; simp at this; omega
    obtain ⟨⟨u, l⟩, ex⟩ : ∃ x, pl[j] = x := ⟨_, rfl⟩
    rw [ex] at hc hs hlt ht hmm
    simp only at hc hs hlt hmm
    have lu := hs.alen
    rw [slen_fm ic_len (by decide) hs] at lu
    simp only [b49, h9, h10, h11, c1, ha, ho, hc, lu, rwA, rwB, Nat.reduceAdd, Nat.reduceMul, Nat.reduceLeDiff, Int.reduceEq, Int.reduceLT, Int.reduceLE, Int.reduceAdd, Int.reduceSub, Int.reduceMul, ↓reduceIte, Nat.reduceEqDiff, reduceCtorEq, ↓cnd_true, ↓cnd_false]
    repeat (first | refine outs_seq ?_ | refine outs_block ?_ | refine outs_step ?_ | refine outs_stepD ?_ | refine rets_end ?_ | refine ans_end ?_)
    refine (loop49i hs hlt hmm ?_ ?_ ?_ ?_).mono ?_
    · simp [Env.set]
    · simp [Env.set]
    · simp [Env.set]
    · simp [Env.set]
    rintro e env2 K1 ⟨rfl, k1, q3, q9, q10, q11, w, q6, hg, hgi⟩
    have r3 : env2 3 = v := by rw [q3]; simp [Env.set, h3]
    have r9 := q9.trans (show _ = AVal.slice id off pl.length cp g by simp [Env.set, h9])
    have r10 := q10.trans (show _ = AVal.int .i64 (pl.length : Int) by simp [Env.set, h10])
    have r11 := q11.trans (show _ = AVal.int .i64 (j : Int) by simp [Env.set, h11])
    have hk1 := k1.1
    have hKn := hK.1
    have N1 := hN.fr' (L := []) (Fr.of k1) (by simp)
    obtain ⟨v2, K2, e2, N2, f2, i2, a2, ea2⟩ := N1.push (u := w) (l := l) hg.sl (fun j hj => ⟨by have := hgi j hj; omega, hg.lt j hj, fun hv => by have := hN.g.lt j hv; have := hgi j hj; omega⟩) (by omega) (by omega)
    rw [ea2] at e2
    have kf : Keeps H K2 := ⟨by have := f2.1; omega, fun i hi => by rw [f2.2 i (by omega) (fun hx => by have := hN.vf i hx; omega), k1.2 i (by omega), hK.2 i hi]⟩
    rcases hg.shape with e | ⟨_, _, _, e⟩
    all_goals
     rw [e] at q6 e2 N2
     simp only [outs_some, r3, r9, r10, r11, q6, e2, w1, rwA, rwB, Nat.reduceAdd, Nat.reduceMul, Nat.reduceLeDiff, Int.reduceEq, Int.reduceLT, Int.reduceLE, Int.reduceAdd, Int.reduceSub, Int.reduceMul, ↓reduceIte, Nat.reduceEqDiff, reduceCtorEq, ↓cnd_true, ↓cnd_false]
     refine .inl ⟨trivial, j + 1, by omega, by omega, by simp [Env.set, r9], by simp [Env.set, r10], by simp [Env.set], kf, v2, _, by rw [ea2]; try simp [Env.set], N2, ?_⟩
     rw [ht]; simp [hq]
  · have e : j = pl.length := by omega
    subst e
    have c1 : decide ((pl.length : Int) < (pl.length : Int)) = false := by simp
    simp only [b49, h10, h11, c1, rwA, rwB, Nat.reduceAdd, Nat.reduceMul, Nat.reduceLeDiff, Int.reduceEq, Int.reduceLT, Int.reduceLE, Int.reduceAdd, Int.reduceSub, Int.reduceMul, ↓reduceIte, Nat.reduceEqDiff, reduceCtorEq, ↓cnd_true, ↓cnd_false]
    rw [outs_some]
    rw [List.take_length] at hq
    exact .inr ⟨by simp, rfl, hK, v, ql, by simp [Env.set, h3], hN, hq⟩

theorem U49 {H : AHeap} {lv : AVal} {pl : List (AVal × List Im)} (hl : Sl H 1 lv (pl.map (·.1))) (hid : ∀ i, i ∈ lv.ids → i < H.next) (hp : LL H pl) (hn : pl.length ≤ 10000) (hm : ∀ x, x ∈ pl → x.2.length ≤ 8796093022208) :
    ∃ v K ql, AC A 49 [lv] H = some (v, K) ∧ Keeps H K ∧ NL H.next K v ql ∧ ql.map (·.2) = pl.map (·.2) := by
  have key : Rets (AC A 49 [lv] H) fun v K => ∃ ql, Keeps H K ∧ NL H.next K v ql ∧ ql.map (·.2) = pl.map (·.2) := by
    rw [s_fn (A := A) (f := 49) (x := DnFns.c49) rfl rfl rfl]
    have ll := hl.alen
    have sl : slen lv = pl.length := by have := hl.length; simp at this; omega
    rw [sl] at ll
    simp only [c49, ll, rwA, rwB, Nat.reduceAdd, Nat.reduceMul, Nat.reduceLeDiff, Int.reduceEq, Int.reduceLT, Int.reduceLE, Int.reduceAdd, Int.reduceSub, Int.reduceMul, ↓reduceIte, Nat.reduceEqDiff, reduceCtorEq, ↓cnd_true, ↓cnd_false]
    repeat (first | refine outs_seq ?_ | refine outs_block ?_ | refine outs_step ?_ | refine outs_stepD ?_ | refine rets_end ?_ | refine ans_end ?_)
    refine (loop49 hl hid hp hn hm ?_ ?_ ?_ ?_).mono ?_
    · simp [Env.set]
    · simp [Env.set, ainit]
    · simp [Env.set]
    · simp [Env.set]
    rintro e env K ⟨rfl, hK, v, ql, h3, hN, hq⟩
    rcases hN.g.shape with e | ⟨_, _, _, e⟩
    all_goals
      rw [e] at h3 hN
      simp only [outs_some, h3, rwA, rwB, Nat.reduceAdd, Nat.reduceMul, Nat.reduceLeDiff, Int.reduceEq, Int.reduceLT, Int.reduceLE, Int.reduceAdd, Int.reduceSub, Int.reduceMul, ↓reduceIte, Nat.reduceEqDiff, reduceCtorEq, ↓cnd_true, ↓cnd_false]
      rw [rets_some]
      exact ⟨ql, hK, hN, hq⟩
  obtain ⟨v, K, e, ql, h1, h2, h3⟩ := key
  exact ⟨v, K, ql, e, h1, h2, h3⟩

/-! ### Same -/
def b48i : ACode := (.seq (.seq (.region [⟨(some 29), (.mv (.tmp 6)), none, none⟩, ⟨(some 30), (.mv (.tmp 0)), none, none⟩, ⟨(some 31), (.mv (.tmp 5)), none, none⟩, ⟨(some 32), (.idxASl 1 (.tmp 30) (.tmp 31)), none, none⟩, ⟨(some 33), (.load false 1 (.tmp 32)), none, none⟩, ⟨(some 34), (.len false (.tmp 33)), none, none⟩, ⟨(some 35), (.bin .lss (.tmp 29) (.tmp 34)), none, none⟩]) (.cond (.tmp 35) .skip (.exit 2))) (.seq (.block 3 (.seq (.draw [⟨(some 38), (.mv (.tmp 0)), none, none⟩, ⟨(some 39), (.mv (.tmp 5)), none, none⟩, ⟨(some 40), (.idxASl 1 (.tmp 38) (.tmp 39)), none, none⟩, ⟨(some 41), (.load false 1 (.tmp 40)), none, none⟩, ⟨(some 42), (.mv (.tmp 6)), none, none⟩, ⟨(some 43), (.idxASl 2 (.tmp 41) (.tmp 42)), none, none⟩, ⟨(some 44), (.load true 2 (.tmp 43)), none, none⟩, ⟨(some 45), (.mv (.tmp 1)), none, none⟩, ⟨(some 46), (.mv (.tmp 5)), none, none⟩, ⟨(some 47), (.idxASl 1 (.tmp 45) (.tmp 46)), none, none⟩, ⟨(some 48), (.load false 1 (.tmp 47)), none, none⟩, ⟨(some 49), (.mv (.tmp 6)), none, none⟩, ⟨(some 50), (.idxASl 2 (.tmp 48) (.tmp 49)), none, none⟩, ⟨(some 51), (.load true 2 (.tmp 50)), none, none⟩, ⟨(some 52), (.eq true (.fld 0 1 false (.int .i64) (.fld 1 1 false .str .fend)) (.tmp 44) (.tmp 51)), none, none⟩]) (.cond (.tmp 52) (.seq (.region [⟨(some 4), (.mv (.con (.bool false))), none, none⟩]) .ret) .skip))) (.region [⟨(some 36), (.mv (.tmp 6)), none, none⟩, ⟨(some 37), (.bin .add (.tmp 36) (.con (.int .i64 1))), none, none⟩, ⟨(some 6), (.mv (.tmp 37)), none, none⟩])))
theorem loop48i {H : AHeap} {ia oa na ca ib ob nb cb i : Nat} {ga gb : Option Nat} {ka kb : List AVal} {wa wb : Bool} {u w : AVal} {x y : List Im}
    (oa' : H.obj ia = some (.cells ka wa)) (ob' : H.obj ib = some (.cells kb wb)) (la : ka[oa + i]? = some u) (lb : kb[ob + i]? = some w) (xa : aidx na (.int .i64 (i : Int)) = some i) (xb : aidx nb (.int .i64 (i : Int)) = some i)
    (hx : Sl H 2 u (x.flatMap ic)) (hy : Sl H 2 w (y.flatMap ic)) (he : x.length = y.length) (hn : x.length ≤ 8796093022208) {env : Env}
    (h0 : env 0 = .slice ia oa na ca ga) (h1 : env 1 = .slice ib ob nb cb gb) (h5 : env 5 = .int .i64 (i : Int)) (h6 : env 6 = .int .i64 0) :
    Outs (AX A (.loop b48i) env H) fun e env' K => K = H ∧ ((e = .exit 2 ∧ x = y ∧ env' 0 = env 0 ∧ env' 1 = env 1 ∧ env' 5 = env 5) ∨ (e = .ret ∧ env' 4 = .bool false ∧ x ≠ y)) := by
  refine loop_ends (I := fun (j : Nat) env' K => j ≤ x.length ∧ K = H ∧ env' 0 = .slice ia oa na ca ga ∧ env' 1 = .slice ib ob nb cb gb ∧ env' 5 = .int .i64 (i : Int) ∧ env' 6 = .int .i64 (j : Int) ∧ x.take j = y.take j) (fun j => x.length - j) ?_ 0 env H
    ⟨Nat.zero_le _, rfl, h0, h1, h5, h6, by simp⟩
  have E0 := h0
  have E1 := h1
  have E5 := h5
  rintro j env1 _ ⟨hj, rfl, h0, h1, h5, h6, hp⟩
  have lu := hx.alen
  rw [slen_fm ic_len (by decide) hx] at lu
  by_cases c : j < x.length
  · have c1 : decide ((j : Int) < (x.length : Int)) = true := by simp; omega
    have w1 : IntKind.i64.wrap ((j : Int) + 1) = ((j + 1 : Nat) : Int) := by rw [wrap_i64]; omega
    obtain ⟨id, off, cp, g, k, own, rfl, ho, hk, hall, _⟩ := hx.elem ic_len (by decide) c
    obtain ⟨id2, off2, cp2, g2, k2, own2, rfl, ho2, hk2, hall2, _⟩ := hy.elem (i := j) ic_len (by decide) (by omega)
    have ha : aidx x.length (.int .i64 (j : Int)) = some j := by simp [aidx]; omega
    have ha2 : aidx y.length (.int .i64 (j : Int)) = some j := by simp [aidx]; omega
    have ld : apart true (off + j * 2) 2 k = some (.agg (ic x[j])) := by rw [apart_agg _ _ _ (elem_room (es := 2) c hk), hall]
    have ld2 : apart true (off2 + j * 2) 2 k2 = some (.agg (ic y[j])) := by rw [apart_agg _ _ _ (elem_room (es := 2) (by omega) hk2), hall2]
    have ge : ∀ (l : List Im) (h : j < l.length), l.take (j + 1) = l.take j ++ [l[j]] := fun l h => by
      rw [List.take_add_one, List.getElem?_eq_getElem h]; rfl
    have gx := ge x c
    have gy := ge y (by omega)
    obtain ⟨s, es⟩ : ∃ s, x[j] = s := ⟨_, rfl⟩
    obtain ⟨t, et⟩ : ∃ t, y[j]'(by omega) = t := ⟨_, rfl⟩
    rw [es] at ld gx
    rw [et] at ld2 gy
    have bad : s ≠ t → x ≠ y := by rintro h rfl; exact h (es.symm.trans et)
    unfold ic at ld ld2
    cases d1 : decide (s.page = t.page)
    · simp only [b48i, h0, h1, h5, h6, oa', ob', la, lb, xa, xb, lu, c1, ha, ha2, ho, ho2, ld, ld2, d1, Bool.false_and, Bool.not_false, rwA, rwB, Nat.reduceAdd, Nat.reduceMul, Nat.reduceLeDiff, Int.reduceEq, Int.reduceLT, Int.reduceLE, Int.reduceAdd, Int.reduceSub, Int.reduceMul, ↓reduceIte, Nat.reduceEqDiff, reduceCtorEq, ↓cnd_true, ↓cnd_false]
      rw [outs_some]
      exact .inr ⟨by simp, rfl, .inr ⟨rfl, by simp [Env.set], bad (fun h => by rw [h] at d1; simp at d1)⟩⟩
    · cases d2 : (s.text == t.text)
      · simp only [b48i, h0, h1, h5, h6, oa', ob', la, lb, xa, xb, lu, c1, ha, ha2, ho, ho2, ld, ld2, d1, d2, Bool.true_and, Bool.not_false, rwA, rwB, Nat.reduceAdd, Nat.reduceMul, Nat.reduceLeDiff, Int.reduceEq, Int.reduceLT, Int.reduceLE, Int.reduceAdd, Int.reduceSub, Int.reduceMul, ↓reduceIte, Nat.reduceEqDiff, reduceCtorEq, ↓cnd_true, ↓cnd_false]
        rw [outs_some]
        exact .inr ⟨by simp, rfl, .inr ⟨rfl, by simp [Env.set], bad (fun h => by rw [h] at d2; simp at d2)⟩⟩
      · simp only [b48i, h0, h1, h5, h6, oa', ob', la, lb, xa, xb, lu, c1, ha, ha2, ho, ho2, ld, ld2, d1, d2, w1, Bool.true_and, Bool.not_true, rwA, rwB, Nat.reduceAdd, Nat.reduceMul, Nat.reduceLeDiff, Int.reduceEq, Int.reduceLT, Int.reduceLE, Int.reduceAdd, Int.reduceSub, Int.reduceMul, ↓reduceIte, Nat.reduceEqDiff, reduceCtorEq, ↓cnd_true, ↓cnd_false]
        rw [outs_some]
        refine .inl ⟨rfl, j + 1, by omega, by omega, rfl, by simp [Env.set, h0], by simp [Env.set, h1], by simp [Env.set, h5], by simp [Env.set], ?_⟩
        rw [gx, gy, hp, im_eq (of_decide_eq_true d1) (eq_of_beq d2)]
  · have e : j = x.length := by omega
    subst e
    have c1 : decide ((x.length : Int) < (x.length : Int)) = false := by simp
    simp only [b48i, h0, h1, h5, h6, oa', ob', la, lb, xa, xb, lu, c1, rwA, rwB, Nat.reduceAdd, Nat.reduceMul, Nat.reduceLeDiff, Int.reduceEq, Int.reduceLT, Int.reduceLE, Int.reduceAdd, Int.reduceSub, Int.reduceMul, ↓reduceIte, Nat.reduceEqDiff, reduceCtorEq, ↓cnd_true, ↓cnd_false]
    rw [outs_some]
    rw [List.take_length, he, List.take_length] at hp
    exact .inr ⟨by simp, rfl, .inl ⟨rfl, hp, by simp [Env.set, h0, E0], by simp [Env.set, h1, E1], by simp [Env.set, h5, E5]⟩⟩

def b48 : ACode := (.seq (.seq (.region [⟨(some 12), (.mv (.tmp 5)), none, none⟩, ⟨(some 13), (.mv (.tmp 0)), none, none⟩, ⟨(some 14), (.len false (.tmp 13)), none, none⟩, ⟨(some 15), (.bin .lss (.tmp 12) (.tmp 14)), none, none⟩]) (.cond (.tmp 15) .skip (.exit 0))) (.seq (.block 1 (.seq (.seq (.draw [⟨(some 18), (.mv (.tmp 0)), none, none⟩, ⟨(some 19), (.mv (.tmp 5)), none, none⟩, ⟨(some 20), (.idxASl 1 (.tmp 18) (.tmp 19)), none, none⟩, ⟨(some 21), (.load false 1 (.tmp 20)), none, none⟩, ⟨(some 22), (.len false (.tmp 21)), none, none⟩, ⟨(some 23), (.mv (.tmp 1)), none, none⟩, ⟨(some 24), (.mv (.tmp 5)), none, none⟩, ⟨(some 25), (.idxASl 1 (.tmp 23) (.tmp 24)), none, none⟩, ⟨(some 26), (.load false 1 (.tmp 25)), none, none⟩, ⟨(some 27), (.len false (.tmp 26)), none, none⟩, ⟨(some 28), (.bin .neq (.tmp 22) (.tmp 27)), none, none⟩]) (.cond (.tmp 28) (.seq (.region [⟨(some 4), (.mv (.con (.bool false))), none, none⟩]) .ret) .skip)) (.seq (.region [⟨(some 6), (.mv (.con (.int .i64 0))), none, none⟩]) (.block 2 (.loop (.seq (.seq (.region [⟨(some 29), (.mv (.tmp 6)), none, none⟩, ⟨(some 30), (.mv (.tmp 0)), none, none⟩, ⟨(some 31), (.mv (.tmp 5)), none, none⟩, ⟨(some 32), (.idxASl 1 (.tmp 30) (.tmp 31)), none, none⟩, ⟨(some 33), (.load false 1 (.tmp 32)), none, none⟩, ⟨(some 34), (.len false (.tmp 33)), none, none⟩, ⟨(some 35), (.bin .lss (.tmp 29) (.tmp 34)), none, none⟩]) (.cond (.tmp 35) .skip (.exit 2))) (.seq (.block 3 (.seq (.draw [⟨(some 38), (.mv (.tmp 0)), none, none⟩, ⟨(some 39), (.mv (.tmp 5)), none, none⟩, ⟨(some 40), (.idxASl 1 (.tmp 38) (.tmp 39)), none, none⟩, ⟨(some 41), (.load false 1 (.tmp 40)), none, none⟩, ⟨(some 42), (.mv (.tmp 6)), none, none⟩, ⟨(some 43), (.idxASl 2 (.tmp 41) (.tmp 42)), none, none⟩, ⟨(some 44), (.load true 2 (.tmp 43)), none, none⟩, ⟨(some 45), (.mv (.tmp 1)), none, none⟩, ⟨(some 46), (.mv (.tmp 5)), none, none⟩, ⟨(some 47), (.idxASl 1 (.tmp 45) (.tmp 46)), none, none⟩, ⟨(some 48), (.load false 1 (.tmp 47)), none, none⟩, ⟨(some 49), (.mv (.tmp 6)), none, none⟩, ⟨(some 50), (.idxASl 2 (.tmp 48) (.tmp 49)), none, none⟩, ⟨(some 51), (.load true 2 (.tmp 50)), none, none⟩, ⟨(some 52), (.eq true (.fld 0 1 false (.int .i64) (.fld 1 1 false .str .fend)) (.tmp 44) (.tmp 51)), none, none⟩]) (.cond (.tmp 52) (.seq (.region [⟨(some 4), (.mv (.con (.bool false))), none, none⟩]) .ret) .skip))) (.region [⟨(some 36), (.mv (.tmp 6)), none, none⟩, ⟨(some 37), (.bin .add (.tmp 36) (.con (.int .i64 1))), none, none⟩, ⟨(some 6), (.mv (.tmp 37)), none, none⟩])))))))) (.region [⟨(some 16), (.mv (.tmp 5)), none, none⟩, ⟨(some 17), (.bin .add (.tmp 16) (.con (.int .i64 1))), none, none⟩, ⟨(some 5), (.mv (.tmp 17)), none, none⟩])))
theorem loop48 {H : AHeap} {av bv : AVal} {pl ql : List (AVal × List Im)} (ha : Sl H 1 av (pl.map (·.1))) (hb : Sl H 1 bv (ql.map (·.1))) (hp : LL H pl) (hq : LL H ql) (he : pl.length = ql.length) (hn : pl.length ≤ 10000) (hm : ∀ x, x ∈ pl → x.2.length ≤ 8796093022208) {env : Env}
    (h0 : env 0 = av) (h1 : env 1 = bv) (h5 : env 5 = .int .i64 0) :
    Outs (AX A (.loop b48) env H) fun e env' K => (e = .exit 0 ∧ pl.map (·.2) = ql.map (·.2)) ∨ (e = .ret ∧ env' 4 = .bool false ∧ pl.map (·.2) ≠ ql.map (·.2)) := by
  refine loop_ends (I := fun (j : Nat) env' K => j ≤ pl.length ∧ K = H ∧ env' 0 = av ∧ env' 1 = bv ∧ env' 5 = .int .i64 (j : Int) ∧ (pl.take j).map (·.2) = (ql.take j).map (·.2)) (fun j => pl.length - j) ?_ 0 env H
    ⟨Nat.zero_le _, rfl, h0, h1, h5, by simp⟩
  rintro j env1 _ ⟨hj, rfl, h0, h1, h5, hpq⟩
  have la := ha.alen
  have sa : slen av = pl.length := by have := ha.length; simp at this; omega
  rw [sa] at la
  by_cases c : j < pl.length
  · have c1 : decide ((j : Int) < (pl.length : Int)) = true := by simp; omega
    have w1 : IntKind.i64.wrap ((j : Int) + 1) = ((j + 1 : Nat) : Int) := by rw [wrap_i64]; omega
    obtain ⟨id, off, cp, g, k, own, rfl, ho, _, hc⟩ := ha.elem1 c
    obtain ⟨id2, off2, cp2, g2, k2, own2, rfl, ho2, _, hc2⟩ := hb.elem1 (i := j) (by omega)
    have xa : aidx pl.length (.int .i64 (j : Int)) = some j := by simp [aidx]; omega
    have xb : aidx ql.length (.int .i64 (j : Int)) = some j := by simp [aidx]; omega
    have ge : ∀ (l : List (AVal × List Im)) (h : j < l.length), l.take (j + 1) = l.take j ++ [l[j]] := fun l h => by
      rw [List.take_add_one, List.getElem?_eq_getElem h]; rfl
    have gp := ge pl c
    have gq := ge ql (by omega)
    have hs := hp.s _ (List.getElem_mem c)
    have hs2 := hq.s _ (List.getElem_mem (l := ql) (n := j) (by omega))
    have hmm := hm _ (List.getElem_mem c)
    have gne : ∀ {x y : List Im}, (pl[j]).2 = x → (ql[j]'(by omega)).2 = y → x ≠ y → pl.map (·.2) ≠ ql.map (·.2) := by
      intro x y e1 e2 hne h
      apply hne
      have := congrArg (fun l => l[j]?) h
      simp [c, show j < ql.length by omega, e1, e2] at this
      exact this
    obtain ⟨⟨u, x⟩, ex⟩ : ∃ x, pl[j] = x := ⟨_, rfl⟩
    obtain ⟨⟨w, y⟩, ey⟩ : ∃ x, ql[j]'(by omega) = x := ⟨_, rfl⟩
    have bad := gne (x := x) (y := y) (by rw [ex]) (by rw [ey])
    rw [ex] at hc hs gp hmm
    rw [ey] at hc2 hs2 gq
    simp only at hc hs hc2 hs2 hmm
    have lu := hs.alen
    rw [slen_fm ic_len (by decide) hs] at lu
    have lw := hs2.alen
    rw [slen_fm ic_len (by decide) hs2] at lw
    cases c2 : decide ((x.length : Int) = (y.length : Int))
    · simp only [b48, h0, h1, h5, la, c1, xa, xb, ho, ho2, hc, hc2, lu, lw, c2, rwA, rwB, Nat.reduceAdd, Nat.reduceMul, Nat.reduceLeDiff, Int.reduceEq, Int.reduceLT, Int.reduceLE, Int.reduceAdd, Int.reduceSub, Int.reduceMul, ↓reduceIte, Nat.reduceEqDiff, reduceCtorEq, ↓cnd_true, ↓cnd_false]
      rw [outs_some]
      exact .inr ⟨by simp, .inr ⟨rfl, by simp [Env.set], bad (fun h => by rw [h] at c2; simp at c2)⟩⟩
    · have hxy : x.length = y.length := by have := of_decide_eq_true c2; omega
      simp only [b48, h0, h1, h5, la, c1, xa, xb, ho, ho2, hc, hc2, lu, lw, c2, rwA, rwB, Nat.reduceAdd, Nat.reduceMul, Nat.reduceLeDiff, Int.reduceEq, Int.reduceLT, Int.reduceLE, Int.reduceAdd, Int.reduceSub, Int.reduceMul, ↓reduceIte, Nat.reduceEqDiff, reduceCtorEq, ↓cnd_true, ↓cnd_false]
      repeat (first | refine outs_seq ?_ | refine outs_block ?_ | refine outs_step ?_ | refine outs_stepD ?_ | refine rets_end ?_ | refine ans_end ?_)
      refine (loop48i (ga := g) (gb := g2) (ca := cp) (cb := cp2) ho ho2 hc hc2 xa xb hs hs2 hxy hmm ?_ ?_ ?_ ?_).mono ?_
      · simp [Env.set, h0]
      · simp [Env.set, h1]
      · simp [Env.set, h5]
      · simp [Env.set]
      rintro e env2 K1 ⟨rfl, (⟨rfl, hxy, q0, q1, q5⟩ | ⟨rfl, q4, hne⟩)⟩
      · have r0 := q0.trans (show _ = AVal.slice id off pl.length cp g by simp [Env.set, h0])
        have r1 := q1.trans (show _ = AVal.slice id2 off2 ql.length cp2 g2 by simp [Env.set, h1])
        have r5 := q5.trans (show _ = AVal.int .i64 (j : Int) by simp [Env.set, h5])
        simp only [outs_some, r0, r1, r5, w1, rwA, rwB, Nat.reduceAdd, Nat.reduceMul, Nat.reduceLeDiff, Int.reduceEq, Int.reduceLT, Int.reduceLE, Int.reduceAdd, Int.reduceSub, Int.reduceMul, ↓reduceIte, Nat.reduceEqDiff, reduceCtorEq, ↓cnd_true, ↓cnd_false]
        refine .inl ⟨trivial, j + 1, by omega, by omega, trivial, by simp [Env.set, r0], by simp [Env.set, r1], by simp [Env.set], ?_⟩
        rw [gp, gq, List.map_append, List.map_append, hpq, List.map_singleton, List.map_singleton, hxy]
      · simp only [outs_some, rwA, rwB, Nat.reduceAdd, Nat.reduceMul, Nat.reduceLeDiff, Int.reduceEq, Int.reduceLT, Int.reduceLE, Int.reduceAdd, Int.reduceSub, Int.reduceMul, ↓reduceIte, Nat.reduceEqDiff, reduceCtorEq, ↓cnd_true, ↓cnd_false]
        exact .inr ⟨by simp, .inr ⟨trivial, q4, bad hne⟩⟩
  · have e : j = pl.length := by omega
    subst e
    have c1 : decide ((pl.length : Int) < (pl.length : Int)) = false := by simp
    simp only [b48, h0, h1, h5, la, c1, rwA, rwB, Nat.reduceAdd, Nat.reduceMul, Nat.reduceLeDiff, Int.reduceEq, Int.reduceLT, Int.reduceLE, Int.reduceAdd, Int.reduceSub, Int.reduceMul, ↓reduceIte, Nat.reduceEqDiff, reduceCtorEq, ↓cnd_true, ↓cnd_false]
    rw [outs_some]
    rw [List.take_length, he, List.take_length] at hpq
    exact .inr ⟨by simp, .inl ⟨rfl, hpq⟩⟩

theorem U48 {H : AHeap} {av bv : AVal} {pl ql : List (AVal × List Im)} (ha : Sl H 1 av (pl.map (·.1))) (hb : Sl H 1 bv (ql.map (·.1))) (hp : LL H pl) (hq : LL H ql) (hn : pl.length ≤ 10000) (hm : ∀ x, x ∈ pl → x.2.length ≤ 8796093022208) :
    AC A 48 [av, bv] H = some (.bool (decide (pl.map (·.2) = ql.map (·.2))), H) := by
  refine look_val (x := DnFns.c48) rfl rfl rfl rfl ?_
  have fp : ∀ {l : List (AVal × List Im)}, LL H l → LL (frz H) l := fun h => ⟨fun x hx => (h.s x hx).frz, h.lt⟩
  have fa := ha.frz
  have fb := hb.frz
  have la := fa.alen
  have sa : slen av = pl.length := by have := ha.length; simp at this; omega
  rw [sa] at la
  have lb := fb.alen
  have sb : slen bv = ql.length := by have := hb.length; simp at this; omega
  rw [sb] at lb
  cases c1 : decide ((pl.length : Int) = (ql.length : Int))
  · have e : decide (pl.map (·.2) = ql.map (·.2)) = false := by
      refine decide_eq_false (fun h => ?_)
      have := congrArg List.length h
      simp at this c1; omega
    rw [e]
    simp only [c48, la, lb, c1, rwA, rwB, Nat.reduceAdd, Nat.reduceMul, Nat.reduceLeDiff, Int.reduceEq, Int.reduceLT, Int.reduceLE, Int.reduceAdd, Int.reduceSub, Int.reduceMul, ↓reduceIte, Nat.reduceEqDiff, reduceCtorEq, ↓cnd_true, ↓cnd_false]
  · have he : pl.length = ql.length := by have := of_decide_eq_true c1; omega
    simp only [c48, la, lb, c1, rwA, rwB, Nat.reduceAdd, Nat.reduceMul, Nat.reduceLeDiff, Int.reduceEq, Int.reduceLT, Int.reduceLE, Int.reduceAdd, Int.reduceSub, Int.reduceMul, ↓reduceIte, Nat.reduceEqDiff, reduceCtorEq, ↓cnd_true, ↓cnd_false]
    repeat (first | refine outs_seq ?_ | refine outs_block ?_ | refine outs_step ?_ | refine outs_stepD ?_ | refine rets_end ?_ | refine ans_end ?_)
    refine (loop48 fa fb (fp hp) (fp hq) he hn hm ?_ ?_ ?_).mono ?_
    · simp [Env.set, ainit]
    · simp [Env.set, ainit]
    · simp [Env.set]
    rintro e env K (⟨rfl, h⟩ | ⟨rfl, h4, h⟩)
    · rw [decide_eq_true h]
      simp only [outs_some, rwA, rwB, Nat.reduceAdd, Nat.reduceMul, Nat.reduceLeDiff, Int.reduceEq, Int.reduceLT, Int.reduceLE, Int.reduceAdd, Int.reduceSub, Int.reduceMul, ↓reduceIte, Nat.reduceEqDiff, reduceCtorEq, ↓cnd_true, ↓cnd_false]
    · rw [decide_eq_false h]
      simp only [outs_some, h4, rwA, rwB, Nat.reduceAdd, Nat.reduceMul, Nat.reduceLeDiff, Int.reduceEq, Int.reduceLT, Int.reduceLE, Int.reduceAdd, Int.reduceSub, Int.reduceMul, ↓reduceIte, Nat.reduceEqDiff, reduceCtorEq, ↓cnd_true, ↓cnd_false]

end Go.Proofs.YtilhjcnkaelheaaGreat.Dk
end

section
/- DiskWhole: behind a failure each sector is as it was, or as one of the writes left it. -/
set_option maxRecDepth 100000
set_option linter.unusedSimpArgs false
set_option linter.unusedVariables false
set_option maxHeartbeats 4000000
namespace Go.Proofs.YtilhjcnkaelheaaGreat.Dk
open Go Go.Proofs.YtilhjcnkaelheaaGreat.Am DnFns Go.RowKit
open Sd (Sec noughts home homeno ofHome ofNo opened unfit pad)

theorem u8_of {n : Int} (h0 : 0 ≤ n) (h1 : n ≤ 255) : ∃ b : UInt8, AVal.int .u8 n = by8 b := ⟨_, by8_of ⟨h0, by omega⟩⟩
theorem any_take {α : Type} (f : α → Bool) (l : List α) {j : Nat} (h : j < l.length) : (l.take (j + 1)).any f = ((l.take j).any f || f l[j]) := by
  rw [List.take_add_one, List.getElem?_eq_getElem h, Option.toList_some, List.any_append]
  simp only [List.any_cons, List.any_nil, Bool.or_false]


end Go.Proofs.YtilhjcnkaelheaaGreat.Dk
end

section
/- Journals: the document's Right. -/
set_option maxRecDepth 100000
set_option linter.unusedSimpArgs false
set_option linter.unusedVariables false
set_option maxHeartbeats 4000000
namespace Go.Proofs.YtilhjcnkaelheaaGreat.Dk
open Go Go.Proofs.YtilhjcnkaelheaaGreat.Am DnFns Go.RowKit
open Sd (Sec noughts home homeno ofHome ofNo opened unfit pad)

def b35i : ACode := (.seq (.seq (.region [⟨(some 34), (.mv (.tmp 4)), none, none⟩, ⟨(some 35), (.mv (.tmp 3)), none, none⟩, ⟨(some 36), (.bin .lss (.tmp 34) (.tmp 35)), none, none⟩]) (.cond (.tmp 36) .skip (.exit 2))) (.seq (.block 3 (.seq (.draw [⟨(some 39), (.mv (.tmp 0)), none, none⟩, ⟨(some 40), (.mv (.tmp 4)), none, none⟩, ⟨(some 41), (.idxASl 2 (.tmp 39) (.tmp 40)), none, none⟩, ⟨(some 42), (.fieldA 0 (.tmp 41)), none, none⟩, ⟨(some 43), (.load false 1 (.tmp 42)), none, none⟩, ⟨(some 44), (.mv (.tmp 0)), none, none⟩, ⟨(some 45), (.mv (.tmp 3)), none, none⟩, ⟨(some 46), (.idxASl 2 (.tmp 44) (.tmp 45)), none, none⟩, ⟨(some 47), (.fieldA 0 (.tmp 46)), none, none⟩, ⟨(some 48), (.load false 1 (.tmp 47)), none, none⟩, ⟨(some 49), (.bin .eql (.tmp 43) (.tmp 48)), none, none⟩]) (.cond (.tmp 49) (.seq (.region [⟨(some 2), (.mv (.con (.bool false))), none, none⟩]) .ret) .skip))) (.region [⟨(some 37), (.mv (.tmp 4)), none, none⟩, ⟨(some 38), (.bin .add (.tmp 37) (.con (.int .i64 1))), none, none⟩, ⟨(some 4), (.mv (.tmp 38)), none, none⟩])))
theorem loop35i {H : AHeap} {lv : AVal} {l : List Im} (hl : Sl H 2 lv (l.flatMap ic)) (hn : l.length ≤ 8796093022208) {i : Nat} (hi : i < l.length) {env : Env}
    (h0 : env 0 = lv) (h3 : env 3 = .int .i64 (i : Int)) (h4 : env 4 = .int .i64 0) :
    Outs (AX A (.loop b35i) env H) fun e env' K => K = H ∧ ((e = .exit 2 ∧ env' 0 = lv ∧ env' 3 = .int .i64 (i : Int) ∧ ((l.take i).any fun y => decide (y.page = l[i].page)) = false) ∨ (e = .ret ∧ env' 2 = .bool false ∧ ((l.take i).any fun y => decide (y.page = l[i].page)) = true)) := by
  refine loop_ends (I := fun (j : Nat) env' K => j ≤ i ∧ K = H ∧ env' 0 = lv ∧ env' 3 = .int .i64 (i : Int) ∧ env' 4 = .int .i64 (j : Int) ∧ ((l.take j).any fun y => decide (y.page = l[i].page)) = false) (fun j => i - j) ?_ 0 env H
    ⟨Nat.zero_le _, rfl, h0, h3, h4, by simp⟩
  rintro j env1 _ ⟨hj, rfl, h0, h3, h4, hp⟩
  by_cases c : j < i
  · have c1 : decide ((j : Int) < (i : Int)) = true := by simp; omega
    have w1 : IntKind.i64.wrap ((j : Int) + 1) = ((j + 1 : Nat) : Int) := by rw [wrap_i64]; omega
    have hl2 := hl
    obtain ⟨id, off, cp, g, k, own, rfl, ho, _, _, hc⟩ := hl.elem (i := j) ic_len (by decide) (by omega)
    obtain ⟨id2, off2, cp2, g2, k2, own2, e2, ho2, _, _, hc2⟩ := hl2.elem ic_len (by decide) hi
    cases e2
    rw [ho] at ho2
    cases ho2
    have xa : aidx l.length (.int .i64 (j : Int)) = some j := by simp [aidx]; omega
    have xb : aidx l.length (.int .i64 (i : Int)) = some i := by simp [aidx]; omega
    have p0 := hc 0 (by decide)
    have q0 := hc2 0 (by decide)
    have ha := any_take (fun y : Im => decide (y.page = l[i].page)) l (j := j) (by omega)
    rw [hp, Bool.false_or] at ha
    have mo : ∀ {n : Nat}, n ≤ i → ((l.take n).any fun y => decide (y.page = l[i].page)) = true → ((l.take i).any fun y => decide (y.page = l[i].page)) = true := by
      intro n h1 h2
      rw [List.any_eq_true] at h2 ⊢
      obtain ⟨x, hx, h3⟩ := h2
      refine ⟨x, ?_, h3⟩
      have : l.take n = (l.take i).take n := by rw [List.take_take]; congr 1; omega
      rw [this] at hx
      exact List.mem_of_mem_take hx
    obtain ⟨x, ex⟩ : ∃ x, l[j]'(by omega) = x := ⟨_, rfl⟩
    obtain ⟨y, ey⟩ : ∃ x, l[i] = x := ⟨_, rfl⟩
    rw [ex] at p0 ha
    rw [ey] at q0 ha mo hp
    have p0 : k[off + j * 2]? = some (.int .i64 x.page) := p0
    have q0 : k[off + i * 2]? = some (.int .i64 y.page) := q0
    rw [ey]
    cases c2 : decide (x.page = y.page) <;> rw [c2] at ha
    · simp only [b35i, h0, h3, h4, c1, xa, xb, ho, p0, q0, c2, w1, rwA, rwB, Nat.reduceAdd, Nat.reduceMul, Nat.reduceLeDiff, Int.reduceEq, Int.reduceLT, Int.reduceLE, Int.reduceAdd, Int.reduceSub, Int.reduceMul, ↓reduceIte, Nat.reduceEqDiff, reduceCtorEq, ↓cnd_true, ↓cnd_false]
      rw [outs_some]
      exact .inl ⟨rfl, j + 1, by omega, by omega, rfl, by simp [Env.set, h0], by simp [Env.set, h3], by simp [Env.set], ha⟩
    · simp only [b35i, h0, h3, h4, c1, xa, xb, ho, p0, q0, c2, w1, rwA, rwB, Nat.reduceAdd, Nat.reduceMul, Nat.reduceLeDiff, Int.reduceEq, Int.reduceLT, Int.reduceLE, Int.reduceAdd, Int.reduceSub, Int.reduceMul, ↓reduceIte, Nat.reduceEqDiff, reduceCtorEq, ↓cnd_true, ↓cnd_false]
      rw [outs_some]
      exact .inr ⟨by simp, rfl, .inr ⟨rfl, by simp [Env.set], mo (by omega) ha⟩⟩
  · have e : j = i := by omega
    subst e
    have c1 : decide ((j : Int) < (j : Int)) = false := by simp
    simp only [b35i, h0, h3, h4, c1, rwA, rwB, Nat.reduceAdd, Nat.reduceMul, Nat.reduceLeDiff, Int.reduceEq, Int.reduceLT, Int.reduceLE, Int.reduceAdd, Int.reduceSub, Int.reduceMul, ↓reduceIte, Nat.reduceEqDiff, reduceCtorEq, ↓cnd_true, ↓cnd_false]
    rw [outs_some]
    exact .inr ⟨by simp, rfl, .inl ⟨rfl, by simp [Env.set, h0], by simp [Env.set, h3], hp⟩⟩

def b35 : ACode := (.seq (.seq (.region [⟨(some 5), (.mv (.tmp 3)), none, none⟩, ⟨(some 6), (.mv (.tmp 0)), none, none⟩, ⟨(some 7), (.len false (.tmp 6)), none, none⟩, ⟨(some 8), (.bin .lss (.tmp 5) (.tmp 7)), none, none⟩]) (.cond (.tmp 8) .skip (.exit 0))) (.seq (.block 1 (.seq (.seq (.region [⟨(some 11), (.mv (.tmp 0)), none, none⟩, ⟨(some 12), (.mv (.tmp 3)), none, none⟩, ⟨(some 13), (.idxASl 2 (.tmp 11) (.tmp 12)), none, none⟩, ⟨(some 14), (.fieldA 0 (.tmp 13)), none, none⟩, ⟨(some 15), (.load false 1 (.tmp 14)), none, none⟩, ⟨(some 16), (.bin .lss (.tmp 15) (.con (.int .i64 0))), none, none⟩, ⟨(some 17), (.mv (.tmp 16)), none, none⟩, ⟨(some 18), (.mv (.tmp 0)), (some (17, false)), none⟩, ⟨(some 19), (.mv (.tmp 3)), (some (17, false)), none⟩, ⟨(some 20), (.idxASl 2 (.tmp 18) (.tmp 19)), (some (17, false)), none⟩, ⟨(some 21), (.fieldA 0 (.tmp 20)), (some (17, false)), none⟩, ⟨(some 22), (.load false 1 (.tmp 21)), (some (17, false)), none⟩, ⟨(some 23), (.bin .gtr (.tmp 22) (.con (.int .i64 3839))), (some (17, false)), none⟩, ⟨(some 24), (.pick (.tmp 17) (.con (.bool true)) (.tmp 23)), none, none⟩, ⟨(some 25), (.mv (.tmp 24)), none, none⟩, ⟨(some 26), (.mv (.tmp 0)), (some (25, false)), none⟩, ⟨(some 27), (.mv (.tmp 3)), (some (25, false)), none⟩, ⟨(some 28), (.idxASl 2 (.tmp 26) (.tmp 27)), (some (25, false)), none⟩, ⟨(some 29), (.fieldA 1 (.tmp 28)), (some (25, false)), none⟩, ⟨(some 30), (.load false 1 (.tmp 29)), (some (25, false)), none⟩, ⟨(some 31), (.len true (.tmp 30)), (some (25, false)), none⟩, ⟨(some 32), (.bin .neq (.tmp 31) (.con (.int .i64 480))), (some (25, false)), none⟩, ⟨(some 33), (.pick (.tmp 25) (.con (.bool true)) (.tmp 32)), none, none⟩]) (.cond (.tmp 33) (.seq (.region [⟨(some 2), (.mv (.con (.bool false))), none, none⟩]) .ret) .skip)) (.seq (.region [⟨(some 4), (.mv (.con (.int .i64 0))), none, none⟩]) (.block 2 (.loop (.seq (.seq (.region [⟨(some 34), (.mv (.tmp 4)), none, none⟩, ⟨(some 35), (.mv (.tmp 3)), none, none⟩, ⟨(some 36), (.bin .lss (.tmp 34) (.tmp 35)), none, none⟩]) (.cond (.tmp 36) .skip (.exit 2))) (.seq (.block 3 (.seq (.draw [⟨(some 39), (.mv (.tmp 0)), none, none⟩, ⟨(some 40), (.mv (.tmp 4)), none, none⟩, ⟨(some 41), (.idxASl 2 (.tmp 39) (.tmp 40)), none, none⟩, ⟨(some 42), (.fieldA 0 (.tmp 41)), none, none⟩, ⟨(some 43), (.load false 1 (.tmp 42)), none, none⟩, ⟨(some 44), (.mv (.tmp 0)), none, none⟩, ⟨(some 45), (.mv (.tmp 3)), none, none⟩, ⟨(some 46), (.idxASl 2 (.tmp 44) (.tmp 45)), none, none⟩, ⟨(some 47), (.fieldA 0 (.tmp 46)), none, none⟩, ⟨(some 48), (.load false 1 (.tmp 47)), none, none⟩, ⟨(some 49), (.bin .eql (.tmp 43) (.tmp 48)), none, none⟩]) (.cond (.tmp 49) (.seq (.region [⟨(some 2), (.mv (.con (.bool false))), none, none⟩]) .ret) .skip))) (.region [⟨(some 37), (.mv (.tmp 4)), none, none⟩, ⟨(some 38), (.bin .add (.tmp 37) (.con (.int .i64 1))), none, none⟩, ⟨(some 4), (.mv (.tmp 38)), none, none⟩])))))))) (.region [⟨(some 9), (.mv (.tmp 3)), none, none⟩, ⟨(some 10), (.bin .add (.tmp 9) (.con (.int .i64 1))), none, none⟩, ⟨(some 3), (.mv (.tmp 10)), none, none⟩])))
theorem loop35 {H : AHeap} {lv : AVal} {l : List Im} (hl : Sl H 2 lv (l.flatMap ic)) (hn : l.length ≤ 8796093022208) {env : Env}
    (h0 : env 0 = lv) (h3 : env 3 = .int .i64 0) :
    Outs (AX A (.loop b35) env H) fun e env' K => K = H ∧ ((e = .exit 0 ∧ env' 0 = lv ∧ chkN l l.length = true) ∨ (e = .ret ∧ env' 2 = .bool false ∧ chkN l l.length = false)) := by
  refine loop_ends (I := fun (j : Nat) env' K => j ≤ l.length ∧ K = H ∧ env' 0 = lv ∧ env' 3 = .int .i64 (j : Int) ∧ chkN l j = true) (fun j => l.length - j) ?_ 0 env H
    ⟨Nat.zero_le _, rfl, h0, h3, rfl⟩
  rintro j env1 _ ⟨hj, rfl, h0, h3, hp⟩
  have ll := hl.alen
  rw [slen_fm ic_len (by decide) hl] at ll
  by_cases c : j < l.length
  · have c1 : decide ((j : Int) < (l.length : Int)) = true := by simp; omega
    have w1 : IntKind.i64.wrap ((j : Int) + 1) = ((j + 1 : Nat) : Int) := by rw [wrap_i64]; omega
    have hl2 := hl
    obtain ⟨id, off, cp, g, k, own, rfl, ho, _, _, hc⟩ := hl.elem ic_len (by decide) c
    have xa : aidx l.length (.int .i64 (j : Int)) = some j := by simp [aidx]; omega
    have p0 := hc 0 (by decide)
    have p1 := hc 1 (by decide)
    have hs : chkN l (j + 1) = (okI l[j] && !((l.take j).any fun y => decide (y.page = l[j].page))) := by
      rw [chkN, hp, List.getElem?_eq_getElem c, Bool.true_and]
    have fails : chkN l (j + 1) = false → chkN l l.length = false := chkN_mono l (by omega)
    have L := fun env h0 h3 h4 => loop35i (env := env) hl2 hn c h0 h3 h4
    obtain ⟨x, ex⟩ : ∃ x, l[j] = x := ⟨_, rfl⟩
    rw [ex] at p0 p1 hs L
    have p0 : k[off + j * 2]? = some (.int .i64 x.page) := p0
    have p1 : k[off + (j * 2 + 1)]? = some (.str x.text) := p1
    unfold okI pgok at hs
    cases d1 : decide (x.page < 0)
    rotate_left
    · have e1 : decide (0 ≤ x.page) = false := by simp at d1; simp; omega
      rw [e1] at hs
      simp only [b35, h0, h3, ll, c1, xa, ho, p0, p1, d1, rwA, rwB, Nat.reduceAdd, Nat.reduceMul, Nat.reduceLeDiff, Int.reduceEq, Int.reduceLT, Int.reduceLE, Int.reduceAdd, Int.reduceSub, Int.reduceMul, ↓reduceIte, Nat.reduceEqDiff, reduceCtorEq, ↓cnd_true, ↓cnd_false]
      rw [outs_some]
      exact .inr ⟨by simp, rfl, .inr ⟨rfl, by simp [Env.set], fails (by rw [hs]; rfl)⟩⟩
    have e1 : decide (0 ≤ x.page) = true := by simp at d1; simp; omega
    rw [e1] at hs
    cases d2 : decide (3839 < x.page)
    rotate_left
    · have e2 : decide (x.page < 3840) = false := by simp at d2; simp; omega
      rw [e2] at hs
      simp only [b35, h0, h3, ll, c1, xa, ho, p0, p1, d1, d2, rwA, rwB, Nat.reduceAdd, Nat.reduceMul, Nat.reduceLeDiff, Int.reduceEq, Int.reduceLT, Int.reduceLE, Int.reduceAdd, Int.reduceSub, Int.reduceMul, ↓reduceIte, Nat.reduceEqDiff, reduceCtorEq, ↓cnd_true, ↓cnd_false]
      rw [outs_some]
      exact .inr ⟨by simp, rfl, .inr ⟨rfl, by simp [Env.set], fails (by rw [hs]; rfl)⟩⟩
    have e2 : decide (x.page < 3840) = true := by simp at d2; simp; omega
    rw [e2] at hs
    cases d3 : decide ((x.text.length : Int) = 480)
    · have e3 : decide (x.text.length = 480) = false := by simp at d3; simp; omega
      rw [e3] at hs
      simp only [b35, h0, h3, ll, c1, xa, ho, p0, p1, d1, d2, d3, rwA, rwB, Nat.reduceAdd, Nat.reduceMul, Nat.reduceLeDiff, Int.reduceEq, Int.reduceLT, Int.reduceLE, Int.reduceAdd, Int.reduceSub, Int.reduceMul, ↓reduceIte, Nat.reduceEqDiff, reduceCtorEq, ↓cnd_true, ↓cnd_false]
      rw [outs_some]
      exact .inr ⟨by simp, rfl, .inr ⟨rfl, by simp [Env.set], fails (by rw [hs]; rfl)⟩⟩
    have e3 : decide (x.text.length = 480) = true := by simp at d3; simp; omega
    rw [e3] at hs
    simp only [b35, h0, h3, ll, c1, xa, ho, p0, p1, d1, d2, d3, rwA, rwB, Nat.reduceAdd, Nat.reduceMul, Nat.reduceLeDiff, Int.reduceEq, Int.reduceLT, Int.reduceLE, Int.reduceAdd, Int.reduceSub, Int.reduceMul, ↓reduceIte, Nat.reduceEqDiff, reduceCtorEq, ↓cnd_true, ↓cnd_false]
    repeat (first | refine outs_seq ?_ | refine outs_block ?_ | refine outs_step ?_ | refine outs_stepD ?_ | refine rets_end ?_ | refine ans_end ?_)
    refine (L _ ?_ ?_ ?_).mono ?_
    · simp [Env.set, h0]
    · simp [Env.set, h3]
    · simp [Env.set]
    rintro e env2 K1 ⟨rfl, (⟨rfl, q0, q3, hz⟩ | ⟨rfl, q2, hz⟩)⟩
    · simp only [outs_some, q0, q3, w1, rwA, rwB, Nat.reduceAdd, Nat.reduceMul, Nat.reduceLeDiff, Int.reduceEq, Int.reduceLT, Int.reduceLE, Int.reduceAdd, Int.reduceSub, Int.reduceMul, ↓reduceIte, Nat.reduceEqDiff, reduceCtorEq, ↓cnd_true, ↓cnd_false]
      refine .inl ⟨trivial, j + 1, by omega, by omega, trivial, by simp [Env.set, q0], by simp [Env.set], ?_⟩
      rw [hs, hz]; rfl
    · simp only [outs_some, rwA, rwB, Nat.reduceAdd, Nat.reduceMul, Nat.reduceLeDiff, Int.reduceEq, Int.reduceLT, Int.reduceLE, Int.reduceAdd, Int.reduceSub, Int.reduceMul, ↓reduceIte, Nat.reduceEqDiff, reduceCtorEq, ↓cnd_true, ↓cnd_false]
      exact .inr ⟨by simp, trivial, .inr ⟨trivial, q2, fails (by rw [hs, hz]; rfl)⟩⟩
  · have e : j = l.length := by omega
    subst e
    have c1 : decide ((l.length : Int) < (l.length : Int)) = false := by simp
    simp only [b35, h0, h3, ll, c1, rwA, rwB, Nat.reduceAdd, Nat.reduceMul, Nat.reduceLeDiff, Int.reduceEq, Int.reduceLT, Int.reduceLE, Int.reduceAdd, Int.reduceSub, Int.reduceMul, ↓reduceIte, Nat.reduceEqDiff, reduceCtorEq, ↓cnd_true, ↓cnd_false]
    rw [outs_some]
    exact .inr ⟨by simp, rfl, .inl ⟨rfl, by simp [Env.set, h0], hp⟩⟩

theorem U35 {H : AHeap} {lv : AVal} {l : List Im} (hl : Sl H 2 lv (l.flatMap ic)) (hn : l.length ≤ 8796093022208) : AC A 35 [lv] H = some (.bool (chk l), H) := by
  refine look_val (x := DnFns.c35) rfl rfl rfl rfl ?_
  have hf := hl.frz
  have ll := hf.alen
  rw [slen_fm ic_len (by decide) hf] at ll
  simp only [c35, rwA, rwB, Nat.reduceAdd, Nat.reduceMul, Nat.reduceLeDiff, Int.reduceEq, Int.reduceLT, Int.reduceLE, Int.reduceAdd, Int.reduceSub, Int.reduceMul, ↓reduceIte, Nat.reduceEqDiff, reduceCtorEq, ↓cnd_true, ↓cnd_false]
  repeat (first | refine outs_seq ?_ | refine outs_block ?_ | refine outs_step ?_ | refine outs_stepD ?_ | refine rets_end ?_ | refine ans_end ?_)
  refine (loop35 hf hn ?_ ?_).mono ?_
  · simp [Env.set, ainit]
  · simp [Env.set]
  rintro e env K ⟨rfl, (⟨rfl, h0, h⟩ | ⟨rfl, h2, h⟩)⟩
  · have e : chk l = decide (0 < (l.length : Int)) := by
      unfold chk; rw [h]
      cases l
      · rfl
      · simp
    rw [e]
    simp only [outs_some, h0, ll, rwA, rwB, Nat.reduceAdd, Nat.reduceMul, Nat.reduceLeDiff, Int.reduceEq, Int.reduceLT, Int.reduceLE, Int.reduceAdd, Int.reduceSub, Int.reduceMul, ↓reduceIte, Nat.reduceEqDiff, reduceCtorEq, ↓cnd_true, ↓cnd_false]
  · have e : chk l = false := by unfold chk; rw [h]; simp
    rw [e]
    simp only [outs_some, h2, rwA, rwB, Nat.reduceAdd, Nat.reduceMul, Nat.reduceLeDiff, Int.reduceEq, Int.reduceLT, Int.reduceLE, Int.reduceAdd, Int.reduceSub, Int.reduceMul, ↓reduceIte, Nat.reduceEqDiff, reduceCtorEq, ↓cnd_true, ↓cnd_false]

end Go.Proofs.YtilhjcnkaelheaaGreat.Dk
end
